/- Lemmas for a claim about layer 2 (tree). No conditions but those they state. -/
import Derived.Test.YtbcmiempigoooaaGreatDoorNab
import Derived.Still
import Derived.Laws.Tables
import Derived.Wp
import Derived.RangeFuncRecord
import Derived.RecoverIn
set_option linter.all false
namespace Go.Eng
open Go.RowKit
inductive St where
  |asg (g:Option (Nat×Bool)) (d:Nat) (e:Ex)
  |eff (g:Option (Nat×Bool)) (dst:Option Nat) (op:Op) (type:TypeId)
inductive IR where
  |skip
  |reg (l:List St)
  |drw (l:List St)
  |seq (a b:IR)
  |cond (c:Ex) (a b:IR)
  |block (id:Nat) (a:IR)
  |loop (a:IR)
  |exit (id:Nat)
  |ret
  |raw (c:Code)
structure Ks where
  ex:Nat→qa→World→Prop
  rt:qa→World→Prop
  pn:qa→List PanicEntry→World→Prop
  og:Prop
  df:Prop
  rd:Prop
def Ks.noRd (Q:Ks):Ks:={Q with rd:=False}
def qm (ρ:qa) (d:Option Nat) (v:Value):qa:=match d with|none=>ρ|some d=>qu ρ d v
def gd (ρ:qa):Option (Nat×Bool)→Bool
  |none=>true
  |some (t,want)=>match ρ t with| .bool b=>b==want|_=>false
def qd (ρ:qa):Operand→Value
  | .tmp t=>ρ t
  |x=>Jg x
def qA (dst : Option Nat) (op : Op) (type : TypeId) : Oper := { dst, op, type, pos := "", after := #[], guard := none }
def wX (P:Program) (Q:Ks) (dst:Option Nat) (K:qa→World→Prop) (ρ:qa):Result Next→Prop
  | .ok (.value v) w'=>K (qm ρ dst v) w'
  | .ok .skip w'=>K (qm ρ dst undef) w'
  | .ok (.enter f args) w'=>Calls P f args w' fun
      | .returned v,w''=>K (qm ρ dst v) w''
      | .panicked chain,w''=>Q.pn ρ chain w''
      | .outgrown,_=>Q.og
  | .ok (.round l f tmps assign body) w'=>Q.rd∧RoundIn Fence.wide 0 P l f tmps assign body w' fun
      | .returned v,w''=>K (qm ρ dst v) w''
      | .panicked chain,w''=>Q.pn ρ chain w''
      | .outgrown,_=>Q.og
  | .ok (.defer d) w'=>Q.df∧K (qm (qu ρ gS (xS d (ρ gS))) dst undef) w'
  | .halt (.panic v) w'=>Q.pn ρ [{v,recovered:=false}] w'
  |_=>False
def j9 (P:Program) (Q:Ks) (dst:Option Nat) (op:Op) (type:TypeId) (K:qa→World→Prop) (ρ:qa) (w:World):Prop:=
  wX P Q dst K ρ ((execOp (qd ρ) (qA dst op type)).run P w)
def vJ (c:Option Value) (f:Value→Prop):Prop:=
  match c with
  |some v=>f v
  |none=>False
def vG (P:Program) (t:TypeId):Option (Array Value):=(P.info? t).bind fun i=>i.zero.map (·.cells)
def xG (P:Program) (t:TypeId):Option (TypeId×Nat):=
  match P.underlying t with
  |some (.slice e)=>(P.info? e).bind fun i=>if i.zero.isSome then some (e,i.size) else none
  |_=>none
def qf (P:Program) (f:FuncId):Bool:=
  match P.funcs[f]? with
  | some fn => !(fn.name == "runtime.NumGoroutine") && fn.body.isSome
  |none=>false
def jA (P:Program) (t:TypeId) (n:Nat):Bool:=match P.info? t with|some i=>i.size==n|none=>false
def wc (a:Addr):List Value→Nat→(World→Prop)→World→Prop
  |[],_,K,w=>K w
  |v::vs,i,K,w=>(∃old,w.cell? (a.add i)=some old)∧w.frozen? (a.add i)=false∧v.oneCell=true∧wc a vs (i+1) K (w.setCell (a.add i) v)
def xT (Q:Ks) (dst:Option Nat) (K:qa→World→Prop) (ρ:qa):Ending→World→Prop
  | .returned v,w''=>K (qm ρ dst v) w''
  | .panicked chain,w''=>Q.pn ρ chain w''
  | .outgrown,_=>Q.og
def yR (x:Value) (f:Addr→Prop):Prop:=match x with| .pointer (some a)=>f a|_=>False
def xl {α:Type} (c:Option α) (f:α→Prop):Prop:=match c with|some v=>f v|none=>False
def qeY (P:Program) (Q:Ks) (dst:Option Nat) (op:Op) (type:TypeId) (K:qa→World→Prop) (ρ:qa) (w:World) (args:Array Operand):Callee→Prop
  | .value (.func f)=>qf P f=true∧Calls P f (args.map (qd ρ)) w (xT Q dst K ρ)
  |_=>j9 P Q dst op type K ρ w
def qr (P:Program) (Q:Ks) (dst:Option Nat) (op:Op) (type:TypeId) (K:qa→World→Prop) (ρ:qa) (w:World):Prop:=
  match op with
  | .box t x=>K (qm ρ dst (.pointer (some ⟨w.heap.size,0,none⟩))) (w.alloc (.cells (qd ρ x).cells t))
  | .alloc t=>xl (vG P t) fun z=>K (qm ρ dst (.pointer (some ⟨w.heap.size,0,none⟩))) (w.alloc (.cells z t))
  | .store t p x=>jA P t (qd ρ x).cells.size=true∧yR (qd ρ p) fun a=>wc a (qd ρ x).cells.toList 0 (K (qm ρ dst undef)) w
  | .makeFunc fn fs cs=>K (qm ρ dst (.func fn (fs.map (qd ρ)) (cs.map (qd ρ)))) w
  | .build t ps=>xl (P.built t (ps.map fun p=>(p.1,qd ρ p.2)).toList) fun cells=>K (qm ρ dst (.agg cells)) w
  | .buildSlice t n ps=>xl (xG P t) fun es=>n*es.2≤1000∧ps.toList.map (·.1)=List.range n∧(∀p∈ps.toList,(qd ρ p.2).cells.size=es.2)∧
      K (qm ρ dst (.slice (some ⟨w.heap.size,0,none⟩) n n)) (w.alloc (.cells (ps.toList.flatMap fun p=>(qd ρ p.2).cells.toList).toArray es.1))
  | .call c=>qeY P Q dst op type K ρ w c.args c.callee
  |op=>j9 P Q dst op type K ρ w
def St.wp (P:Program) (Q:Ks):St→(qa→World→Prop)→qa→World→Prop
  | .asg g d e,K,ρ,w=>if gd ρ g then vJ (e.ev ρ w) (fun v=>K (qu ρ d v) w) else K (qu ρ d undef) w
  | .eff g dst op type,K,ρ,w=>if gd ρ g then qr P Q dst op type K ρ w else K (qm ρ dst undef) w
def qV (P:Program) (Q:Ks):List St→(qa→World→Prop)→qa→World→Prop
  |[],K,ρ,w=>K ρ w
  |s::r,K,ρ,w=>s.wp P Q (qV P Q r K) ρ w
def qbz (P:Program) (w0:World) (dst:Option Nat) (op:Op) (type:TypeId) (ρ:qa) (v:Value):Prop:=
  match op with
  | .call {callee:= .value (.func f),args, .. }=>qf P f=true∧∀w,qb w0 w→Calls P f (args.map (qd ρ)) w (fun e w'=>e= .returned v∧qb w0 w')
  |_=>∀w,qb w0 w→Oper.quietUpon P (qb w0) w v ((execOp (qd ρ) (qA dst op type)).run P w)
def ja (P:Program) (w0:World):List St→(qa→Prop)→qa→Prop
  |[],K,ρ=>K ρ
  | .asg g d e::r,K,ρ=>if gd ρ g then vJ (e.ev ρ w0) (fun v=>ja P w0 r K (qu ρ d v)) else ja P w0 r K (qu ρ d undef)
  | .eff g dst op type::r,K,ρ=>if gd ρ g then∃v,qbz P w0 dst op type ρ v∧ja P w0 r K (qm ρ dst v)
      else ja P w0 r K (qm ρ dst undef)
structure Cx where
  P:Program
  n:Nat
  V:List Nat
  D:List Deferred
def jT (cx:Cx) (a:Act):Prop:=cx.D=[]→a.defers=[]
def xw (cx:Cx) (K:qa→World→Prop) (Q:Ks):Exit→Act→World→Prop
  | .normal,a,w=>jT cx a∧∃ρ,Agree cx.n cx.V ρ a∧K ρ w
  | .exit i,a,w=>jT cx a∧∃ρ,Agree cx.n cx.V ρ a∧Q.ex i ρ w
  | .ret,a,w=>jT cx a∧∃ρ,Agree cx.n cx.V ρ a∧Q.rt ρ w
  | .panic c,a,w=>jT cx a∧∃ρ,Agree cx.n cx.V ρ a∧Q.pn ρ c w
  | .outgrown,_,_=>Q.og
  | .goto _,_,_=>False
def yo (c:Option Value) (x y:Prop):Prop:=
  match c with
  |some (.bool true)=>x
  |some (.bool false)=>y
  |_=>False
def IR.wp (cx:Cx):IR→(qa→World→Prop)→Ks→qa→World→Prop
  | .skip,K,_,ρ,w=>K ρ w
  | .reg l,K,Q,ρ,w=>qV cx.P Q l K ρ w
  | .drw l,K,_,ρ,w=>ja cx.P w l (fun ρ'=>∀w',qb w w'→K ρ' w') ρ
  | .seq a b,K,Q,ρ,w=>a.wp cx (fun ρ' w'=>b.wp cx K Q ρ' w') Q ρ w
  | .cond c a b,K,Q,ρ,w=>yo (c.ev ρ w) (a.wp cx K Q ρ w) (b.wp cx K Q ρ w)
  | .block id a,K,Q,ρ,w=>a.wp cx K {Q with ex:=fun i=>if i=id then K else Q.ex i} ρ w
  | .loop a,_,Q,ρ,w=>∃(I:qa→World→Prop) (μ:qa→World→Nat),I ρ w∧∀ρ' w',I ρ' w'→a.wp cx (fun ρ'' w''=>I ρ'' w''∧μ ρ'' w''<μ ρ' w') Q ρ' w'
  | .exit id,_,Q,ρ,w=>Q.ex id ρ w
  | .ret,_,Q,ρ,w=>Q.rt ρ w
  | .raw c,K,Q,ρ,w=>∀a,Agree cx.n cx.V ρ a→jT cx a→(Q.df→cx.D≠[])→c.wp cx.P (xw cx K Q) a w
section
variable (P:Program) (ops:Array Oper) (V:List Nat)
def tg (g : Option (Nat × Bool)) (j : Nat) : Option (Option (Nat × Bool)) :=
  match g with
  |none=>some none
  |some (i,want)=>match vf ops i with
    |some t=>if V.contains t=true∧i<j then some (some (t,want)) else none
    |none=>none
def Qg (o:Oper):Bool:=
  (o.op.operands.toList.all fun x=> !vu V x)&&(match o.op with| .select .. =>false|_=>true)&&(match o.dst with|some d=>V.contains d|none=>true)
def x7 : Nat → Nat → Option (List St)
  |_,0=>some []
  |0,_+1=>none
  |fuel+1,k+1=>
    match ops[k]? with
    |none=>none
    |some o=>
      match px P ops V (k+1) k,o.dst with
      |some (e,j),some d=>if V.contains d then (tg ops V o.guard j).bind fun g=>(x7 fuel j).map (· ++[.asg g d e]) else none
      |_,_=>if Qg V o then (tg ops V o.guard k).bind fun g=>(x7 fuel k).map (· ++[.eff g o.dst o.op o.type]) else none
def qje:List (Option Nat):=ops.toList.map (·.dst)
def yV:List (Option Nat)→Bool
  |[]=>true
  |none::l=>yV l
  |some d::l=> !l.contains (some d)&&yV l
def QJ (n:Nat):Bool:=yV (qje ops)&&ops.toList.all fun o=>match o.dst with|some d=>decide (d<n)|none=>true
end
def qT (P : Program) (n : Nat) (V : List Nat) (rawIds : List Nat) : Code → Option IR
  | .skip=>some .skip
  | .region id ops draw=>
    if rawIds.contains id then some (.raw (.region id ops draw)) else
    if QJ ops n then
      match x7 P ops V ops.size ops.size with
      |none=>none
      |some l=>if draw then (if Region.lexB .any ops&&P.follows .mixedOrders then some (.drw l) else none) else some (.reg l)
    else none
  | .seq a b=>match qT P n V rawIds a,qT P n V rawIds b with
    |some x,some y=>some (.seq x y)
    |_,_=>none
  | .cond c a b=>if vu V c then none else match qT P n V rawIds a,qT P n V rawIds b with
    |some x,some y=>some (.cond (xx c) x y)
    |_,_=>none
  | .block id a=>match qT P n V rawIds a with
    |some x=>some (.block id x)
    |none=>none
  | .loop a=>match qT P n V rawIds a with
    |some x=>some (.loop x)
    |none=>none
  | .exit id=>some (.exit id)
  | .ret=>some .ret
  |c=>some (.raw c)
theorem qk8 {P:Program} {f:FuncId} (h:qf P f=true) {ρ:qa} {args:Array Operand} {a:Array TypeId} {dst:Option Nat} {type:TypeId} (w:World):
    (execOp (qd ρ) (qA dst (.call {callee:= .value (.func f),args,argTypes:=a}) type)).run P w= .ok (.enter f (args.map (qd ρ))) w:=by
  unfold qf at h;split at h
  · rename_i fn e;simp only [Bool.and_eq_true,Bool.not_eq_true',beq_eq_false_iff_ne,ne_eq] at h;cases b:fn.body with
    |none=>simp [b] at h
    |some c=>simp [execOp,qA,resolve,qd,Jg,Deferred.ofValue,invoke,callFunc,e,h.1,b]
  · cases h
theorem qfZ {P:Program} (a:Addr):∀(vs:List Value) (i:Nat) (K:World→Prop) (w:World),wc a vs i K w→∃w',(storeCells a vs i).run P w= .ok () w'∧K w'
  |[],i,K,w,h=>⟨w,by simp [storeCells],h⟩
  | v :: vs, i, K, w, h => by
    obtain ⟨⟨old,b⟩,c,l,g⟩:=h;obtain ⟨w',k,e⟩:=qfZ (P:=P) a vs (i+1) K _ g;refine ⟨w', ?_,e⟩;simp only [storeCells,Sem.run_bind];have j:(store (a.add i) v).run P w= .ok () (w.setCell (a.add i) v):=by
      cases v<;>first|(cases l;done)|simp [store,Sem.run,b,c]
    rw [j];simpa using k
theorem qs5 (size : Nat) : ∀ (ps : List (Nat × Value)) (k : Nat) (a cells : List Value), ps.map (·.1) = List.range' k ps.length → (∀ p ∈ ps, p.2.cells.size = size) → a.length = k * size → cells.length = ps.length * size →
    Instr.fill (fun i=>some (i*size,size)) (a++cells).toArray ps=some (a++ps.flatMap fun p=>p.2.cells.toList).toArray
  |[],k,a,cells,_,_,_,t=>by
    have:cells=[]:=by simpa using t
    subst this;simp [Instr.fill]
  | (i, v) :: ps, k, a, cells, j, hs, g, t => by
    simp only [List.map_cons,List.length_cons,List.range'_succ,List.cons.injEq] at j;obtain ⟨rfl,j⟩:=j;have m:v.cells.size=size:=hs (i,v) (by simp);simp only [Instr.fill];have e:cells.length=(ps.length+1)*size:=by simpa using t
    have s:size≤cells.length:=by rw [e,Nat.add_mul];omega
    rw [if_neg (by
      simp only [m,ne_eq,not_true_eq_false,decide_false,Bool.false_or,decide_eq_true_eq,List.size_toArray,List.length_append,g];omega)]
    have key:∀(l:List Value) (o:Nat) (arr:Array Value),(l.zipIdx o).foldl (fun cs (x:Value×Nat)=>cs.setIfInBounds (i*size+x.2) x.1) arr=arr→True:=fun _ _ _ _=>trivial
    have u:∀(l:List Value) (o:Nat) (b rest:List Value),b.length=o→l.length≤rest.length→
        (l.zipIdx o).foldl (fun cs (x:Value×Nat)=>cs.setIfInBounds (i*size+x.2) x.1) (a++b++rest).toArray=(a++b++l++rest.drop l.length).toArray:=by
      intro l
      induction l with
      |nil=>intro o b rest _ _;simp
      |cons c l E=>
        intro o b rest z A;cases rest with
        |nil=>simp at A
        |cons r rest=>
          simp only [List.zipIdx_cons,List.foldl_cons];have h:(a++b++r::rest).toArray.setIfInBounds (i*size+o) c=(a++(b++[c])++rest).toArray:=by
            simp only [List.setIfInBounds_toArray];congr 1;rw [List.append_assoc,List.set_append_right _ _ (by rw [g];omega),g,show i*size+o - i*size=o by omega,List.set_append_right _ _ (by omega),z];simp
          rw [h,E (o+1) (b++[c]) rest (by simp [z]) (by simpa using A)];simp
    have y:=u v.cells.toList 0 [] cells rfl (by simpa [m] using s);simp only [List.append_nil] at y;have C:v.cells.zipIdx.foldl (fun cs (x:Value×Nat)=>cs.setIfInBounds (i*size+x.2) x.1) (a++cells).toArray=(a++v.cells.toList++cells.drop size).toArray:=by
      rw [←Array.foldl_toList];simpa [m] using y
    have B:=qs5 size ps (i+1) (a++v.cells.toList) (cells.drop size) j (fun p g=>hs p (by simp [g])) (by simp [g,m,Nat.add_mul]) (by simp [e,Nat.add_mul]);rw [C,B];simp
theorem qwM {P:Program} {t e:TypeId} {size:Nat} (h:xG P t=some (e,size)) {n:Nat} (E:n*size≤1000) {ps:Array (Nat×Value)} (u:ps.toList.map (·.1)=List.range n) (v:∀p∈ps.toList,p.2.cells.size=size) (w:World):
    (Instr.buildSlice t n ps).run P w= .ok (.slice (some ⟨w.heap.size,0,none⟩) n n) (w.alloc (.cells (ps.toList.flatMap fun p=>p.2.cells.toList).toArray e)):=by
  unfold xG at h;split at h
  · rename_i x y;obtain ⟨i,c,k⟩:=Option.bind_eq_some_iff.1 h;obtain ⟨zv,g⟩:∃zv,i.zero=some zv:=by
      cases B:i.zero with
      |none=>simp [B] at k
      |some z=>exact ⟨z,rfl⟩
    simp only [g,Option.isSome_some,if_true,Option.some.injEq,Prod.mk.injEq] at k;obtain ⟨rfl,rfl⟩:=k;have b:ps.toList.length=n:=by have:=congrArg List.length u;simpa using this
    have m:¬(n*i.size>2^24):=by omega
    have l:(zeroValue x).run P w= .ok zv w:=by simp [zeroValue,qf4 c,g]
    have a:∀cells:Array Value,cells.size=n*i.size→Instr.fill (fun j=>some (j*i.size,i.size)) cells ps.toList=some (ps.toList.flatMap fun p=>p.2.cells.toList).toArray:=by
      intro cells C;have:=qs5 i.size ps.toList 0 [] cells.toList (by rw [u,b,List.range_eq_range']) v (by simp) (by simp [C,b]);simpa using this
    simp only [Instr.buildSlice,Sem.run_bind,run_underlying y,Result.andThen_ok,QE c,if_neg m];by_cases s:n*i.size=0
    · have A:∀f:Nat→Value,(Array.range 0).map f= #[]:=fun _=>by simp [Array.range]
      have o:=a #[] (by simp [s]);simp only [s,if_true,A,o];simp [newRow]
    · simp only [s,if_false,Sem.run_bind,l,Result.andThen_ok,Sem.run_pure];have o:=a ((Array.range (n*i.size)).map fun j=>zv.cells[j%zv.cells.size]!) (by simp);simp only [o];simp [newRow]
  · cases h
theorem qxL {P:Program} {w0:World} {dst:Option Nat} {op:Op} {type:TypeId} {ρ:qa} {v:Value} (h:qbz P w0 dst op type ρ v):
    ∀w,qb w0 w→Oper.quietUpon P (qb w0) w v ((execOp (qd ρ) (qA dst op type)).run P w):=by
  unfold qbz at h;split at h
  · rename_i f args a;intro w b;rw [qk8 h.1];exact ⟨rfl,h.2 w b⟩
  · exact h
theorem jf {P:Program} {Q:Ks} {dst:Option Nat} {op:Op} {type:TypeId} {K:qa→World→Prop} {ρ:qa} {w w':World} {v:Value}
    (h:(execOp (qd ρ) (qA dst op type)).run P w= .ok (.value v) w') (a:K (qm ρ dst v) w'):j9 P Q dst op type K ρ w:=by unfold j9;rw [h];exact a
theorem qtr {P : Program} {Q : Ks} {dst : Option Nat} {op : Op} {type : TypeId} {K : qa → World → Prop} {ρ : qa} {w : World} (h : qr P Q dst op type K ρ w) : j9 P Q dst op type K ρ w := by
  unfold qr at h;split at h
  · refine jf ?_ h;simp [execOp,qA,Instr.box,newVar,newRow]
  · rename_i t;unfold xl at h;split at h
    · rename_i z u;simp only [vG,Option.bind_eq_some_iff,Option.map_eq_some_iff] at u;obtain ⟨i,o,zv,s,rfl⟩:=u;refine jf ?_ h;have m:∀w,(zeroValue t).run P w= .ok zv w:=fun w=>by simp [zeroValue,qf4 o,s]
      simp [execOp,qA,Instr.alloc,m,newVar,newRow]
    · cases h
  · rename_i t p x;obtain ⟨g,b⟩:=h;unfold yR at b;split at b
    · rename_i a F;unfold jA at g;split at g
      · rename_i i o;obtain ⟨w',C,A⟩:=qfZ (P:=P) a _ 0 _ w b;have k:(qd ρ x).cells.size=i.size:=
          (show i.size=(qd ρ x).cells.size by simpa using g).symm
        have:(execOp (qd ρ) (qA dst (.store t p x) type)).run P w= .ok .skip w':=by
          simp [execOp,qA,Instr.storeAt,F,Instr.sureAddr,storeVar,QE o,k,C]
        unfold j9;rw [this];exact A
      · cases g
    · cases b
  · refine jf ?_ h;simp [execOp,qA,Instr.makeFunc]
  · rename_i t ps;unfold xl at h;split at h
    · rename_i cells j;refine jf ?_ h;have:=run_build (P:=P) w t (ps.map fun p=>(p.1,qd ρ p.2)) cells j;simp [execOp,qA,this]
    · cases h
  · rename_i t n ps;unfold xl at h;split at h
    · rename_i es l;obtain ⟨e,size⟩:=es;obtain ⟨B,I,v,y⟩:=h;refine jf ?_ y;have:=qwM (P:=P) l B (ps:=ps.map fun p=>(p.1,qd ρ p.2)) (by simp only [Array.toList_map,List.map_map];exact I)
        (fun p b=>by
          simp only [Array.toList_map,List.mem_map] at b;obtain ⟨q,H,rfl⟩:=b;exact v q H) w
      simp only [execOp,qA,Sem.run_bind,this,Result.andThen_ok,Sem.run_pure];simp [List.flatMap_map]
    · cases h
  · rename_i c;unfold qeY at h;split at h
    · rename_i f j;obtain ⟨callee,args,E⟩:=c;simp only at j h;subst j;unfold j9;rw [qk8 h.1];exact h.2
    · exact h
  · exact h
theorem qma : ∀ (l : List (Option Nat)), yV l = true → ∀ (i b t : Nat), l[i]? = some (some t) → l[b]? = some (some t) → i = b
  |[],_,i,_,_,h,_=>by simp at h
  | x :: l, h, i, b, t, e, a => by
    have g:yV l=true:=by
      cases x with
      |none=>simpa [yV] using h
      |some d=>simp only [yV,Bool.and_eq_true] at h;exact h.2
    have c:x=some t→∀j:Nat,l[j]? ≠some (some t):=by
      rintro rfl j k;simp only [yV,Bool.and_eq_true,Bool.not_eq_true',List.contains_eq_mem,decide_eq_false_iff_not] at h;exact h.1 (List.mem_of_getElem? k)
    cases i with
    |zero=>
      simp only [List.getElem?_cons_zero,Option.some.injEq] at e;cases b with
      |zero=>rfl
      |succ b=>simp only [List.getElem?_cons_succ] at a;exact absurd a (c e b)
    |succ i=>
      simp only [List.getElem?_cons_succ] at e;cases b with
      |zero=>simp only [List.getElem?_cons_zero,Option.some.injEq] at a;exact absurd e (c a i)
      |succ b=>
        simp only [List.getElem?_cons_succ] at a;rw [qma l g i b t e a]
theorem qbx {ops:Array Oper} {n:Nat} (h:QJ ops n=true):Region1 n ops:=by
  simp only [QJ,Bool.and_eq_true,List.all_eq_true] at h;have key:∀i t,vf ops i=some t→(qje ops)[i]? =some (some t):=by
    intro i t a;simp only [vf,Option.bind_eq_some_iff] at a;obtain ⟨o,c,e⟩:=a;simp [qje,c,e]
  refine ⟨fun i g t a b=>qma _ h.1 i g t (key i t a) (key g t b),fun i t a=> ?_⟩;simp only [vf,Option.bind_eq_some_iff] at a;obtain ⟨o,c,e⟩:=a;have:=h.2 o (by rw [Array.mem_toList_iff];exact Array.mem_of_getElem? c);simpa [e] using this
theorem qz (w:World):qb w w:=Below.refl _ _
def fc (ro:Option Nat):Fence:={Fence.wide with round:=ro}
def qcz (ro:Option Nat) (ops:Array Oper):Prop:=ro=none∨∀(i:Nat) (o:Oper),ops[i]? =some o→∀c:Call,o.op≠ .defer c
theorem qkO {ro:Option Nat} {ops:Array Oper} (h:qcz ro ops) {i:Nat} {o:Oper} (a:ops[i]? =some o) (f:Operand→Value):Oper.semAt (fc ro).round f o=execOp f o:=by
  rcases h with rfl|h
  · rfl
  · exact Oper.semAt_eq _ _ _ (h i o a)
theorem qFV {ro:Option Nat} {n:Nat} {P:Program} {f:FuncId} {args:Array Value} {w:World} {R:Ending→World→Prop} (h:Calls P f args w R):CallsIn (fc ro) n P f args w R:=
  (callsIn_wide (n:=n)).2 h
theorem qw3 {ro:Option Nat} {n:Nat} {P:Program} {l f:Nat} {tmps:Array Value} {as bd:Code} {w:World} {R:Ending→World→Prop} (h:RoundIn Fence.wide 0 P l f tmps as bd w R):RoundIn (fc ro) n P l f tmps as bd w R:=
  ⟨trivial,fun c cs _=>h.2 c cs (room_wide _)⟩
theorem qa4 {ro : Option Nat} {P : Program} {ops : Array Oper} (b : qcz ro ops) {w : World} {Q : Exit → Act → World → Prop} : ∀ (l : List Nat) (a : Act) (K : Act → Prop), (∀ a, K a → Q .normal a w) → PS P w ops l a K → wpOpsIn (fc ro) 0 P ops Q l a w
  |[],_,_,c,h=>c _ h
  | i :: l, a, K, c, h => by
    simp only [PS] at h;simp only [wpOpsIn];split
    · rename_i e;simp only [e] at h;exact qa4 b l a K c h
    · rename_i o e;simp only [e] at h;split
      · rename_i g;simp only [g,if_true] at h;obtain ⟨v,k,j⟩:=h;simp only [Oper.wpIn,qkO b e,k w (qz w),Oper.uponIn];exact ⟨fun _ _=>trivial,qa4 b l _ K c j⟩
      · rename_i g;simp only [g] at h;exact ⟨fun _ _=>trivial,qa4 b l _ K c (by simpa using h)⟩
theorem yv {F : Fence} {P : Program} {ops : Array Oper} {Q : Exit → Act → World → Prop} : ∀ (l m : List Nat) (a : Act) (w : World),
    wpOpsIn F 0 P ops (Exit.then (wpOpsIn F 0 P ops Q m) Q) l a w→wpOpsIn F 0 P ops Q (l++m) a w
  |[],_,_,_,h=>h
  | i :: l, m, a, w, h => by
    simp only [List.cons_append,wpOpsIn] at h⊢;split
    · rename_i e;simp only [e] at h;exact yv l m a w h
    · rename_i o e;simp only [e] at h;split
      · rename_i g;simp only [g,if_true] at h;simp only [Oper.wpIn] at h⊢;refine ⟨h.1, ?_⟩
        replace h:=h.2
        generalize (Oper.semAt F.round a.eval o).run P w=r at h⊢;cases r with
        |ok x w'=>
          cases x<;>simp only [Oper.uponIn] at h⊢ <;>first|exact h|exact yv l m _ _ h|skip
          · refine ⟨h.1,h.2.mono fun e j b=> ?_⟩;cases e with
            |returned v=>exact yv l m _ _ b
            |panicked c=>exact b
            |outgrown=>exact b
          · refine ⟨h.1,h.2.mono fun e j b=> ?_⟩;cases e with
            |returned v=>exact yv l m _ _ b
            |panicked c=>exact b
            |outgrown=>exact b
          · exact ⟨h.1,h.2.mono fun v j b=>yv l m _ _ b⟩
        |halt x w'=>cases x<;>simp only [Oper.uponIn] at h⊢ <;>exact h
      · rename_i g;simp only [g] at h;refine ⟨?_,yv l m _ _ ?_⟩
        · exact (by simpa using h:_∧_).1
        · exact (by simpa using h:_∧_).2
theorem qcF {F : Fence} {P : Program} {ops : Array Oper} {Q1 Q2 : Exit → Act → World → Prop} (k : ∀ e a w, Q1 e a w → Q2 e a w) : ∀ l a w, wpOpsIn F 0 P ops Q1 l a w → wpOpsIn F 0 P ops Q2 l a w := by
  intro l
  induction l with
  |nil=>intro a w h;exact k _ _ _ h
  |cons i l b=>
    intro a w h;simp only [wpOpsIn] at h⊢;split
    · rename_i m;simp only [m] at h;exact b _ _ h
    · rename_i s m;simp only [m] at h;split
      · rename_i j;simp only [j,if_true] at h;simp only [Oper.wpIn] at h⊢;refine ⟨h.1, ?_⟩
        replace h:=h.2
        generalize (Oper.semAt F.round a.eval s).run P w=r at h⊢;cases r with
        |ok x w'=>
          cases x<;>simp only [Oper.uponIn] at h⊢ <;>first|exact h|exact b _ _ h|skip
          · refine ⟨h.1,h.2.mono fun e p g=> ?_⟩;cases e with
            |returned v=>exact b _ _ g
            |panicked c=>exact k _ _ _ g
            |outgrown=>obtain ⟨a0,w0,o⟩:=g;exact ⟨a0,w0,k _ _ _ o⟩
          · refine ⟨h.1,h.2.mono fun e p g=> ?_⟩;cases e with
            |returned v=>exact b _ _ g
            |panicked c=>exact k _ _ _ g
            |outgrown=>obtain ⟨a0,w0,o⟩:=g;exact ⟨a0,w0,k _ _ _ o⟩
          · exact ⟨h.1,h.2.mono fun v p g=>b _ _ g⟩
        |halt x w'=>cases x<;>simp only [Oper.uponIn] at h⊢ <;>first|exact k _ _ _ h|exact h
      · rename_i j;simp only [j] at h;refine ⟨?_,b _ _ ?_⟩
        · exact (by simpa using h:_∧_).1
        · exact (by simpa using h:_∧_).2
theorem Agree.put {n:Nat} {V:List Nat} {ρ:qa} {a:Act} (h:Agree n V ρ a) {d:Nat} (g:d∈V) (v:Value):Agree n V (qu ρ d v) (a.put (some d) v):=by
  refine ⟨by simp [Act.put,h.size], ?_,h.lt,h.big⟩;have c:=h.lt d g;have j:=h.ne g;rw [h.env];funext i;simp only [qu,ko,Act.put];by_cases b:i=d
  · subst b;simp [g,h.size,c,Array.getD_eq_getD_getElem?,j]
  · have:d≠i:=fun e=>b e.symm;simp [b,Array.getD_eq_getD_getElem?,this]
theorem Agree.putO {n:Nat} {V:List Nat} {ρ:qa} {a:Act} (h:Agree n V ρ a) {d:Option Nat} (b:∀t,d=some t→t∈V) (v:Value):Agree n V (qm ρ d v) (a.put d v):=by
  cases d with
  |none=>exact h
  |some d=>exact h.put (b d rfl) v
theorem wg (a:Act) (d:Option Nat) (v:Value):(a.put d v).defers=a.defers:=by cases d<;>rfl
theorem qaK {n : Nat} {V : List Nat} {ρ : qa} {a : Act} {ops : Array Oper} {g : Option (Nat × Bool)} {j : Nat} {s : Option (Nat × Bool)} (h : Agree n V ρ a) (b : tg ops V g j = some s) :
    jX ops g a=gd ρ s∧vV g j=true:=by
  unfold tg at b;split at b
  · cases b;exact ⟨rfl,rfl⟩
  · rename_i i p;split at b
    · rename_i t u;split at b
      · rename_i x;obtain ⟨v,l⟩:=x;cases b;have c:t∈V:=by simpa using v
        have m:=h.lt t c;refine ⟨?_,by simpa [vV] using l⟩;have o:((ops[i]?).bind (·.dst))=some t:=u;have k:ρ t=a.tmps.getD t undef:=h.at c;have e:t<a.tmps.size:=by rw [h.size];exact m
        simp only [jX,gd,yielded,o,Option.bind_some,k,Array.getD_eq_getD_getElem?,Array.getElem?_eq_getElem e,Option.getD_some];cases a.tmps[t] <;>simp
      · cases b
    · cases b
theorem Agree.root {n : Nat} {V : List Nat} {ρ : qa} {a l : Act} {ops : Array Oper} {j k : Nat} {o : Oper} (h : Agree n V ρ a) (t : Fr ops j (k + 1) a l) (b : qa0 ops V j k) (u : ops[k]? = some o) {d : Nat}
    (A:o.dst=some d) (g:d∈V) {v:Value} (B:l.tmps[d]? =some v):Agree n V (qu ρ d v) l:=by
  refine ⟨t.size.trans h.size, ?_,h.lt,h.big⟩;have c:=h.ne g;rw [h.env];funext i;simp only [qu,ko,t.defers];by_cases s:i=d
  · subst s;simp [g,Array.getD_eq_getD_getElem?,B,c]
  · simp only [s,if_false];split
    · rfl
    split
    · rename_i m;have:=t.keep i fun x z y e=>by
        by_cases p:x=k
        · subst p;have:vf ops x=some d:=by simp [vf,u,A]
          rw [this] at e;cases e;exact s rfl
        · exact b x z (by omega) i e m
      simp only [Array.getD_eq_getD_getElem?,this]
    · rfl
theorem qE0 (f:Operand→Value) (o:Oper):execOp f o=execOp f (qA o.dst o.op o.type):=by
  obtain ⟨dst,op,type,pos,after,guard⟩:=o;cases op<;>rfl
theorem qiP {n:Nat} {V:List Nat} {ρ:qa} {a:Act} {o:Oper} (h:Agree n V ρ a) (c:Qg V o=true):execOp a.eval o=execOp (qd ρ) (qA o.dst o.op o.type):=by
  rw [←qE0];simp only [Qg,Bool.and_eq_true,List.all_eq_true] at c;refine execOp_congr o (fun cs b e=> ?_) fun x j=> ?_
  · rw [e] at c;exact absurd c.1.2 (by simp)
  · have:=c.1.1 x (by simpa using j);cases x with
    |tmp t=>
      have i:t∈V:=by simpa [vu] using this
      simp [qd,h.at i,Act.eval]
    |const v=>rfl
    |global g=>rfl
    |func f=>rfl
theorem qi0 {V:List Nat} {o:Oper} (a:Qg V o=true):∀t,o.dst=some t→t∈V:=by
  intro t b;simp only [Qg,Bool.and_eq_true] at a;have:=a.2;rw [b] at this;simpa using this
section
variable {P:Program} {ops:Array Oper} {V:List Nat} {n:Nat}
theorem qa3 (Q:Ks):∀(l m:List St) (K:qa→World→Prop) (ρ:qa) (w:World),qV P Q (l++m) K ρ w=qV P Q l (qV P Q m K) ρ w
  |[],_,_,_,_=>rfl
  |s::l,m,K,ρ,w=>by
    have:qV P Q (l++m) K=qV P Q l (qV P Q m K):=by funext ρ w;exact qa3 Q l m K ρ w
    simp only [List.cons_append,qV,this]
theorem Agree.defer {n:Nat} {V:List Nat} {ρ:qa} {a:Act} (h:Agree n V ρ a) (d:Deferred):Agree n V (qu ρ gS (xS d (ρ gS))) {a with defers:=d::a.defers}:=by
  refine ⟨h.size, ?_,h.lt,h.big⟩;rw [h.ds,qFA,h.env];funext i;simp only [qu,ko];split
  · rfl
  · rfl
theorem qcU (cx : Cx) (hP : cx.P = P) (hV : cx.V = V) (hn : cx.n = n) (hr : Region1 n ops) {ro : Option Nat} (F : qcz ro ops) (Q : Ks) (Q' : Exit → Act → World → Prop)
    (hpn:∀ρ c a w,jT cx a→Agree n V ρ a→Q.pn ρ c w→Q' (.panic c) a w) (J:Q.og→LetsOut Q') (R:Q.df→cx.D≠[]):
    ∀(t k:Nat) (l:List St),x7 P ops V t k=some l→∀(K:qa→World→Prop) (ρ:qa) (a:Act) (w:World),Agree n V ρ a→jT cx a→qV P Q l K ρ w→
      wpOpsIn (fc ro) 0 P ops (Exit.then (fun y w'=>jT cx y∧∃m,Agree n V m y∧K m w') Q') (List.range' 0 k) a w
  |t,0,l,h,K,ρ,a,w,ha,hD,hw=>by
    have:l=[]:=by cases t<;>simpa [x7] using h.symm
    subst this;exact ⟨hD,ρ,ha,hw⟩
  |0,k+1,l,h,_,_,_,_,_,_,_=>by simp [x7] at h
  | t + 1, k + 1, l, h, K, ρ, a, w, ha, hD, hw => by
    simp only [x7] at h;split at h
    · cases h
    · rename_i o Y;split at h
      ·
        rename_i e j d hpx hd;split at h
        · rename_i hdV;have O:d∈V:=by simpa using hdV
          simp only [Option.bind_eq_some_iff,Option.map_eq_some_iff] at h;obtain ⟨g,hg,l',X,rfl⟩:=h;have sx:=qdg hr _ _ _ _ hpx;have lj:=sx.le;have u:List.range' 0 (k+1)=List.range' 0 j++List.range' j (k+1 - j):=by
            have:=QL (i:=0) (j:=j) (k:=k+1) (by omega) (by omega);simpa using this
          rw [u];refine yv _ _ _ _ ?_;have ih:=qcU cx hP hV hn hr F Q (Exit.then (wpOpsIn (fc ro) 0 P ops (Exit.then (fun y w'=>jT cx y∧∃m,Agree n V m y∧K m w') Q') (List.range' j (k+1 - j))) Q')
            (fun ρ c a w s h2 h3=>hpn ρ c a w s h2 h3) (fun s=>J s) R t j l' X (qV P Q [.asg g d e] K) ρ a w ha hD (by rw [←qa3];exact hw)
          refine qcF ?_ _ _ _ ih;intro ex L W s;cases ex with
          |normal=>
            obtain ⟨B,z,p,b⟩:=s;obtain ⟨H,hglt⟩:=qaK p hg;simp only [Exit.then];simp only [qV,St.wp,vJ] at b;by_cases A:gd z g=true
            · simp only [A,if_true] at b;cases U:e.ev z W with
              |none=>simp only [U] at b
              |some v=>
                simp only [U] at b;exact qa4 F _ L (fun y=>jT cx y∧∃m,Agree n V m y∧K m W) (fun _ h=>h)
                  (sx.yes o Y z W L v p (by rw [H];exact A) U _ fun y hf hv=>⟨fun e=>hf.defers.trans (B e),qu z d v,p.root hf sx.free Y hd O (hv d hd),b⟩)
            · simp only [A] at b;exact qa4 F _ L (fun y=>jT cx y∧∃m,Agree n V m y∧K m W) (fun _ h=>h)
                (sx.no o Y W L p.size (by rw [H];simpa using A) _ fun y hf hv=>⟨fun e=>hf.defers.trans (B e),qu z d undef,p.root hf sx.free Y hd O (hv d hd),by simpa using b⟩)
          |exit i=>exact s
          |goto i=>exact s
          |ret=>exact s
          |panic c=>exact s
          |outgrown=>exact s
        · cases h
      ·
        split at h
        · rename_i hok;simp only [Option.bind_eq_some_iff,Option.map_eq_some_iff] at h;obtain ⟨g,hg,l',X,rfl⟩:=h;have u:List.range' 0 (k+1)=List.range' 0 k++[k]:=by
            have:=yO (j:=0) (k:=k) (by omega);simpa using this
          rw [u];refine yv _ _ _ _ ?_;have ih:=qcU cx hP hV hn hr F Q (Exit.then (wpOpsIn (fc ro) 0 P ops (Exit.then (fun y w'=>jT cx y∧∃m,Agree n V m y∧K m w') Q') [k]) Q')
            (fun ρ c a w s h2 h3=>hpn ρ c a w s h2 h3) (fun s=>J s) R t k l' X (qV P Q [.eff g o.dst o.op o.type] K) ρ a w ha hD (by rw [←qa3];exact hw)
          refine qcF ?_ _ _ _ ih;intro ex L W s;cases ex with
          |normal=>
            obtain ⟨B,z,p,b⟩:=s;obtain ⟨H,_⟩:=qaK p hg;have C:=qi0 hok;have hex:=qiP p hok;simp only [Exit.then,wpOpsIn,Y,yx];simp only [qV,St.wp] at b;by_cases A:gd z g=true
            · simp only [A,if_true] at b;have I:jX ops o.guard L=true:=by rw [H];exact A
              simp only [I,if_true];have b:=qtr b;unfold j9 at b;have E:∀v Z,K (qm z o.dst v) Z→Exit.then (fun y w'=>jT cx y∧∃m,Agree n V m y∧K m w') Q' .normal (L.put o.dst v) Z:=
                fun v Z hk=>⟨fun e=>(wg _ _ _).trans (B e),_,p.putO C v,hk⟩
              refine ⟨fun _ _=>trivial, ?_⟩;rw [qkO F Y,hex];generalize (execOp (qd z) (qA o.dst o.op o.type)).run P W=r at b;cases r with
              |ok x w'=>
                cases x<;>simp only [wX,Oper.uponIn] at b⊢ <;>first|exact E _ _ b|(cases b;done)|skip
                · refine ⟨fun h0=>(by cases h0),qFV (b.mono fun e Z S=> ?_)⟩;cases e with
                  |returned v=>exact E _ _ S
                  |panicked c=>exact hpn _ _ _ _ B p S
                  |outgrown=>exact J S
                · refine ⟨fun h0=>(by cases h0),qw3 (b.2.mono fun e Z S=> ?_)⟩;cases e with
                  |returned v=>exact E _ _ S
                  |panicked c=>exact hpn _ _ _ _ B p S
                  |outgrown=>exact J S
                · refine ⟨fun e=>absurd e (R b.1),_,(p.defer _).putO C undef,b.2⟩
              |halt x w'=>
                cases x<;>simp only [wX,Oper.uponIn] at b⊢ <;>first|(cases b;done)|exact hpn _ _ _ _ B p b
            · simp only [A] at b;have I:jX ops o.guard L=false:=by rw [H];simpa using A
              simp only [I,Bool.false_eq_true,if_false];exact ⟨fun _ _=>trivial,fun e=>(wg _ _ _).trans (B e),_,p.putO C undef,by simpa using b⟩
          |exit i=>exact s
          |goto i=>exact s
          |ret=>exact s
          |panic c=>exact s
          |outgrown=>exact s
        · cases h
end
section
variable {P:Program} {ops:Array Oper} {V:List Nat} {n:Nat}
def QS (P : Program) (C : World → Prop) (ops : Array Oper) : List Nat → Act → (Act → Prop) → Prop
  |[],a,K=>K a
  |i::is,a,K=>match ops[i]? with
    |none=>QS P C ops is a K
    |some o=>if Region.wanted o (yielded ops a.tmps) then o.quiet P a C (fun a'=>QS P C ops is a' K) else QS P C ops is (a.put o.dst undef) K
theorem qcx {C : World → Prop} : ∀ (l m : List Nat) (a : Act) (K : Act → Prop), QS P C ops l a (fun b => QS P C ops m b K) → QS P C ops (l ++ m) a K
  |[],_,_,_,h=>h
  | i :: l, m, a, K, h => by
    simp only [List.cons_append,QS] at h⊢;split
    · rename_i e;simp only [e] at h;exact qcx l m a K h
    · rename_i o e;simp only [e] at h;split
      · rename_i c;simp only [c,if_true] at h;exact Oper.quiet_mono (fun b g=>qcx l m b K g) h
      · rename_i c;simp only [c] at h;exact qcx l m _ K (by simpa using h)
theorem qaY {C : World → Prop} : ∀ (l : List Nat) (a : Act) (K K' : Act → Prop), (∀ a, K a → K' a) → QS P C ops l a K → QS P C ops l a K'
  |[],_,_,_,b,h=>b _ h
  | i :: l, a, K, K', b, h => by
    simp only [QS] at h⊢;split
    · rename_i e;simp only [e] at h;exact qaY l a K K' b h
    · rename_i o e;simp only [e] at h;split
      · rename_i c;simp only [c,if_true] at h;exact Oper.quiet_mono (fun j g=>qaY l j K K' b g) h
      · rename_i c;simp only [c] at h;exact qaY l _ K K' b (by simpa using h)
theorem qfh {w : World} : ∀ (l : List Nat) (a : Act) (K : Act → Prop), PS P w ops l a K → QS P (qb w) ops l a K
  |[],_,_,h=>h
  | i :: l, a, K, h => by
    simp only [PS] at h;simp only [QS];split
    · rename_i e;simp only [e] at h;exact qfh l a K h
    · rename_i o e;simp only [e] at h;split
      · rename_i b;simp only [b,if_true] at h;obtain ⟨v,j,g⟩:=h;refine ⟨v,fun w' c=> ?_,qfh l _ K g⟩;simp [Oper.quietAt,j w' c,Oper.quietUpon]
      · rename_i b;simp only [b] at h;exact qfh l _ K (by simpa using h)
theorem qfn {C:World→Prop}:∀(l:List Oper) (k:Nat) (a:Act) (K:Act→Prop),(∀j,l[j]? =ops[k+j]?)→QS P C ops (List.range' k l.length) a K→wpQuiet P ops C K l a
  |[],_,_,_,_,h=>h
  | o :: l, k, a, K, e, h => by
    have m:ops[k]? =some o:=by simpa using (e 0).symm
    have b:∀j,l[j]? =ops[k+1+j]? :=fun j=>by have:=e (j+1);simpa [Nat.add_assoc,Nat.add_comm 1 j] using this
    simp only [List.length_cons,List.range'_succ,QS,m] at h;simp only [wpQuiet];split
    · rename_i c;simp only [c,if_true] at h;exact Oper.quiet_mono (fun i g=>qfn l (k+1) i K b g) h
    · rename_i c;simp only [c] at h;exact qfn l (k+1) _ K b (by simpa using h)
theorem qde (w:World):∀(l m:List St) (K:qa→Prop) (ρ:qa),ja P w (l++m) K ρ=ja P w l (ja P w m K) ρ
  |[],_,_,_=>rfl
  | .asg g d e::l,m,K,ρ=>by
    simp only [List.cons_append,ja,qde w l m K]
  | .eff g dst op type::l,m,K,ρ=>by
    simp only [List.cons_append,ja,qde w l m K]
theorem qgm (cx : Cx) (X : Region1 n ops) (w : World) :
    ∀(m k:Nat) (l:List St),x7 P ops V m k=some l→∀(K:qa→Prop) (ρ:qa) (a:Act),Agree n V ρ a→jT cx a→ja P w l K ρ→
      QS P (qb w) ops (List.range' 0 k) a (fun Q=>jT cx Q∧∃E,Agree n V E Q∧K E)
  |m,0,l,h,K,ρ,a,U,S,R=>by
    have:l=[]:=by cases m<;>simpa [x7] using h.symm
    subst this;exact ⟨S,ρ,U,R⟩
  |0,k+1,l,h,_,_,_,_,_,_=>by simp [x7] at h
  | m + 1, k + 1, l, h, K, ρ, a, U, S, R => by
    simp only [x7] at h;split at h
    · cases h
    · rename_i o F;split at h
      · rename_i e j d Y W;split at h
        · rename_i ab;have A:d∈V:=by simpa using ab
          simp only [Option.bind_eq_some_iff,Option.map_eq_some_iff] at h;obtain ⟨g,Z,l',C,rfl⟩:=h;have O:=qdg X _ _ _ _ Y;have lj:=O.le;have s:List.range' 0 (k+1)=List.range' 0 j++List.range' j (k+1 - j):=by
            have:=QL (i:=0) (j:=j) (k:=k+1) (by omega) (by omega);simpa using this
          rw [s];refine qcx _ _ _ _ ?_;refine qaY _ _ _ _ ?_ (qgm cx X w m j l' C (ja P w [.asg g d e] K) ρ a U S (by rw [←qde];exact R));rintro I ⟨u,t,c,b⟩;obtain ⟨x,hglt⟩:=qaK c Z;simp only [ja,vJ] at b;refine qfh _ _ _ ?_;by_cases p:gd t g=true
          · simp only [p,if_true] at b;cases B:e.ev t w with
            |none=>simp only [B] at b
            |some v=>
              simp only [B] at b;exact O.yes o F t w I v c (by rw [x];exact p) B _ fun Q J L=>⟨fun e=>J.defers.trans (u e),qu t d v,c.root J O.free F W A (L d W),b⟩
          · simp only [p] at b;exact O.no o F w I c.size (by rw [x];simpa using p) _ fun Q J L=>⟨fun e=>J.defers.trans (u e),qu t d undef,c.root J O.free F W A (L d W),by simpa using b⟩
        · cases h
      · split at h
        · rename_i H;simp only [Option.bind_eq_some_iff,Option.map_eq_some_iff] at h;obtain ⟨g,Z,l',C,rfl⟩:=h;have s:List.range' 0 (k+1)=List.range' 0 k++[k]:=by
            have:=yO (j:=0) (k:=k) (by omega);simpa using this
          rw [s];refine qcx _ _ _ _ ?_;refine qaY _ _ _ _ ?_ (qgm cx X w m k l' C (ja P w [.eff g o.dst o.op o.type] K) ρ a U S (by rw [←qde];exact R));rintro I ⟨u,t,c,b⟩;obtain ⟨x,_⟩:=qaK c Z;have z:=qi0 H;have aa:=qiP c H;simp only [QS,F,yx];simp only [ja] at b;by_cases p:gd t g=true
          · simp only [p,if_true] at b;have y:jX ops o.guard I=true:=by rw [x];exact p
            simp only [y,if_true];obtain ⟨v,L,hk⟩:=b;refine ⟨v,fun w' hw'=> ?_,fun e=>(wg _ _ _).trans (u e),_,c.putO z v,hk⟩;simp only [Oper.quietAt,aa];exact qxL L w' hw'
          · simp only [p] at b;have y:jX ops o.guard I=false:=by rw [x];simpa using p
            simp only [y,Bool.false_eq_true,if_false];exact ⟨fun e=>(wg _ _ _).trans (u e),_,c.putO z undef,by simpa using b⟩
        · cases h
end
theorem qbX {cx:Cx} {K:qa→World→Prop} {Q:Ks} (h:Q.og):LetsOut (xw cx K Q):=⟨⟨#[],[]⟩,default,h⟩
def qgS (ops:Array Oper):Bool:=ops.toList.all fun o=>match o.op with| .defer _=>false|_=>true
def xj:Code→Bool
  | .skip=>true
  | .region _ ops draw=> !draw&&qgS ops
  | .seq a b| .cond _ a b=>xj a&&xj b
  | .block _ a| .loop a=>xj a
  | .exit _| .ret=>true
  |_=>false
theorem qzx {ops:Array Oper} (h:qgS ops=true) (ro:Option Nat):qcz ro ops:=by
  refine .inr fun i o a c b=> ?_;simp only [qgS,List.all_eq_true] at h;have:=h o (by rw [Array.mem_toList_iff];exact Array.mem_of_getElem? a);rw [b] at this;cases this
theorem QK {c:Code} {P:Program} {Q:Exit→Act→World→Prop} {a:Act} {w:World} (h:c.wp P Q a w):c.wpIn (fc none) 0 P Q a w:=wpIn_wide.2 h
theorem qtH (cx : Cx) (ro : Option Nat) (k : List Nat) : ∀ (c : Code) (ir : IR), qT cx.P cx.n cx.V k c = some ir → (ro = none ∨ (xj c = true ∧ k = [])) → ∀ (K : qa → World → Prop) (Q : Ks) (ρ : qa) (a : Act) (w : World),
    (Q.df→cx.D≠[])→Agree cx.n cx.V ρ a→jT cx a→ir.wp cx K Q ρ w→c.wpIn (fc ro) 0 cx.P (xw cx K Q) a w:=by
  intro c
  induction c with
  |skip=>
    intro ir h g K Q ρ a w j o p m;simp only [qT,Option.some.injEq] at h;subst h;exact wpIn_skip ⟨p,ρ,o,m⟩
  | region id ops draw =>
    intro ir h g K Q ρ a w j o p m;simp only [qT] at h;split at h
    · rename_i hc;rcases g with rfl|⟨_,rfl⟩
      · cases h;exact QK (m a o p j)
      · simp at hc
    · split at h
      · rename_i Z;have hr:=qbx Z;split at h
        · cases h
        · rename_i l hl;split at h
          · rename_i O;subst O;split at h
            · rename_i hB;rcases g with rfl|⟨E,_⟩
              · simp only [Bool.and_eq_true] at hB;cases h;refine QK (wp_region_quiet (C:=qb w) hB.2 hB.1 ⟨rfl,rfl,rfl,Nat.le_refl _,fun _ _=>rfl⟩ ?_);have h1:=qgm (P:=cx.P) cx hr w _ _ l hl (fun t=>∀w',qb w w'→K t w') ρ a o p m;refine qfn ops.toList 0 a _ (by simp) ?_;refine qaY _ _ _ _ ?_ (by simpa using h1);rintro F ⟨B,t,A,J⟩ w' hw';exact ⟨B,t,A,J w' hw'⟩
              · simp [xj] at E
            · cases h
          · rename_i O;have hdr':draw=false:=by simpa using O
            subst hdr';cases h;have hnd:qcz ro ops:=by
              rcases g with rfl|⟨E,_⟩
              · exact .inl rfl
              · simp only [xj,Bool.and_eq_true] at E;exact qzx E.2 ro
            refine wpIn_region ?_;have h1:=qcU (P:=cx.P) cx rfl rfl rfl hr hnd Q (xw cx K Q) (fun ρ c a w h1 h2 h3=>⟨h1,ρ,h2,h3⟩) qbX j _ _ l hl K ρ a w o p m;rw [List.range_eq_range'];refine qcF ?_ _ _ _ h1;intro e F w' z;cases e<;>exact z
      · cases h
  |seq x y U X=>
    intro ir h g K Q ρ a w j o p m;have u:ro=none∨(xj x=true∧k=[]):=g.imp id fun h=>by simp only [xj,Bool.and_eq_true] at h;exact ⟨h.1.1,h.2⟩
    have H:ro=none∨(xj y=true∧k=[]):=g.imp id fun h=>by simp only [xj,Bool.and_eq_true] at h;exact ⟨h.1.2,h.2⟩
    simp only [qT] at h;split at h
    · rename_i R iy L hy;cases h;refine wpIn_seq (wpIn_mono (U R L u _ Q ρ a w j o p m) ?_);intro e F w' z;cases e with
      |normal=>obtain ⟨B,t,A,J⟩:=z;exact X iy hy H K Q t F w' j A B J
      |exit i=>exact z
      |goto i=>exact z
      |ret=>exact z
      |panic c=>exact z
      |outgrown=>exact z
    · cases h
  |cond c x y U X=>
    intro ir h g K Q ρ a w j o p m;have u:ro=none∨(xj x=true∧k=[]):=g.imp id fun h=>by simp only [xj,Bool.and_eq_true] at h;exact ⟨h.1.1,h.2⟩
    have H:ro=none∨(xj y=true∧k=[]):=g.imp id fun h=>by simp only [xj,Bool.and_eq_true] at h;exact ⟨h.1.2,h.2⟩
    simp only [qT] at h;split at h
    · cases h
    · rename_i hc;have hc':vu cx.V c=false:=by simpa using hc
      split at h
      · rename_i R iy L hy;cases h;simp only [IR.wp,yo] at m;cases W:(xx c).ev ρ w with
        |none=>simp only [W] at m
        |some v=>
          have Y:=qdI o hc' W;simp only [W] at m;split at m
          · rename_i e;cases e;exact wpIn_cond_true Y (U R L u K Q ρ a w j o p m)
          · rename_i e;cases e;exact wpIn_cond_false Y (X iy hy H K Q ρ a w j o p m)
          · cases m
      · cases h
  |block id x ih=>
    intro ir h g K Q ρ a w j o p m;have u:ro=none∨(xj x=true∧k=[]):=g;simp only [qT] at h;split at h
    · rename_i R L;cases h;refine wpIn_block (wpIn_mono (ih R L u _ {Q with ex:=fun i=>if i=id then K else Q.ex i} ρ a w j o p m) ?_);intro e F w' z;cases e with
      |normal=>exact z
      |exit i=>
        obtain ⟨B,t,A,J⟩:=z;simp only [Exit.inBlock];split
        · rename_i e;subst e;simp only [if_true] at J;exact ⟨B,t,A,J⟩
        · rename_i e;simp only [e,if_false] at J;exact ⟨B,t,A,J⟩
      |goto i=>exact z
      |ret=>exact z
      |panic c=>exact z
      |outgrown=>exact z
    · cases h
  |loop x ih=>
    intro ir h g K Q ρ a w j o p m;have u:ro=none∨(xj x=true∧k=[]):=g;simp only [qT] at h;split at h
    · rename_i R L;cases h;obtain ⟨I,μ,h0,S⟩:=m;refine wpIn_loop (fun F w'=>jT cx F∧∃t,Agree cx.n cx.V t F∧I t w') (fun F w'=>μ (ko cx.V F) w') ⟨p,ρ,o,h0⟩ ?_;rintro a1 w1 ⟨hD1,ab,aa,hI⟩;refine wpIn_mono (ih R L u _ Q ab a1 w1 j aa hD1 (S ab w1 hI)) ?_;intro e F w' z;cases e with
      |normal=>
        obtain ⟨B,t,A,J,hm⟩:=z;refine ⟨⟨B,t,A,J⟩, ?_⟩;show μ (ko cx.V F) w'<μ (ko cx.V a1) w1;rw [←A.env,←aa.env];exact hm
      |exit i=>exact z
      |goto i=>exact z
      |ret=>exact z
      |panic c=>exact z
      |outgrown=>exact z
    · cases h
  |exit id=>
    intro ir h g K Q ρ a w j o p m;simp only [qT,Option.some.injEq] at h;subst h;exact wpIn_exit ⟨p,ρ,o,m⟩
  |ret=>
    intro ir h g K Q ρ a w j o p m;simp only [qT,Option.some.injEq] at h;subst h;exact wpIn_ret ⟨p,ρ,o,m⟩
  |rangeFunc f ps asg body _ _=>
    intro ir h g K Q ρ a w j o p m;simp only [qT,Option.some.injEq] at h;subst h;rcases g with rfl|⟨E,_⟩
    · exact QK (m a o p j)
    · cases E
  |scope b _=>
    intro ir h g K Q ρ a w j o p m;simp only [qT,Option.some.injEq] at h;subst h;rcases g with rfl|⟨E,_⟩
    · exact QK (m a o p j)
    · cases E
  |label l=>
    intro ir h g K Q ρ a w j o p m;simp only [qT,Option.some.injEq] at h;subst h;rcases g with rfl|⟨E,_⟩
    · exact QK (m a o p j)
    · cases E
  |goto l=>
    intro ir h g K Q ρ a w j o p m;simp only [qT,Option.some.injEq] at h;subst h;rcases g with rfl|⟨E,_⟩
    · exact QK (m a o p j)
    · cases E
  |refuse s=>
    intro ir h g K Q ρ a w j o p m;simp only [qT,Option.some.injEq] at h;subst h;rcases g with rfl|⟨E,_⟩
    · exact QK (m a o p j)
    · cases E
theorem qeS (cx:Cx) (b:List Nat) (c:Code) (ir:IR) (h:qT cx.P cx.n cx.V b c=some ir) (K:qa→World→Prop) (Q:Ks) (ρ:qa) (a:Act) (w:World)
    (e:Q.df→cx.D≠[]) (j:Agree cx.n cx.V ρ a) (g:jT cx a) (i:ir.wp cx K Q ρ w):c.wp cx.P (xw cx K Q) a w:=
  wpIn_wide.1 (qtH cx none b c ir h (.inl rfl) K Q ρ a w e j g i)
end Go.Eng
