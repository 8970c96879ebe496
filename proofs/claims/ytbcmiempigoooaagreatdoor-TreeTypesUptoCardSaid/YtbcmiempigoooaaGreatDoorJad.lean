/- Texts of mine for the claims about layer 2 (tree), joined: EngD. -/
import Derived.Test.YtbcmiempigoooaaGreatDoorJac
import Derived.Still
import Derived.Laws.Tables
import Derived.Wp
import Derived.RangeFuncRecord
import Derived.RecoverIn
set_option linter.all false
set_option linter.unusedSimpArgs false
set_option linter.unusedVariables false
namespace Go.Eng
open Go.RowKit
inductive St where
  |asg (g:Option (Nat×Bool)) (d:Nat) (e:Ex)
  |eff (g:Option (Nat×Bool)) (dst:Option Nat) (op:Op) (type:TypeId)
inductive IR where
  |skip
  |reg (l:List St)
  |drw (l:List St)
  |seq (a b:IR)
  |cond (c:Ex) (a b:IR)
  |block (id:Nat) (a:IR)
  |loop (a:IR)
  |exit (id:Nat)
  |ret
  |raw (c:Code)
structure Ks where
  ex:Nat→Env→World→Prop
  rt:Env→World→Prop
  pn:Env→List PanicEntry→World→Prop
  og:Prop
  df:Prop
  rd:Prop
def Ks.noRd (Q:Ks):Ks:={Q with rd:=False}
def updO (ρ:Env) (d:Option Nat) (v:Value):Env:=match d with|none=>ρ|some d=>upd ρ d v
def gd (ρ:Env):Option (Nat×Bool)→Bool
  |none=>true
  |some (t,want)=>match ρ t with| .bool b=>b==want|_=>false
def evE (ρ:Env):Operand→Value
  | .tmp t=>ρ t
  |x=>constOf x
def effOp (dst : Option Nat) (op : Op) (type : TypeId) : Oper := { dst, op, type, pos := "", after := #[], guard := none }
def uponE (P:Program) (Q:Ks) (dst:Option Nat) (K:Env→World→Prop) (ρ:Env):Result Next→Prop
  | .ok (.value v) w'=>K (updO ρ dst v) w'
  | .ok .skip w'=>K (updO ρ dst undef) w'
  | .ok (.enter f args) w'=>Calls P f args w' fun
      | .returned v,w''=>K (updO ρ dst v) w''
      | .panicked chain,w''=>Q.pn ρ chain w''
      | .outgrown,_=>Q.og
  | .ok (.round l f tmps assign body) w'=>Q.rd∧RoundIn Fence.wide 0 P l f tmps assign body w' fun
      | .returned v,w''=>K (updO ρ dst v) w''
      | .panicked chain,w''=>Q.pn ρ chain w''
      | .outgrown,_=>Q.og
  | .ok (.defer d) w'=>Q.df∧K (updO (upd ρ gS (consD d (ρ gS))) dst undef) w'
  | .halt (.panic v) w'=>Q.pn ρ [{v,recovered:=false}] w'
  |_=>False
def effE (P:Program) (Q:Ks) (dst:Option Nat) (op:Op) (type:TypeId) (K:Env→World→Prop) (ρ:Env) (w:World):Prop:=
  uponE P Q dst K ρ ((execOp (evE ρ) (effOp dst op type)).run P w)
def onV (c:Option Value) (f:Value→Prop):Prop:=
  match c with
  |some v=>f v
  |none=>False
def zeroCellsOf (P:Program) (t:TypeId):Option (Array Value):=(P.info? t).bind fun i=>i.zero.map (·.cells)
def sliceInfo (P:Program) (t:TypeId):Option (TypeId×Nat):=
  match P.underlying t with
  |some (.slice e)=>(P.info? e).bind fun i=>if i.zero.isSome then some (e,i.size) else none
  |_=>none
def callB (P:Program) (f:FuncId):Bool:=
  match P.funcs[f]? with
  | some fn => !(fn.name == "runtime.NumGoroutine") && fn.body.isSome
  |none=>false
def sizeIs (P:Program) (t:TypeId) (n:Nat):Bool:=match P.info? t with|some i=>i.size==n|none=>false
def storesW (a:Addr):List Value→Nat→(World→Prop)→World→Prop
  |[],_,K,w=>K w
  |v::vs,i,K,w=>(∃old,w.cell? (a.add i)=some old)∧w.frozen? (a.add i)=false∧v.oneCell=true∧storesW a vs (i+1) K (w.setCell (a.add i) v)
def callK (Q:Ks) (dst:Option Nat) (K:Env→World→Prop) (ρ:Env):Ending→World→Prop
  | .returned v,w''=>K (updO ρ dst v) w''
  | .panicked chain,w''=>Q.pn ρ chain w''
  | .outgrown,_=>Q.og
def ptrK (x:Value) (f:Addr→Prop):Prop:=match x with| .pointer (some a)=>f a|_=>False
def onO {α:Type} (c:Option α) (f:α→Prop):Prop:=match c with|some v=>f v|none=>False
def callW (P:Program) (Q:Ks) (dst:Option Nat) (op:Op) (type:TypeId) (K:Env→World→Prop) (ρ:Env) (w:World) (args:Array Operand):Callee→Prop
  | .value (.func f)=>callB P f=true∧Calls P f (args.map (evE ρ)) w (callK Q dst K ρ)
  |_=>effE P Q dst op type K ρ w
def effW (P:Program) (Q:Ks) (dst:Option Nat) (op:Op) (type:TypeId) (K:Env→World→Prop) (ρ:Env) (w:World):Prop:=
  match op with
  | .box t x=>K (updO ρ dst (.pointer (some ⟨w.heap.size,0,none⟩))) (w.alloc (.cells (evE ρ x).cells t))
  | .alloc t=>onO (zeroCellsOf P t) fun z=>K (updO ρ dst (.pointer (some ⟨w.heap.size,0,none⟩))) (w.alloc (.cells z t))
  | .store t p x=>sizeIs P t (evE ρ x).cells.size=true∧ptrK (evE ρ p) fun a=>storesW a (evE ρ x).cells.toList 0 (K (updO ρ dst undef)) w
  | .makeFunc fn fs cs=>K (updO ρ dst (.func fn (fs.map (evE ρ)) (cs.map (evE ρ)))) w
  | .build t ps=>onO (P.built t (ps.map fun p=>(p.1,evE ρ p.2)).toList) fun cells=>K (updO ρ dst (.agg cells)) w
  | .buildSlice t n ps=>onO (sliceInfo P t) fun es=>n*es.2≤1000∧ps.toList.map (·.1)=List.range n∧(∀p∈ps.toList,(evE ρ p.2).cells.size=es.2)∧
      K (updO ρ dst (.slice (some ⟨w.heap.size,0,none⟩) n n)) (w.alloc (.cells (ps.toList.flatMap fun p=>(evE ρ p.2).cells.toList).toArray es.1))
  | .call c=>callW P Q dst op type K ρ w c.args c.callee
  |op=>effE P Q dst op type K ρ w
def St.wp (P:Program) (Q:Ks):St→(Env→World→Prop)→Env→World→Prop
  | .asg g d e,K,ρ,w=>if gd ρ g then onV (e.ev ρ w) (fun v=>K (upd ρ d v) w) else K (upd ρ d undef) w
  | .eff g dst op type,K,ρ,w=>if gd ρ g then effW P Q dst op type K ρ w else K (updO ρ dst undef) w
def wps (P:Program) (Q:Ks):List St→(Env→World→Prop)→Env→World→Prop
  |[],K,ρ,w=>K ρ w
  |s::r,K,ρ,w=>s.wp P Q (wps P Q r K) ρ w
def qeff (P:Program) (w0:World) (dst:Option Nat) (op:Op) (type:TypeId) (ρ:Env) (v:Value):Prop:=
  match op with
  | .call {callee:= .value (.func f),args, .. }=>callB P f=true∧∀w,Ext w0 w→Calls P f (args.map (evE ρ)) w (fun e w'=>e= .returned v∧Ext w0 w')
  |_=>∀w,Ext w0 w→Oper.quietUpon P (Ext w0) w v ((execOp (evE ρ) (effOp dst op type)).run P w)
def qwps (P:Program) (w0:World):List St→(Env→Prop)→Env→Prop
  |[],K,ρ=>K ρ
  | .asg g d e::r,K,ρ=>if gd ρ g then onV (e.ev ρ w0) (fun v=>qwps P w0 r K (upd ρ d v)) else qwps P w0 r K (upd ρ d undef)
  | .eff g dst op type::r,K,ρ=>if gd ρ g then∃v,qeff P w0 dst op type ρ v∧qwps P w0 r K (updO ρ dst v)
      else qwps P w0 r K (updO ρ dst undef)
structure Cx where
  P:Program
  n:Nat
  V:List Nat
  D:List Deferred
def dOk (cx:Cx) (a:Act):Prop:=cx.D=[]→a.defers=[]
def lift (cx:Cx) (K:Env→World→Prop) (Q:Ks):Exit→Act→World→Prop
  | .normal,a,w=>dOk cx a∧∃ρ,Agree cx.n cx.V ρ a∧K ρ w
  | .exit i,a,w=>dOk cx a∧∃ρ,Agree cx.n cx.V ρ a∧Q.ex i ρ w
  | .ret,a,w=>dOk cx a∧∃ρ,Agree cx.n cx.V ρ a∧Q.rt ρ w
  | .panic c,a,w=>dOk cx a∧∃ρ,Agree cx.n cx.V ρ a∧Q.pn ρ c w
  | .outgrown,_,_=>Q.og
  | .goto _,_,_=>False
def condW (c:Option Value) (x y:Prop):Prop:=
  match c with
  |some (.bool true)=>x
  |some (.bool false)=>y
  |_=>False
def IR.wp (cx:Cx):IR→(Env→World→Prop)→Ks→Env→World→Prop
  | .skip,K,_,ρ,w=>K ρ w
  | .reg l,K,Q,ρ,w=>wps cx.P Q l K ρ w
  | .drw l,K,_,ρ,w=>qwps cx.P w l (fun ρ'=>∀w',Ext w w'→K ρ' w') ρ
  | .seq a b,K,Q,ρ,w=>a.wp cx (fun ρ' w'=>b.wp cx K Q ρ' w') Q ρ w
  | .cond c a b,K,Q,ρ,w=>condW (c.ev ρ w) (a.wp cx K Q ρ w) (b.wp cx K Q ρ w)
  | .block id a,K,Q,ρ,w=>a.wp cx K {Q with ex:=fun i=>if i=id then K else Q.ex i} ρ w
  | .loop a,_,Q,ρ,w=>∃(I:Env→World→Prop) (μ:Env→World→Nat),I ρ w∧∀ρ' w',I ρ' w'→a.wp cx (fun ρ'' w''=>I ρ'' w''∧μ ρ'' w''<μ ρ' w') Q ρ' w'
  | .exit id,_,Q,ρ,w=>Q.ex id ρ w
  | .ret,_,Q,ρ,w=>Q.rt ρ w
  | .raw c,K,Q,ρ,w=>∀a,Agree cx.n cx.V ρ a→dOk cx a→(Q.df→cx.D≠[])→c.wp cx.P (lift cx K Q) a w
section
variable (P:Program) (ops:Array Oper) (V:List Nat)
def tg (g : Option (Nat × Bool)) (j : Nat) : Option (Option (Nat × Bool)) :=
  match g with
  |none=>some none
  |some (i,want)=>match dstOf ops i with
    |some t=>if V.contains t=true∧i<j then some (some (t,want)) else none
    |none=>none
def effOk (o:Oper):Bool:=
  (o.op.operands.toList.all fun x=> !fusedIn V x)&&(match o.op with| .select .. =>false|_=>true)&&(match o.dst with|some d=>V.contains d|none=>true)
def stms : Nat → Nat → Option (List St)
  |_,0=>some []
  |0,_+1=>none
  |fuel+1,k+1=>
    match ops[k]? with
    |none=>none
    |some o=>
      match px P ops V (k+1) k,o.dst with
      |some (e,j),some d=>if V.contains d then (tg ops V o.guard j).bind fun g=>(stms fuel j).map (· ++[.asg g d e]) else none
      |_,_=>if effOk V o then (tg ops V o.guard k).bind fun g=>(stms fuel k).map (· ++[.eff g o.dst o.op o.type]) else none
def dsts:List (Option Nat):=ops.toList.map (·.dst)
def onceB:List (Option Nat)→Bool
  |[]=>true
  |none::l=>onceB l
  |some d::l=> !l.contains (some d)&&onceB l
def regionB (n:Nat):Bool:=onceB (dsts ops)&&ops.toList.all fun o=>match o.dst with|some d=>decide (d<n)|none=>true
end
def comp (P : Program) (n : Nat) (V : List Nat) (rawIds : List Nat) : Code → Option IR
  | .skip=>some .skip
  | .region id ops draw=>
    if rawIds.contains id then some (.raw (.region id ops draw)) else
    if regionB ops n then
      match stms P ops V ops.size ops.size with
      |none=>none
      |some l=>if draw then (if Region.lexB .any ops&&P.follows .mixedOrders then some (.drw l) else none) else some (.reg l)
    else none
  | .seq a b=>match comp P n V rawIds a,comp P n V rawIds b with
    |some x,some y=>some (.seq x y)
    |_,_=>none
  | .cond c a b=>if fusedIn V c then none else match comp P n V rawIds a,comp P n V rawIds b with
    |some x,some y=>some (.cond (leaf c) x y)
    |_,_=>none
  | .block id a=>match comp P n V rawIds a with
    |some x=>some (.block id x)
    |none=>none
  | .loop a=>match comp P n V rawIds a with
    |some x=>some (.loop x)
    |none=>none
  | .exit id=>some (.exit id)
  | .ret=>some .ret
  |c=>some (.raw c)
theorem run_call {P:Program} {f:FuncId} (h:callB P f=true) {ρ:Env} {args:Array Operand} {ats:Array TypeId} {dst:Option Nat} {type:TypeId} (w:World):
    (execOp (evE ρ) (effOp dst (.call {callee:= .value (.func f),args,argTypes:=ats}) type)).run P w= .ok (.enter f (args.map (evE ρ))) w:=by
  unfold callB at h
  split at h
  · rename_i fn hf
    simp only [Bool.and_eq_true,Bool.not_eq_true',beq_eq_false_iff_ne,ne_eq] at h
    cases hb:fn.body with
    |none=>simp [hb] at h
    |some c=>simp [execOp,effOp,resolve,evE,constOf,Deferred.ofValue,invoke,callFunc,hf,h.1,hb]
  · cases h
theorem run_storeCells {P:Program} (a:Addr):∀(vs:List Value) (i:Nat) (K:World→Prop) (w:World),storesW a vs i K w→∃w',(storeCells a vs i).run P w= .ok () w'∧K w'
  |[],i,K,w,h=>⟨w,by simp [storeCells],h⟩
  | v :: vs, i, K, w, h => by
    obtain ⟨⟨old,ho⟩,hf,hv,hk⟩:=h
    obtain ⟨w',hr,hK⟩:=run_storeCells (P:=P) a vs (i+1) K _ hk
    refine ⟨w', ?_,hK⟩
    simp only [storeCells,Sem.run_bind]
    have h1:(store (a.add i) v).run P w= .ok () (w.setCell (a.add i) v):=by
      cases v<;>first|(cases hv;done)|simp [store,Sem.run,ho,hf]
    rw [h1]
    simpa using hr
theorem fill_all (size : Nat) : ∀ (ps : List (Nat × Value)) (k : Nat) (pre cells : List Value), ps.map (·.1) = List.range' k ps.length → (∀ p ∈ ps, p.2.cells.size = size) → pre.length = k * size → cells.length = ps.length * size →
    Instr.fill (fun i=>some (i*size,size)) (pre++cells).toArray ps=some (pre++ps.flatMap fun p=>p.2.cells.toList).toArray
  |[],k,pre,cells,_,_,_,hc=>by
    have:cells=[]:=by simpa using hc
    subst this
    simp [Instr.fill]
  | (i, v) :: ps, k, pre, cells, hi, hs, hp, hc => by
    simp only [List.map_cons,List.length_cons,List.range'_succ,List.cons.injEq] at hi
    obtain ⟨rfl,hi⟩:=hi
    have hv:v.cells.size=size:=hs (i,v) (by simp)
    simp only [Instr.fill]
    have hlen:cells.length=(ps.length+1)*size:=by simpa using hc
    have hge:size≤cells.length:=by rw [hlen,Nat.add_mul];omega
    rw [if_neg (by
      simp only [hv,ne_eq,not_true_eq_false,decide_false,Bool.false_or,decide_eq_true_eq,List.size_toArray,List.length_append,hp]
      omega)]
    have key:∀(l:List Value) (o:Nat) (arr:Array Value),(l.zipIdx o).foldl (fun cs (x:Value×Nat)=>cs.setIfInBounds (i*size+x.2) x.1) arr=arr→True:=fun _ _ _ _=>trivial
    have lay:∀(l:List Value) (o:Nat) (mid rest:List Value),mid.length=o→l.length≤rest.length→
        (l.zipIdx o).foldl (fun cs (x:Value×Nat)=>cs.setIfInBounds (i*size+x.2) x.1) (pre++mid++rest).toArray=(pre++mid++l++rest.drop l.length).toArray:=by
      intro l
      induction l with
      |nil=>intro o mid rest _ _;simp
      |cons c l ih=>
        intro o mid rest hm hr
        cases rest with
        |nil=>simp at hr
        |cons r rest=>
          simp only [List.zipIdx_cons,List.foldl_cons]
          have hset:(pre++mid++r::rest).toArray.setIfInBounds (i*size+o) c=(pre++(mid++[c])++rest).toArray:=by
            simp only [List.setIfInBounds_toArray]
            congr 1
            rw [List.append_assoc,List.set_append_right _ _ (by rw [hp];omega),hp,show i*size+o - i*size=o by omega,List.set_append_right _ _ (by omega),hm]
            simp
          rw [hset,ih (o+1) (mid++[c]) rest (by simp [hm]) (by simpa using hr)]
          simp
    have h1:=lay v.cells.toList 0 [] cells rfl (by simpa [hv] using hge)
    simp only [List.append_nil] at h1
    have h2:v.cells.zipIdx.foldl (fun cs (x:Value×Nat)=>cs.setIfInBounds (i*size+x.2) x.1) (pre++cells).toArray=(pre++v.cells.toList++cells.drop size).toArray:=by
      rw [←Array.foldl_toList]
      simpa [hv] using h1
    have h3:=fill_all size ps (i+1) (pre++v.cells.toList) (cells.drop size) hi (fun p hp=>hs p (by simp [hp])) (by simp [hp,hv,Nat.add_mul]) (by simp [hlen,Nat.add_mul])
    rw [h2,h3]
    simp
theorem run_buildSlice {P:Program} {t e:TypeId} {size:Nat} (h:sliceInfo P t=some (e,size)) {n:Nat} (hn:n*size≤1000) {ps:Array (Nat×Value)} (hi:ps.toList.map (·.1)=List.range n) (hs:∀p∈ps.toList,p.2.cells.size=size) (w:World):
    (Instr.buildSlice t n ps).run P w= .ok (.slice (some ⟨w.heap.size,0,none⟩) n n) (w.alloc (.cells (ps.toList.flatMap fun p=>p.2.cells.toList).toArray e)):=by
  unfold sliceInfo at h
  split at h
  · rename_i e' hu
    obtain ⟨i,hi',he⟩:=Option.bind_eq_some_iff.1 h
    obtain ⟨zv,hzv⟩:∃zv,i.zero=some zv:=by
      cases hz:i.zero with
      |none=>simp [hz] at he
      |some z=>exact ⟨z,rfl⟩
    simp only [hzv,Option.isSome_some,if_true,Option.some.injEq,Prod.mk.injEq] at he
    obtain ⟨rfl,rfl⟩:=he
    have hlen:ps.toList.length=n:=by have:=congrArg List.length hi;simpa using this
    have hno:¬(n*i.size>2^24):=by omega
    have hzr:(zeroValue e').run P w= .ok zv w:=by simp [zeroValue,run_info hi',hzv]
    have hfill:∀cells:Array Value,cells.size=n*i.size→Instr.fill (fun j=>some (j*i.size,i.size)) cells ps.toList=some (ps.toList.flatMap fun p=>p.2.cells.toList).toArray:=by
      intro cells hc
      have:=fill_all i.size ps.toList 0 [] cells.toList (by rw [hi,hlen,List.range_eq_range']) hs (by simp) (by simp [hc,hlen])
      simpa using this
    simp only [Instr.buildSlice,Sem.run_bind,run_underlying hu,Result.andThen_ok,run_size hi',if_neg hno]
    by_cases h0:n*i.size=0
    · have e0:∀f:Nat→Value,(Array.range 0).map f= #[]:=fun _=>by simp [Array.range]
      have hf:=hfill #[] (by simp [h0])
      simp only [h0,if_true,e0,hf]
      simp [newRow]
    · simp only [h0,if_false,Sem.run_bind,hzr,Result.andThen_ok,Sem.run_pure]
      have hf:=hfill ((Array.range (n*i.size)).map fun j=>zv.cells[j%zv.cells.size]!) (by simp)
      simp only [hf]
      simp [newRow]
  · cases h
theorem qeff_sound {P:Program} {w0:World} {dst:Option Nat} {op:Op} {type:TypeId} {ρ:Env} {v:Value} (h:qeff P w0 dst op type ρ v):
    ∀w,Ext w0 w→Oper.quietUpon P (Ext w0) w v ((execOp (evE ρ) (effOp dst op type)).run P w):=by
  unfold qeff at h
  split at h
  · rename_i f args ats
    intro w hw
    rw [run_call h.1]
    exact ⟨rfl,h.2 w hw⟩
  · exact h
theorem effE_ok {P:Program} {Q:Ks} {dst:Option Nat} {op:Op} {type:TypeId} {K:Env→World→Prop} {ρ:Env} {w w':World} {v:Value}
    (h:(execOp (evE ρ) (effOp dst op type)).run P w= .ok (.value v) w') (hk:K (updO ρ dst v) w'):effE P Q dst op type K ρ w:=by unfold effE;rw [h];exact hk
theorem effW_sound {P : Program} {Q : Ks} {dst : Option Nat} {op : Op} {type : TypeId} {K : Env → World → Prop} {ρ : Env} {w : World} (h : effW P Q dst op type K ρ w) : effE P Q dst op type K ρ w := by
  unfold effW at h
  split at h
  · refine effE_ok ?_ h
    simp [execOp,effOp,Instr.box,newVar,newRow]
  · rename_i t
    unfold onO at h
    split at h
    · rename_i z hz
      simp only [zeroCellsOf,Option.bind_eq_some_iff,Option.map_eq_some_iff] at hz
      obtain ⟨i,hi,zv,hzv,rfl⟩:=hz
      refine effE_ok ?_ h
      have hzr:∀w,(zeroValue t).run P w= .ok zv w:=fun w=>by simp [zeroValue,run_info hi,hzv]
      simp [execOp,effOp,Instr.alloc,hzr,newVar,newRow]
    · cases h
  · rename_i t p x
    obtain ⟨hs,hp⟩:=h
    unfold ptrK at hp
    split at hp
    · rename_i a ha
      unfold sizeIs at hs
      split at hs
      · rename_i i hi
        obtain ⟨w',hr,hK⟩:=run_storeCells (P:=P) a _ 0 _ w hp
        have hsz : (evE ρ x).cells.size = i.size := by have : i.size = (evE ρ x).cells.size := by simpa using hs
                                                       exact this.symm
        have:(execOp (evE ρ) (effOp dst (.store t p x) type)).run P w= .ok .skip w':=by
          simp [execOp,effOp,Instr.storeAt,ha,Instr.sureAddr,storeVar,run_size hi,hsz,hr]
        unfold effE;rw [this];exact hK
      · cases hs
    · cases hp
  · refine effE_ok ?_ h
    simp [execOp,effOp,Instr.makeFunc]
  · rename_i t ps
    unfold onO at h
    split at h
    · rename_i cells hc
      refine effE_ok ?_ h
      have:=run_build (P:=P) w t (ps.map fun p=>(p.1,evE ρ p.2)) cells hc
      simp [execOp,effOp,this]
    · cases h
  · rename_i t n ps
    unfold onO at h
    split at h
    · rename_i es hes
      obtain ⟨e,size⟩:=es
      obtain ⟨h1,h2,h3,h4⟩:=h
      refine effE_ok ?_ h4
      have:=run_buildSlice (P:=P) hes h1 (ps:=ps.map fun p=>(p.1,evE ρ p.2)) (by simp only [Array.toList_map,List.map_map];exact h2)
        (fun p hp=>by
          simp only [Array.toList_map,List.mem_map] at hp
          obtain ⟨q,hq,rfl⟩:=hp
          exact h3 q hq) w
      simp only [execOp,effOp,Sem.run_bind,this,Result.andThen_ok,Sem.run_pure]
      simp [List.flatMap_map]
    · cases h
  · rename_i c
    unfold callW at h
    split at h
    · rename_i f hc
      obtain ⟨callee,args,ats⟩:=c
      simp only at hc h
      subst hc
      unfold effE
      rw [run_call h.1]
      exact h.2
    · exact h
  · exact h
theorem onceB_spec : ∀ (l : List (Option Nat)), onceB l = true → ∀ (i i' t : Nat), l[i]? = some (some t) → l[i']? = some (some t) → i = i'
  |[],_,i,_,_,h,_=>by simp at h
  | x :: l, h, i, i', t, hi, hi' => by
    have ih:onceB l=true:=by
      cases x with
      |none=>simpa [onceB] using h
      |some d=>simp only [onceB,Bool.and_eq_true] at h;exact h.2
    have hnot:x=some t→∀j:Nat,l[j]? ≠some (some t):=by
      rintro rfl j hj
      simp only [onceB,Bool.and_eq_true,Bool.not_eq_true',List.contains_eq_mem,decide_eq_false_iff_not] at h
      exact h.1 (List.mem_of_getElem? hj)
    cases i with
    |zero=>
      simp only [List.getElem?_cons_zero,Option.some.injEq] at hi
      cases i' with
      |zero=>rfl
      |succ i'=>simp only [List.getElem?_cons_succ] at hi';exact absurd hi' (hnot hi i')
    |succ i=>
      simp only [List.getElem?_cons_succ] at hi
      cases i' with
      |zero=>simp only [List.getElem?_cons_zero,Option.some.injEq] at hi';exact absurd hi (hnot hi' i)
      |succ i'=>
        simp only [List.getElem?_cons_succ] at hi'
        rw [onceB_spec l ih i i' t hi hi']
theorem regionB_spec {ops:Array Oper} {n:Nat} (h:regionB ops n=true):Region1 n ops:=by
  simp only [regionB,Bool.and_eq_true,List.all_eq_true] at h
  have key:∀i t,dstOf ops i=some t→(dsts ops)[i]? =some (some t):=by
    intro i t hi
    simp only [dstOf,Option.bind_eq_some_iff] at hi
    obtain ⟨o,ho,hd⟩:=hi
    simp [dsts,ho,hd]
  refine ⟨fun i i' t hi hi'=>onceB_spec _ h.1 i i' t (key i t hi) (key i' t hi'),fun i t hi=> ?_⟩
  simp only [dstOf,Option.bind_eq_some_iff] at hi
  obtain ⟨o,ho,hd⟩:=hi
  have:=h.2 o (by rw [Array.mem_toList_iff];exact Array.mem_of_getElem? ho)
  simpa [hd] using this
theorem ext_refl (w:World):Ext w w:=Below.refl _ _
def fc (ro:Option Nat):Fence:={Fence.wide with round:=ro}
def NoDef (ro:Option Nat) (ops:Array Oper):Prop:=ro=none∨∀(i:Nat) (o:Oper),ops[i]? =some o→∀c:Call,o.op≠ .defer c
theorem semAt_nd {ro:Option Nat} {ops:Array Oper} (h:NoDef ro ops) {i:Nat} {o:Oper} (ho:ops[i]? =some o) (f:Operand→Value):Oper.semAt (fc ro).round f o=execOp f o:=by
  rcases h with rfl|h
  · rfl
  · exact Oper.semAt_eq _ _ _ (h i o ho)
theorem callsIn_fc {ro:Option Nat} {n:Nat} {P:Program} {f:FuncId} {args:Array Value} {w:World} {R:Ending→World→Prop} (h:Calls P f args w R):CallsIn (fc ro) n P f args w R:=
  (callsIn_wide (n:=n)).2 h
theorem roundIn_fc {ro:Option Nat} {n:Nat} {P:Program} {l f:Nat} {tmps:Array Value} {as bd:Code} {w:World} {R:Ending→World→Prop} (h:RoundIn Fence.wide 0 P l f tmps as bd w R):RoundIn (fc ro) n P l f tmps as bd w R:=
  ⟨trivial,fun c cs _=>h.2 c cs (room_wide _)⟩
theorem wpOps_of_PS {ro : Option Nat} {P : Program} {ops : Array Oper} (hnd : NoDef ro ops) {w : World} {Q : Exit → Act → World → Prop} : ∀ (l : List Nat) (a : Act) (K : Act → Prop), (∀ a, K a → Q .normal a w) → PS P w ops l a K → wpOpsIn (fc ro) 0 P ops Q l a w
  |[],_,_,hK,h=>hK _ h
  | i :: l, a, K, hK, h => by
    simp only [PS] at h
    simp only [wpOpsIn]
    split
    · rename_i e;simp only [e] at h;exact wpOps_of_PS hnd l a K hK h
    · rename_i o e
      simp only [e] at h
      split
      · rename_i hw;simp only [hw,if_true] at h
        obtain ⟨v,hv,hk⟩:=h
        simp only [Oper.wpIn,semAt_nd hnd e,hv w (ext_refl w),Oper.uponIn]
        exact ⟨fun _ _=>trivial,wpOps_of_PS hnd l _ K hK hk⟩
      · rename_i hw;simp only [hw] at h
        exact ⟨fun _ _=>trivial,wpOps_of_PS hnd l _ K hK (by simpa using h)⟩
theorem wpOps_append {F : Fence} {P : Program} {ops : Array Oper} {Q : Exit → Act → World → Prop} : ∀ (l m : List Nat) (a : Act) (w : World),
    wpOpsIn F 0 P ops (Exit.then (wpOpsIn F 0 P ops Q m) Q) l a w→wpOpsIn F 0 P ops Q (l++m) a w
  |[],_,_,_,h=>h
  | i :: l, m, a, w, h => by
    simp only [List.cons_append,wpOpsIn] at h⊢
    split
    · rename_i e;simp only [e] at h;exact wpOps_append l m a w h
    · rename_i o e
      simp only [e] at h
      split
      · rename_i hw;simp only [hw,if_true] at h
        simp only [Oper.wpIn] at h⊢
        refine ⟨h.1, ?_⟩
        replace h:=h.2
        generalize (Oper.semAt F.round a.eval o).run P w=r at h⊢
        cases r with
        |ok x w'=>
          cases x<;>simp only [Oper.uponIn] at h⊢ <;>first|exact h|exact wpOps_append l m _ _ h|skip
          · refine ⟨h.1,h.2.mono fun e w2 hh=> ?_⟩
            cases e with
            |returned v=>exact wpOps_append l m _ _ hh
            |panicked c=>exact hh
            |outgrown=>exact hh
          · refine ⟨h.1,h.2.mono fun e w2 hh=> ?_⟩
            cases e with
            |returned v=>exact wpOps_append l m _ _ hh
            |panicked c=>exact hh
            |outgrown=>exact hh
          · exact ⟨h.1,h.2.mono fun v w2 hh=>wpOps_append l m _ _ hh⟩
        |halt x w'=>cases x<;>simp only [Oper.uponIn] at h⊢ <;>exact h
      · rename_i hw;simp only [hw] at h
        refine ⟨?_,wpOps_append l m _ _ ?_⟩
        · exact (by simpa using h:_∧_).1
        · exact (by simpa using h:_∧_).2
theorem wpOps_mono {F : Fence} {P : Program} {ops : Array Oper} {Q1 Q2 : Exit → Act → World → Prop} (hq : ∀ e a w, Q1 e a w → Q2 e a w) : ∀ l a w, wpOpsIn F 0 P ops Q1 l a w → wpOpsIn F 0 P ops Q2 l a w := by
  intro l
  induction l with
  |nil=>intro a w h;exact hq _ _ _ h
  |cons i l ihl=>
    intro a w h
    simp only [wpOpsIn] at h⊢
    split
    · rename_i e0;simp only [e0] at h;exact ihl _ _ h
    · rename_i o0 e0
      simp only [e0] at h
      split
      · rename_i hw0;simp only [hw0,if_true] at h
        simp only [Oper.wpIn] at h⊢
        refine ⟨h.1, ?_⟩
        replace h:=h.2
        generalize (Oper.semAt F.round a.eval o0).run P w=r at h⊢
        cases r with
        |ok x w'=>
          cases x<;>simp only [Oper.uponIn] at h⊢ <;>first|exact h|exact ihl _ _ h|skip
          · refine ⟨h.1,h.2.mono fun e w2 hh=> ?_⟩
            cases e with
            |returned v=>exact ihl _ _ hh
            |panicked c=>exact hq _ _ _ hh
            |outgrown=>obtain ⟨a0,w0,h0⟩:=hh;exact ⟨a0,w0,hq _ _ _ h0⟩
          · refine ⟨h.1,h.2.mono fun e w2 hh=> ?_⟩
            cases e with
            |returned v=>exact ihl _ _ hh
            |panicked c=>exact hq _ _ _ hh
            |outgrown=>obtain ⟨a0,w0,h0⟩:=hh;exact ⟨a0,w0,hq _ _ _ h0⟩
          · exact ⟨h.1,h.2.mono fun v w2 hh=>ihl _ _ hh⟩
        |halt x w'=>cases x<;>simp only [Oper.uponIn] at h⊢ <;>first|exact hq _ _ _ h|exact h
      · rename_i hw0;simp only [hw0] at h
        refine ⟨?_,ihl _ _ ?_⟩
        · exact (by simpa using h:_∧_).1
        · exact (by simpa using h:_∧_).2
theorem Agree.put {n:Nat} {V:List Nat} {ρ:Env} {a:Act} (h:Agree n V ρ a) {d:Nat} (hd:d∈V) (v:Value):Agree n V (upd ρ d v) (a.put (some d) v):=by
  refine ⟨by simp [Act.put,h.size], ?_,h.lt,h.big⟩
  have hlt:=h.lt d hd
  have hne:=h.ne hd
  rw [h.env]
  funext i
  simp only [upd,envOf,Act.put]
  by_cases hi:i=d
  · subst hi
    simp [hd,h.size,hlt,Array.getD_eq_getD_getElem?,hne]
  · have:d≠i:=fun e=>hi e.symm
    simp [hi,Array.getD_eq_getD_getElem?,this]
theorem Agree.putO {n:Nat} {V:List Nat} {ρ:Env} {a:Act} (h:Agree n V ρ a) {d:Option Nat} (hd:∀t,d=some t→t∈V) (v:Value):Agree n V (updO ρ d v) (a.put d v):=by
  cases d with
  |none=>exact h
  |some d=>exact h.put (hd d rfl) v
theorem put_defers (a:Act) (d:Option Nat) (v:Value):(a.put d v).defers=a.defers:=by cases d<;>rfl
theorem gd_gok {n : Nat} {V : List Nat} {ρ : Env} {a : Act} {ops : Array Oper} {g : Option (Nat × Bool)} {j : Nat} {g' : Option (Nat × Bool)} (h : Agree n V ρ a) (hg : tg ops V g j = some g') :
    gok ops g a=gd ρ g'∧guardLt g j=true:=by
  unfold tg at hg
  split at hg
  · cases hg;exact ⟨rfl,rfl⟩
  · rename_i i want
    split at hg
    · rename_i t ht
      split at hg
      · rename_i hc
        obtain ⟨hV,hij⟩:=hc
        cases hg
        have htV:t∈V:=by simpa using hV
        have hlt:=h.lt t htV
        refine ⟨?_,by simpa [guardLt] using hij⟩
        have ht':((ops[i]?).bind (·.dst))=some t:=ht
        have hρ:ρ t=a.tmps.getD t undef:=h.at htV
        have hsz:t<a.tmps.size:=by rw [h.size];exact hlt
        simp only [gok,gd,yielded,ht',Option.bind_some,hρ,Array.getD_eq_getD_getElem?,Array.getElem?_eq_getElem hsz,Option.getD_some]
        cases a.tmps[t] <;>simp
      · cases hg
    · cases hg
theorem Agree.root {n : Nat} {V : List Nat} {ρ : Env} {a a' : Act} {ops : Array Oper} {j k : Nat} {o : Oper} (h : Agree n V ρ a) (hf : Fr ops j (k + 1) a a') (hfree : Free ops V j k) (ho : ops[k]? = some o) {d : Nat}
    (hd:o.dst=some d) (hdV:d∈V) {v:Value} (hv:a'.tmps[d]? =some v):Agree n V (upd ρ d v) a':=by
  refine ⟨hf.size.trans h.size, ?_,h.lt,h.big⟩
  have hdne:=h.ne hdV
  rw [h.env]
  funext i
  simp only [upd,envOf,hf.defers]
  by_cases hi:i=d
  · subst hi;simp [hdV,Array.getD_eq_getD_getElem?,hv,hdne]
  · simp only [hi,if_false]
    split
    · rfl
    split
    · rename_i hiV
      have:=hf.keep i fun x hx hx' e=>by
        by_cases hxk:x=k
        · subst hxk
          have:dstOf ops x=some d:=by simp [dstOf,ho,hd]
          rw [this] at e;cases e;exact hi rfl
        · exact hfree x hx (by omega) i e hiV
      simp only [Array.getD_eq_getD_getElem?,this]
    · rfl
theorem execOp_eff (f:Operand→Value) (o:Oper):execOp f o=execOp f (effOp o.dst o.op o.type):=by
  obtain ⟨dst,op,type,pos,after,guard⟩:=o
  cases op<;>rfl
theorem execOp_env {n:Nat} {V:List Nat} {ρ:Env} {a:Act} {o:Oper} (h:Agree n V ρ a) (hok:effOk V o=true):execOp a.eval o=execOp (evE ρ) (effOp o.dst o.op o.type):=by
  rw [←execOp_eff]
  simp only [effOk,Bool.and_eq_true,List.all_eq_true] at hok
  refine execOp_congr o (fun cs b e=> ?_) fun x hx=> ?_
  · rw [e] at hok;exact absurd hok.1.2 (by simp)
  · have:=hok.1.1 x (by simpa using hx)
    cases x with
    |tmp t=>
      have htV:t∈V:=by simpa [fusedIn] using this
      simp [evE,h.at htV,Act.eval]
    |const v=>rfl
    |global g=>rfl
    |func f=>rfl
theorem effOk_dst {V:List Nat} {o:Oper} (hok:effOk V o=true):∀t,o.dst=some t→t∈V:=by
  intro t ht
  simp only [effOk,Bool.and_eq_true] at hok
  have:=hok.2
  rw [ht] at this
  simpa using this
section
variable {P:Program} {ops:Array Oper} {V:List Nat} {n:Nat}
theorem wps_append (Q:Ks):∀(l m:List St) (K:Env→World→Prop) (ρ:Env) (w:World),wps P Q (l++m) K ρ w=wps P Q l (wps P Q m K) ρ w
  |[],_,_,_,_=>rfl
  |s::l,m,K,ρ,w=>by
    have:wps P Q (l++m) K=wps P Q l (wps P Q m K):=by funext ρ w;exact wps_append Q l m K ρ w
    simp only [List.cons_append,wps,this]
theorem Agree.defer {n:Nat} {V:List Nat} {ρ:Env} {a:Act} (h:Agree n V ρ a) (d:Deferred):Agree n V (upd ρ gS (consD d (ρ gS))) {a with defers:=d::a.defers}:=by
  refine ⟨h.size, ?_,h.lt,h.big⟩
  rw [h.ds,consD_encDs,h.env]
  funext i
  simp only [upd,envOf]
  split
  · rfl
  · rfl
theorem st_sem (cx : Cx) (hP : cx.P = P) (hV : cx.V = V) (hn : cx.n = n) (hr : Region1 n ops) {ro : Option Nat} (hnd : NoDef ro ops) (Q : Ks) (Q' : Exit → Act → World → Prop)
    (hpn:∀ρ c a w,dOk cx a→Agree n V ρ a→Q.pn ρ c w→Q' (.panic c) a w) (hog:Q.og→LetsOut Q') (hdf:Q.df→cx.D≠[]):
    ∀(fuel k:Nat) (l:List St),stms P ops V fuel k=some l→∀(K:Env→World→Prop) (ρ:Env) (a:Act) (w:World),Agree n V ρ a→dOk cx a→wps P Q l K ρ w→
      wpOpsIn (fc ro) 0 P ops (Exit.then (fun a' w'=>dOk cx a'∧∃ρ',Agree n V ρ' a'∧K ρ' w') Q') (List.range' 0 k) a w
  |fuel,0,l,h,K,ρ,a,w,ha,hD,hw=>by
    have:l=[]:=by cases fuel<;>simpa [stms] using h.symm
    subst this
    exact ⟨hD,ρ,ha,hw⟩
  |0,k+1,l,h,_,_,_,_,_,_,_=>by simp [stms] at h
  | fuel + 1, k + 1, l, h, K, ρ, a, w, ha, hD, hw => by
    simp only [stms] at h
    split at h
    · cases h
    · rename_i o ho
      split at h
      ·
        rename_i e j d hpx hd
        split at h
        · rename_i hdV
          have hdV':d∈V:=by simpa using hdV
          simp only [Option.bind_eq_some_iff,Option.map_eq_some_iff] at h
          obtain ⟨g,hg,l',hl',rfl⟩:=h
          have sx:=px_sem hr _ _ _ _ hpx
          have lj:=sx.le
          have hsplit:List.range' 0 (k+1)=List.range' 0 j++List.range' j (k+1 - j):=by
            have:=range'_split (i:=0) (j:=j) (k:=k+1) (by omega) (by omega)
            simpa using this
          rw [hsplit]
          refine wpOps_append _ _ _ _ ?_
          have ih:=st_sem cx hP hV hn hr hnd Q (Exit.then (wpOpsIn (fc ro) 0 P ops (Exit.then (fun a' w'=>dOk cx a'∧∃ρ',Agree n V ρ' a'∧K ρ' w') Q') (List.range' j (k+1 - j))) Q')
            (fun ρ c a w h1 h2 h3=>hpn ρ c a w h1 h2 h3) (fun h1=>hog h1) hdf fuel j l' hl' (wps P Q [.asg g d e] K) ρ a w ha hD (by rw [←wps_append];exact hw)
          refine wpOps_mono ?_ _ _ _ ih
          intro ex a1 w1 h1
          cases ex with
          |normal=>
            obtain ⟨hD1,ρ1,ha1,hk1⟩:=h1
            obtain ⟨hgk,hglt⟩:=gd_gok ha1 hg
            simp only [Exit.then]
            simp only [wps,St.wp,onV] at hk1
            by_cases hgd:gd ρ1 g=true
            · simp only [hgd,if_true] at hk1
              cases hev:e.ev ρ1 w1 with
              |none=>simp only [hev] at hk1
              |some v=>
                simp only [hev] at hk1
                exact wpOps_of_PS hnd _ a1 (fun a'=>dOk cx a'∧∃ρ',Agree n V ρ' a'∧K ρ' w1) (fun _ h=>h)
                  (sx.yes o ho ρ1 w1 a1 v ha1 (by rw [hgk];exact hgd) hev _ fun a' hf hv=>⟨fun e=>hf.defers.trans (hD1 e),upd ρ1 d v,ha1.root hf sx.free ho hd hdV' (hv d hd),hk1⟩)
            · simp only [hgd] at hk1
              exact wpOps_of_PS hnd _ a1 (fun a'=>dOk cx a'∧∃ρ',Agree n V ρ' a'∧K ρ' w1) (fun _ h=>h)
                (sx.no o ho w1 a1 ha1.size (by rw [hgk];simpa using hgd) _ fun a' hf hv=>⟨fun e=>hf.defers.trans (hD1 e),upd ρ1 d undef,ha1.root hf sx.free ho hd hdV' (hv d hd),by simpa using hk1⟩)
          |exit i=>exact h1
          |goto i=>exact h1
          |ret=>exact h1
          |panic c=>exact h1
          |outgrown=>exact h1
        · cases h
      ·
        split at h
        · rename_i hok
          simp only [Option.bind_eq_some_iff,Option.map_eq_some_iff] at h
          obtain ⟨g,hg,l',hl',rfl⟩:=h
          have hsplit:List.range' 0 (k+1)=List.range' 0 k++[k]:=by
            have:=range'_last (j:=0) (k:=k) (by omega)
            simpa using this
          rw [hsplit]
          refine wpOps_append _ _ _ _ ?_
          have ih:=st_sem cx hP hV hn hr hnd Q (Exit.then (wpOpsIn (fc ro) 0 P ops (Exit.then (fun a' w'=>dOk cx a'∧∃ρ',Agree n V ρ' a'∧K ρ' w') Q') [k]) Q')
            (fun ρ c a w h1 h2 h3=>hpn ρ c a w h1 h2 h3) (fun h1=>hog h1) hdf fuel k l' hl' (wps P Q [.eff g o.dst o.op o.type] K) ρ a w ha hD (by rw [←wps_append];exact hw)
          refine wpOps_mono ?_ _ _ _ ih
          intro ex a1 w1 h1
          cases ex with
          |normal=>
            obtain ⟨hD1,ρ1,ha1,hk1⟩:=h1
            obtain ⟨hgk,_⟩:=gd_gok ha1 hg
            have hdst:=effOk_dst hok
            have hex:=execOp_env ha1 hok
            simp only [Exit.then,wpOpsIn,ho,wanted_gok]
            simp only [wps,St.wp] at hk1
            by_cases hgd:gd ρ1 g=true
            · simp only [hgd,if_true] at hk1
              have hok1:gok ops o.guard a1=true:=by rw [hgk];exact hgd
              simp only [hok1,if_true]
              have hk1:=effW_sound hk1
              unfold effE at hk1
              have hput:∀v w2,K (updO ρ1 o.dst v) w2→Exit.then (fun a' w'=>dOk cx a'∧∃ρ',Agree n V ρ' a'∧K ρ' w') Q' .normal (a1.put o.dst v) w2:=
                fun v w2 hk=>⟨fun e=>(put_defers _ _ _).trans (hD1 e),_,ha1.putO hdst v,hk⟩
              refine ⟨fun _ _=>trivial, ?_⟩
              rw [semAt_nd hnd ho,hex]
              generalize (execOp (evE ρ1) (effOp o.dst o.op o.type)).run P w1=r at hk1
              cases r with
              |ok x w'=>
                cases x<;>simp only [uponE,Oper.uponIn] at hk1⊢ <;>first|exact hput _ _ hk1|(cases hk1;done)|skip
                · refine ⟨fun h0=>(by cases h0),callsIn_fc (hk1.mono fun e w2 hh=> ?_)⟩
                  cases e with
                  |returned v=>exact hput _ _ hh
                  |panicked c=>exact hpn _ _ _ _ hD1 ha1 hh
                  |outgrown=>exact hog hh
                · refine ⟨fun h0=>(by cases h0),roundIn_fc (hk1.2.mono fun e w2 hh=> ?_)⟩
                  cases e with
                  |returned v=>exact hput _ _ hh
                  |panicked c=>exact hpn _ _ _ _ hD1 ha1 hh
                  |outgrown=>exact hog hh
                · refine ⟨fun e=>absurd e (hdf hk1.1),_,(ha1.defer _).putO hdst undef,hk1.2⟩
              |halt x w'=>
                cases x<;>simp only [uponE,Oper.uponIn] at hk1⊢ <;>first|(cases hk1;done)|exact hpn _ _ _ _ hD1 ha1 hk1
            · simp only [hgd] at hk1
              have hok1:gok ops o.guard a1=false:=by rw [hgk];simpa using hgd
              simp only [hok1,Bool.false_eq_true,if_false]
              exact ⟨fun _ _=>trivial,fun e=>(put_defers _ _ _).trans (hD1 e),_,ha1.putO hdst undef,by simpa using hk1⟩
          |exit i=>exact h1
          |goto i=>exact h1
          |ret=>exact h1
          |panic c=>exact h1
          |outgrown=>exact h1
        · cases h
end
section
variable {P:Program} {ops:Array Oper} {V:List Nat} {n:Nat}
def QS (P : Program) (C : World → Prop) (ops : Array Oper) : List Nat → Act → (Act → Prop) → Prop
  |[],a,K=>K a
  |i::is,a,K=>match ops[i]? with
    |none=>QS P C ops is a K
    |some o=>if Region.wanted o (yielded ops a.tmps) then o.quiet P a C (fun a'=>QS P C ops is a' K) else QS P C ops is (a.put o.dst undef) K
theorem QS_append {C : World → Prop} : ∀ (l m : List Nat) (a : Act) (K : Act → Prop), QS P C ops l a (fun a' => QS P C ops m a' K) → QS P C ops (l ++ m) a K
  |[],_,_,_,h=>h
  | i :: l, m, a, K, h => by
    simp only [List.cons_append,QS] at h⊢
    split
    · rename_i e;simp only [e] at h;exact QS_append l m a K h
    · rename_i o e
      simp only [e] at h
      split
      · rename_i hw;simp only [hw,if_true] at h
        exact Oper.quiet_mono (fun a' h'=>QS_append l m a' K h') h
      · rename_i hw;simp only [hw] at h
        exact QS_append l m _ K (by simpa using h)
theorem QS_mono {C : World → Prop} : ∀ (l : List Nat) (a : Act) (K K' : Act → Prop), (∀ a, K a → K' a) → QS P C ops l a K → QS P C ops l a K'
  |[],_,_,_,hk,h=>hk _ h
  | i :: l, a, K, K', hk, h => by
    simp only [QS] at h⊢
    split
    · rename_i e;simp only [e] at h;exact QS_mono l a K K' hk h
    · rename_i o e
      simp only [e] at h
      split
      · rename_i hw;simp only [hw,if_true] at h
        exact Oper.quiet_mono (fun a' h'=>QS_mono l a' K K' hk h') h
      · rename_i hw;simp only [hw] at h
        exact QS_mono l _ K K' hk (by simpa using h)
theorem QS_of_PS {w : World} : ∀ (l : List Nat) (a : Act) (K : Act → Prop), PS P w ops l a K → QS P (Ext w) ops l a K
  |[],_,_,h=>h
  | i :: l, a, K, h => by
    simp only [PS] at h
    simp only [QS]
    split
    · rename_i e;simp only [e] at h;exact QS_of_PS l a K h
    · rename_i o e
      simp only [e] at h
      split
      · rename_i hw;simp only [hw,if_true] at h
        obtain ⟨v,hv,hk⟩:=h
        refine ⟨v,fun w' hw'=> ?_,QS_of_PS l _ K hk⟩
        simp [Oper.quietAt,hv w' hw',Oper.quietUpon]
      · rename_i hw;simp only [hw] at h
        exact QS_of_PS l _ K (by simpa using h)
theorem wpQuiet_of_QS {C:World→Prop}:∀(l:List Oper) (k:Nat) (a:Act) (K:Act→Prop),(∀j,l[j]? =ops[k+j]?)→QS P C ops (List.range' k l.length) a K→wpQuiet P ops C K l a
  |[],_,_,_,_,h=>h
  | o :: l, k, a, K, hl, h => by
    have h0:ops[k]? =some o:=by simpa using (hl 0).symm
    have hl':∀j,l[j]? =ops[k+1+j]? :=fun j=>by have:=hl (j+1);simpa [Nat.add_assoc,Nat.add_comm 1 j] using this
    simp only [List.length_cons,List.range'_succ,QS,h0] at h
    simp only [wpQuiet]
    split
    · rename_i hw;simp only [hw,if_true] at h
      exact Oper.quiet_mono (fun a' h'=>wpQuiet_of_QS l (k+1) a' K hl' h') h
    · rename_i hw;simp only [hw] at h
      exact wpQuiet_of_QS l (k+1) _ K hl' (by simpa using h)
theorem qwps_append (w:World):∀(l m:List St) (K:Env→Prop) (ρ:Env),qwps P w (l++m) K ρ=qwps P w l (qwps P w m K) ρ
  |[],_,_,_=>rfl
  | .asg g d e::l,m,K,ρ=>by
    simp only [List.cons_append,qwps,qwps_append w l m K]
  | .eff g dst op type::l,m,K,ρ=>by
    simp only [List.cons_append,qwps,qwps_append w l m K]
theorem qst_sem (cx : Cx) (hr : Region1 n ops) (w : World) :
    ∀(fuel k:Nat) (l:List St),stms P ops V fuel k=some l→∀(K:Env→Prop) (ρ:Env) (a:Act),Agree n V ρ a→dOk cx a→qwps P w l K ρ→
      QS P (Ext w) ops (List.range' 0 k) a (fun a'=>dOk cx a'∧∃ρ',Agree n V ρ' a'∧K ρ')
  |fuel,0,l,h,K,ρ,a,ha,hD,hw=>by
    have:l=[]:=by cases fuel<;>simpa [stms] using h.symm
    subst this
    exact ⟨hD,ρ,ha,hw⟩
  |0,k+1,l,h,_,_,_,_,_,_=>by simp [stms] at h
  | fuel + 1, k + 1, l, h, K, ρ, a, ha, hD, hw => by
    simp only [stms] at h
    split at h
    · cases h
    · rename_i o ho
      split at h
      · rename_i e j d hpx hd
        split at h
        · rename_i hdV
          have hdV':d∈V:=by simpa using hdV
          simp only [Option.bind_eq_some_iff,Option.map_eq_some_iff] at h
          obtain ⟨g,hg,l',hl',rfl⟩:=h
          have sx:=px_sem hr _ _ _ _ hpx
          have lj:=sx.le
          have hsplit:List.range' 0 (k+1)=List.range' 0 j++List.range' j (k+1 - j):=by
            have:=range'_split (i:=0) (j:=j) (k:=k+1) (by omega) (by omega)
            simpa using this
          rw [hsplit]
          refine QS_append _ _ _ _ ?_
          refine QS_mono _ _ _ _ ?_ (qst_sem cx hr w fuel j l' hl' (qwps P w [.asg g d e] K) ρ a ha hD (by rw [←qwps_append];exact hw))
          rintro a1 ⟨hD1,ρ1,ha1,hk1⟩
          obtain ⟨hgk,hglt⟩:=gd_gok ha1 hg
          simp only [qwps,onV] at hk1
          refine QS_of_PS _ _ _ ?_
          by_cases hgd:gd ρ1 g=true
          · simp only [hgd,if_true] at hk1
            cases hev:e.ev ρ1 w with
            |none=>simp only [hev] at hk1
            |some v=>
              simp only [hev] at hk1
              exact sx.yes o ho ρ1 w a1 v ha1 (by rw [hgk];exact hgd) hev _ fun a' hf hv=>⟨fun e=>hf.defers.trans (hD1 e),upd ρ1 d v,ha1.root hf sx.free ho hd hdV' (hv d hd),hk1⟩
          · simp only [hgd] at hk1
            exact sx.no o ho w a1 ha1.size (by rw [hgk];simpa using hgd) _ fun a' hf hv=>⟨fun e=>hf.defers.trans (hD1 e),upd ρ1 d undef,ha1.root hf sx.free ho hd hdV' (hv d hd),by simpa using hk1⟩
        · cases h
      · split at h
        · rename_i hok
          simp only [Option.bind_eq_some_iff,Option.map_eq_some_iff] at h
          obtain ⟨g,hg,l',hl',rfl⟩:=h
          have hsplit:List.range' 0 (k+1)=List.range' 0 k++[k]:=by
            have:=range'_last (j:=0) (k:=k) (by omega)
            simpa using this
          rw [hsplit]
          refine QS_append _ _ _ _ ?_
          refine QS_mono _ _ _ _ ?_ (qst_sem cx hr w fuel k l' hl' (qwps P w [.eff g o.dst o.op o.type] K) ρ a ha hD (by rw [←qwps_append];exact hw))
          rintro a1 ⟨hD1,ρ1,ha1,hk1⟩
          obtain ⟨hgk,_⟩:=gd_gok ha1 hg
          have hdst:=effOk_dst hok
          have hex:=execOp_env ha1 hok
          simp only [QS,ho,wanted_gok]
          simp only [qwps] at hk1
          by_cases hgd:gd ρ1 g=true
          · simp only [hgd,if_true] at hk1
            have hok1:gok ops o.guard a1=true:=by rw [hgk];exact hgd
            simp only [hok1,if_true]
            obtain ⟨v,hv,hk⟩:=hk1
            refine ⟨v,fun w' hw'=> ?_,fun e=>(put_defers _ _ _).trans (hD1 e),_,ha1.putO hdst v,hk⟩
            simp only [Oper.quietAt,hex]
            exact qeff_sound hv w' hw'
          · simp only [hgd] at hk1
            have hok1:gok ops o.guard a1=false:=by rw [hgk];simpa using hgd
            simp only [hok1,Bool.false_eq_true,if_false]
            exact ⟨fun e=>(put_defers _ _ _).trans (hD1 e),_,ha1.putO hdst undef,by simpa using hk1⟩
        · cases h
end
theorem lift_og {cx:Cx} {K:Env→World→Prop} {Q:Ks} (h:Q.og):LetsOut (lift cx K Q):=⟨⟨#[],[]⟩,default,h⟩
def noDefB (ops:Array Oper):Bool:=ops.toList.all fun o=>match o.op with| .defer _=>false|_=>true
def plainB:Code→Bool
  | .skip=>true
  | .region _ ops draw=> !draw&&noDefB ops
  | .seq a b| .cond _ a b=>plainB a&&plainB b
  | .block _ a| .loop a=>plainB a
  | .exit _| .ret=>true
  |_=>false
theorem noDefB_spec {ops:Array Oper} (h:noDefB ops=true) (ro:Option Nat):NoDef ro ops:=by
  refine .inr fun i o ho c hc=> ?_
  simp only [noDefB,List.all_eq_true] at h
  have:=h o (by rw [Array.mem_toList_iff];exact Array.mem_of_getElem? ho)
  rw [hc] at this
  cases this
theorem raw_wide {c:Code} {P:Program} {Q:Exit→Act→World→Prop} {a:Act} {w:World} (h:c.wp P Q a w):c.wpIn (fc none) 0 P Q a w:=wpIn_wide.2 h
theorem comp_semR (cx : Cx) (ro : Option Nat) (rawIds : List Nat) : ∀ (c : Code) (ir : IR), comp cx.P cx.n cx.V rawIds c = some ir → (ro = none ∨ (plainB c = true ∧ rawIds = [])) → ∀ (K : Env → World → Prop) (Q : Ks) (ρ : Env) (a : Act) (w : World),
    (Q.df→cx.D≠[])→Agree cx.n cx.V ρ a→dOk cx a→ir.wp cx K Q ρ w→c.wpIn (fc ro) 0 cx.P (lift cx K Q) a w:=by
  intro c
  induction c with
  |skip=>
    intro ir h hro K Q ρ a w hdf ha hD hw
    simp only [comp,Option.some.injEq] at h;subst h
    exact wpIn_skip ⟨hD,ρ,ha,hw⟩
  | region id ops draw =>
    intro ir h hro K Q ρ a w hdf ha hD hw
    simp only [comp] at h
    split at h
    · rename_i hc
      rcases hro with rfl|⟨_,rfl⟩
      · cases h;exact raw_wide (hw a ha hD hdf)
      · simp at hc
    · split at h
      · rename_i hreg
        have hr:=regionB_spec hreg
        split at h
        · cases h
        · rename_i l hl
          split at h
          · rename_i hdr
            subst hdr
            split at h
            · rename_i hB
              rcases hro with rfl|⟨hp,_⟩
              · simp only [Bool.and_eq_true] at hB
                cases h
                refine raw_wide (wp_region_quiet (C:=Ext w) hB.2 hB.1 ⟨rfl,rfl,rfl,Nat.le_refl _,fun _ _=>rfl⟩ ?_)
                have h1:=qst_sem (P:=cx.P) cx hr w _ _ l hl (fun ρ'=>∀w',Ext w w'→K ρ' w') ρ a ha hD hw
                refine wpQuiet_of_QS ops.toList 0 a _ (by simp) ?_
                refine QS_mono _ _ _ _ ?_ (by simpa using h1)
                rintro a' ⟨hD',ρ',ha',hk⟩ w' hw'
                exact ⟨hD',ρ',ha',hk w' hw'⟩
              · simp [plainB] at hp
            · cases h
          · rename_i hdr
            have hdr':draw=false:=by simpa using hdr
            subst hdr'
            cases h
            have hnd:NoDef ro ops:=by
              rcases hro with rfl|⟨hp,_⟩
              · exact .inl rfl
              · simp only [plainB,Bool.and_eq_true] at hp
                exact noDefB_spec hp.2 ro
            refine wpIn_region ?_
            have h1:=st_sem (P:=cx.P) cx rfl rfl rfl hr hnd Q (lift cx K Q) (fun ρ c a w h1 h2 h3=>⟨h1,ρ,h2,h3⟩) lift_og hdf _ _ l hl K ρ a w ha hD hw
            rw [List.range_eq_range']
            refine wpOps_mono ?_ _ _ _ h1
            intro e a' w' he
            cases e<;>exact he
      · cases h
  |seq x y ihx ihy=>
    intro ir h hro K Q ρ a w hdf ha hD hw
    have hro1:ro=none∨(plainB x=true∧rawIds=[]):=hro.imp id fun h=>by simp only [plainB,Bool.and_eq_true] at h;exact ⟨h.1.1,h.2⟩
    have hro2:ro=none∨(plainB y=true∧rawIds=[]):=hro.imp id fun h=>by simp only [plainB,Bool.and_eq_true] at h;exact ⟨h.1.2,h.2⟩
    simp only [comp] at h
    split at h
    · rename_i ix iy hx hy
      cases h
      refine wpIn_seq (wpIn_mono (ihx ix hx hro1 _ Q ρ a w hdf ha hD hw) ?_)
      intro e a' w' he
      cases e with
      |normal=>obtain ⟨hD',ρ',ha',hk⟩:=he;exact ihy iy hy hro2 K Q ρ' a' w' hdf ha' hD' hk
      |exit i=>exact he
      |goto i=>exact he
      |ret=>exact he
      |panic c=>exact he
      |outgrown=>exact he
    · cases h
  |cond c x y ihx ihy=>
    intro ir h hro K Q ρ a w hdf ha hD hw
    have hro1:ro=none∨(plainB x=true∧rawIds=[]):=hro.imp id fun h=>by simp only [plainB,Bool.and_eq_true] at h;exact ⟨h.1.1,h.2⟩
    have hro2:ro=none∨(plainB y=true∧rawIds=[]):=hro.imp id fun h=>by simp only [plainB,Bool.and_eq_true] at h;exact ⟨h.1.2,h.2⟩
    simp only [comp] at h
    split at h
    · cases h
    · rename_i hc
      have hc':fusedIn cx.V c=false:=by simpa using hc
      split at h
      · rename_i ix iy hx hy
        cases h
        simp only [IR.wp,condW] at hw
        cases hev:(leaf c).ev ρ w with
        |none=>simp only [hev] at hw
        |some v=>
          have hcv:=leaf_ev ha hc' hev
          simp only [hev] at hw
          split at hw
          · rename_i e;cases e;exact wpIn_cond_true hcv (ihx ix hx hro1 K Q ρ a w hdf ha hD hw)
          · rename_i e;cases e;exact wpIn_cond_false hcv (ihy iy hy hro2 K Q ρ a w hdf ha hD hw)
          · cases hw
      · cases h
  |block id x ih=>
    intro ir h hro K Q ρ a w hdf ha hD hw
    have hro1:ro=none∨(plainB x=true∧rawIds=[]):=hro
    simp only [comp] at h
    split at h
    · rename_i ix hx
      cases h
      refine wpIn_block (wpIn_mono (ih ix hx hro1 _ {Q with ex:=fun i=>if i=id then K else Q.ex i} ρ a w hdf ha hD hw) ?_)
      intro e a' w' he
      cases e with
      |normal=>exact he
      |exit i=>
        obtain ⟨hD',ρ',ha',hk⟩:=he
        simp only [Exit.inBlock]
        split
        · rename_i e;subst e;simp only [if_true] at hk;exact ⟨hD',ρ',ha',hk⟩
        · rename_i e;simp only [e,if_false] at hk;exact ⟨hD',ρ',ha',hk⟩
      |goto i=>exact he
      |ret=>exact he
      |panic c=>exact he
      |outgrown=>exact he
    · cases h
  |loop x ih=>
    intro ir h hro K Q ρ a w hdf ha hD hw
    have hro1:ro=none∨(plainB x=true∧rawIds=[]):=hro
    simp only [comp] at h
    split at h
    · rename_i ix hx
      cases h
      obtain ⟨I,μ,h0,hstep⟩:=hw
      refine wpIn_loop (fun a' w'=>dOk cx a'∧∃ρ',Agree cx.n cx.V ρ' a'∧I ρ' w') (fun a' w'=>μ (envOf cx.V a') w') ⟨hD,ρ,ha,h0⟩ ?_
      rintro a1 w1 ⟨hD1,ρ1,ha1,hI⟩
      refine wpIn_mono (ih ix hx hro1 _ Q ρ1 a1 w1 hdf ha1 hD1 (hstep ρ1 w1 hI)) ?_
      intro e a' w' he
      cases e with
      |normal=>
        obtain ⟨hD',ρ',ha',hk,hm⟩:=he
        refine ⟨⟨hD',ρ',ha',hk⟩, ?_⟩
        show μ (envOf cx.V a') w'<μ (envOf cx.V a1) w1
        rw [←ha'.env,←ha1.env];exact hm
      |exit i=>exact he
      |goto i=>exact he
      |ret=>exact he
      |panic c=>exact he
      |outgrown=>exact he
    · cases h
  |exit id=>
    intro ir h hro K Q ρ a w hdf ha hD hw
    simp only [comp,Option.some.injEq] at h;subst h
    exact wpIn_exit ⟨hD,ρ,ha,hw⟩
  |ret=>
    intro ir h hro K Q ρ a w hdf ha hD hw
    simp only [comp,Option.some.injEq] at h;subst h
    exact wpIn_ret ⟨hD,ρ,ha,hw⟩
  |rangeFunc f ps asg body _ _=>
    intro ir h hro K Q ρ a w hdf ha hD hw
    simp only [comp,Option.some.injEq] at h;subst h
    rcases hro with rfl|⟨hp,_⟩
    · exact raw_wide (hw a ha hD hdf)
    · cases hp
  |scope b _=>
    intro ir h hro K Q ρ a w hdf ha hD hw
    simp only [comp,Option.some.injEq] at h;subst h
    rcases hro with rfl|⟨hp,_⟩
    · exact raw_wide (hw a ha hD hdf)
    · cases hp
  |label l=>
    intro ir h hro K Q ρ a w hdf ha hD hw
    simp only [comp,Option.some.injEq] at h;subst h
    rcases hro with rfl|⟨hp,_⟩
    · exact raw_wide (hw a ha hD hdf)
    · cases hp
  |goto l=>
    intro ir h hro K Q ρ a w hdf ha hD hw
    simp only [comp,Option.some.injEq] at h;subst h
    rcases hro with rfl|⟨hp,_⟩
    · exact raw_wide (hw a ha hD hdf)
    · cases hp
  |refuse s=>
    intro ir h hro K Q ρ a w hdf ha hD hw
    simp only [comp,Option.some.injEq] at h;subst h
    rcases hro with rfl|⟨hp,_⟩
    · exact raw_wide (hw a ha hD hdf)
    · cases hp
theorem comp_sem (cx:Cx) (rawIds:List Nat) (c:Code) (ir:IR) (h:comp cx.P cx.n cx.V rawIds c=some ir) (K:Env→World→Prop) (Q:Ks) (ρ:Env) (a:Act) (w:World)
    (hdf:Q.df→cx.D≠[]) (ha:Agree cx.n cx.V ρ a) (hD:dOk cx a) (hw:ir.wp cx K Q ρ w):c.wp cx.P (lift cx K Q) a w:=
  wpIn_wide.1 (comp_semR cx none rawIds c ir h (.inl rfl) K Q ρ a w hdf ha hD hw)
end Go.Eng
