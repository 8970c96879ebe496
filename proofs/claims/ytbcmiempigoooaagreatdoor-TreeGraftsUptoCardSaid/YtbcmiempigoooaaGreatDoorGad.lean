/- Lemmas for a claim about layer 2 (tree). No conditions but those they state. -/
import Derived.Test.YtbcmiempigoooaaGreatDoorGac
import Derived.Calls
set_option linter.all false
namespace Go.Eng
open Go.RowKit
def IR.app:IR→IR→IR
  | .skip,b=>b
  | .seq x y,b=>x.app (y.app b)
  | .reg l, .reg m=> .reg (l++m)
  | .reg l, .seq (.reg m) c=> .seq (.reg (l++m)) c
  |a, .skip=>a
  |a,b=> .seq a b
def IR.norm:IR→IR
  | .seq a b=>a.norm.app b.norm
  | .cond c a b=> .cond c a.norm b.norm
  | .block id a=> .block id a.norm
  | .loop a=> .loop a.norm
  |a=>a
theorem IR.app_wp (cx:Cx):∀(a b:IR) (K:qa→World→Prop) (Q:Ks) (ρ:qa) (w:World),(a.app b).wp cx K Q ρ w=a.wp cx (fun g w'=>b.wp cx K Q g w') Q ρ w
  | .skip,_,_,_,_,_=>rfl
  | .seq x y,b,K,Q,ρ,w=>by
    simp only [IR.app,IR.wp];rw [IR.app_wp cx x (y.app b)];congr 1;funext g w';exact IR.app_wp cx y b K Q g w'
  | .reg l,b,K,Q,ρ,w=>by
    unfold IR.app;split
    · rename_i e;cases e
    · rename_i e;cases e
    · rename_i h m e;cases e;simp only [IR.wp,qaK]
    · rename_i h m c e;cases e;simp only [IR.wp,qaK]
    · rfl
    · rfl
  | .drw l,b,K,Q,ρ,w=>by cases b<;>rfl
  | .cond c x y,b,K,Q,ρ,w=>by cases b<;>rfl
  | .block id x,b,K,Q,ρ,w=>by cases b<;>rfl
  | .loop x,b,K,Q,ρ,w=>by cases b<;>rfl
  | .exit id,b,K,Q,ρ,w=>by cases b<;>rfl
  | .ret,b,K,Q,ρ,w=>by cases b<;>rfl
  | .raw c,b,K,Q,ρ,w=>by cases b<;>rfl
theorem IR.norm_wp (cx:Cx):∀(a:IR) (K:qa→World→Prop) (Q:Ks) (ρ:qa) (w:World),a.norm.wp cx K Q ρ w=a.wp cx K Q ρ w
  | .skip,_,_,_,_=>rfl
  | .reg _,_,_,_,_=>rfl
  | .drw _,_,_,_,_=>rfl
  | .exit _,_,_,_,_=>rfl
  | .ret,_,_,_,_=>rfl
  | .raw _,_,_,_,_=>rfl
  | .seq a b,K,Q,ρ,w=>by
    simp only [IR.norm,IR.app_wp,IR.wp];rw [IR.norm_wp cx a];congr 1;funext ρ' w';exact IR.norm_wp cx b K Q ρ' w'
  | .cond c a b,K,Q,ρ,w=>by
    simp only [IR.norm,IR.wp,IR.norm_wp cx a,IR.norm_wp cx b]
  | .block id a,K,Q,ρ,w=>by
    simp only [IR.norm,IR.wp,IR.norm_wp cx a]
  | .loop a,K,Q,ρ,w=>by
    simp only [IR.norm,IR.wp,IR.norm_wp cx a]
inductive RV where
  |tmp (t:Nat)
  |cell1 (t:Nat)
  |cellN (t n:Nat)
def RV.val (ρ:qa) (w:World):RV→Option Value
  | .tmp t=>some (ρ t)
  | .cell1 t=>qS w .load1 (ρ t)
  | .cellN t n=>qS w (.loadN n) (ρ t)
def vC (ρ:qa) (w:World):List RV→Option (List Value)
  |[]=>some []
  |r::rs=>(r.val ρ w).bind fun v=>(vC ρ w rs).map (v:: ·)
def wq:List Value→Value
  |[v]=>v
  |vs=> .tuple vs.toArray
def qcz (P : Program) (V : List Nat) : ResultVar → Option RV
  | .tmp t=>if V.contains t then some (.tmp t) else none
  | .cell a t=>if V.contains a then match xA P t,P.info? t with
    |some true,some i=>some (.cellN a i.size)
    |some false,_=>some (.cell1 a)
    |_,_=>none
    else none
def vv (P:Program) (V:List Nat):List ResultVar→Option (List RV)
  |[]=>some []
  |r::rs=>(qcz P V r).bind fun x=>(vv P V rs).map (x:: ·)
def qC (rs:List RV) (R:Ending→World→Prop):qa→World→Prop:=
  fun ρ w=>match vC ρ w rs with|some vs=>R (.returned (wq vs)) w|none=>False
def xX (V:List Nat) (args:Array Value):qa:=fun i=>if i=gS then .tuple #[] else if i∈V then args.getD i undef else undef
theorem quL {P : Program} {V : List Nat} {n : Nat} {ρ : qa} {a : Act} {w : World} (ha : Agree n V ρ a) {r : ResultVar} {x : RV} (hx : qcz P V r = some x) {v : Value} (hv : x.val ρ w = some v) :
    ((fun (r:ResultVar)=>(match r with
      | .tmp t=>pure (a.tmps.getD t undef)
      | .cell ad t=>do loadVar t (←asAddr (a.tmps.getD ad undef)):Sem Value)) r).run P w= .ok v w:=by
  cases r with
  |tmp t=>
    simp only [qcz] at hx;split at hx
    · rename_i hV;cases hx;have hV':t∈V:=by simpa using hV
      simp only [RV.val,Option.some.injEq] at hv;subst hv;rw [ha.at hV'];rfl
    · cases hx
  |cell ad t=>
    simp only [qcz] at hx;split at hx
    · rename_i hV;have hV':ad∈V:=by simpa using hV
      have hρ:ρ ad=a.tmps.getD ad undef:=ha.at hV';split at hx
      · rename_i i hg hi;cases hx;simp only [RV.val] at hv;obtain ⟨p,hp⟩:=qbk hv (.inl ⟨_,rfl⟩)
        have h1 := qfp (P := P) (w := w) (f := fun _ => ρ ad) (dst := none) (type := 0) (pos := "") (after := #[]) (guard := none) (a := .tmp 0) hg hi hv
        simp only [execOp,hp,Instr.loadAt,Instr.sureAddr,Sem.run_bind,Sem.run_pure,Result.andThen_ok] at h1;show ((asAddr (a.tmps.getD ad undef))>>=fun x=>loadVar t x).run P w=_;rw [←hρ,hp];simp only [asAddr,Sem.run_bind,Sem.run_pure,Result.andThen_ok];cases hr:(loadVar t p).run P w with
        |ok u w'=>rw [hr] at h1;simp only [Result.andThen_ok,Result.ok.injEq,Next.value.injEq] at h1;obtain ⟨rfl,rfl⟩:=h1;rfl
        |halt u w'=>rw [hr] at h1;cases h1
      · have hg:= ‹xA P t=some false›;cases hx;simp only [RV.val] at hv;obtain ⟨p,hp⟩:=qbk hv (.inr (.inl rfl))
        have h1 := qj7 (P := P) (w := w) (f := fun _ => ρ ad) (dst := none) (type := 0) (pos := "") (after := #[]) (guard := none) (a := .tmp 0) hg hv
        simp only [execOp,hp,Instr.loadAt,Instr.sureAddr,Sem.run_bind,Sem.run_pure,Result.andThen_ok] at h1;show ((asAddr (a.tmps.getD ad undef))>>=fun x=>loadVar t x).run P w=_;rw [←hρ,hp];simp only [asAddr,Sem.run_bind,Sem.run_pure,Result.andThen_ok];cases hr:(loadVar t p).run P w with
        |ok u w'=>rw [hr] at h1;simp only [Result.andThen_ok,Result.ok.injEq,Next.value.injEq] at h1;obtain ⟨rfl,rfl⟩:=h1;rfl
        |halt u w'=>rw [hr] at h1;cases h1
      · cases hx
    · cases hx
theorem qjY {P:Program} {V:List Nat} {n:Nat} {ρ:qa} {a:Act} {w:World} (k:Agree n V ρ a):∀{rs:List ResultVar} {xs:List RV} (_:vv P V rs=some xs) {vs:List Value} (_:vC ρ w xs=some vs),
    (rs.mapM (fun (r:ResultVar)=>(match r with
      | .tmp t=>pure (a.tmps.getD t undef)
      | .cell l t=>do loadVar t (←asAddr (a.tmps.getD l undef)):Sem Value))).run P w= .ok vs w
  |[],xs,c,vs,b=>by
    simp only [vv,Option.some.injEq] at c;subst c;simp only [vC,Option.some.injEq] at b;subst b;simp
  |r::rs,xs,c,vs,b=>by
    simp only [vv,Option.bind_eq_some_iff,Option.map_eq_some_iff] at c;obtain ⟨x,e,m,g,rfl⟩:=c;simp only [vC,Option.bind_eq_some_iff,Option.map_eq_some_iff] at b;obtain ⟨v,h,o,i,rfl⟩:=b;have j:=quL k e h;have p:=qjY k g i;simp only [List.mapM_cons,Sem.run_bind];simp only at j;rw [j];simp only [Result.andThen_ok,p,Sem.run_pure]
theorem qcH {P:Program} {V:List Nat} {n:Nat} {ρ:qa} {a:Act} {w:World} (i:Agree n V ρ a) {fn:Func} {xs:List RV} (g:vv P V fn.results.toList=some xs) {vs:List Value} (e:vC ρ w xs=some vs):
    (results fn a.tmps).run P w= .ok (wq vs) w:=by
  have h:=qjY (P:=P) i g e;unfold results;rw [Array.mapM_eq_mapM_toList]
  have b:(List.mapM (fun x=>(match x with
      | .tmp t=>pure (a.tmps.getD t undef)
      | .cell c t=>do loadVar t (←asAddr (a.tmps.getD c undef)):Sem Value)) fn.results.toList).run P w= .ok vs w:=h
  simp only [Sem.run_bind,Sem.run_map]
  erw [b]
  cases vs with
  |nil=>rfl
  |cons v vs=>cases vs with
    |nil=>rfl
    |cons u j=>rfl
def xu (fn:Func) (V:List Nat):Bool:=decide (fn.ntmps≤1000000000)&&V.all fun i=>decide (i<fn.ntmps)
theorem qeC {fn:Func} {V:List Nat} (a:xu fn V=true) {args:Array Value} (c:args.size≤fn.ntmps):
    Agree fn.ntmps V (xX V args) {tmps:=args++Array.replicate (fn.ntmps - args.size) undef,defers:=[]}:=by
  simp only [xu,Bool.and_eq_true,decide_eq_true_eq,List.all_eq_true] at a;refine ⟨by simp;omega, ?_,a.2,a.1⟩;funext i;simp only [xX,x8];split
  · rfl
  split
  · simp only [Array.getD_eq_getD_getElem?,Array.getElem?_append];split
    · rfl
    · rename_i b;rw [Array.getElem?_eq_none (by omega)];simp only [Array.getElem?_replicate];split<;>rfl
  · rfl
theorem qsr {P:Program} {f:FuncId} {fn:Func} {V g:List Nat} {ir k:IR} {rs:List RV} {c:Code} (m:P.funcs[f]? =some fn) (y:fn.body=some c) (s:qY P fn.ntmps V g c=some k)
    (x:k.norm=ir) (u:xu fn V=true) (o:vv P V fn.results.toList=some rs) {args:Array Value} (n:args.size≤fn.ntmps) {w:World} {R:Ending→World→Prop}
    (h:ir.wp ⟨P,fn.ntmps,V,[]⟩ (qC rs R) ⟨fun _ _ _=>False,qC rs R,fun _ c w=>R (.panicked c) w,∀w,R .outgrown w,False,True⟩ (xX V args) w):Calls P f args w R:=by
  refine calls_of_wp m y ?_;subst x;rw [IR.norm_wp] at h;refine wp_mono (qej ⟨P,fn.ntmps,V,[]⟩ g c k s _ _ _ _ w (fun h:False=>h.elim) (qeC u n) (fun _=>rfl) h) ?_;have b:∀(a:Act) (w:World),(jT ⟨P,fn.ntmps,V,[]⟩ a∧∃ρ,Agree fn.ntmps V ρ a∧qC rs R ρ w)→a.defers=[]∧∃v,(results fn a.tmps).run P w= .ok v w∧R (.returned v) w:=by
    rintro a w ⟨t,ρ,z,l⟩;simp only [qC] at l;split at l
    · rename_i vs p;exact ⟨t rfl,_,qcH z o p,l⟩
    · cases l
  intro e a w j;cases e with
  |normal=>exact b a w j
  |ret=>exact b a w j
  |exit i=>obtain ⟨_,_,_,m⟩:=j;exact m
  |goto i=>exact j
  |panic c=>exact ⟨j.1 rfl,let ⟨_,_,h⟩:=j.2;h⟩
  |outgrown=>exact (show∀w,R .outgrown w from j) w
def jU (P:Program) (rs:List RV) (R:Ending→World→Prop) (ρ:qa):List Value→FrameMode→World→Prop
  |[], .returning,w=>match vC ρ w rs with|some vs=>R (.returned (wq vs)) w|none=>False
  |[], .panicking chain,w=>R (.panicked chain) w
  |[], .run,_=>False
  | .int _ r::ds,u,w=>u≠ .run∧∃w',(Instr.takeDeferred r.toNat).run P w= .ok [] w'∧jU P rs R ρ ds u w'
  | .func f args caps::ds,u,w=>u≠ .run∧∃f' args',(invoke (.fn f caps) args).run P w= .ok (.enter f' args') w∧CallsDIn Fence.wide 0 P f' args' u w fun
      | .returned _,u',w'=>jU P rs R ρ ds (settle u') w'
      | .panicked chain,u',w'=>jU P rs R ρ ds (raised u' chain) w'
      | .outgrown,_,w'=>R .outgrown w'
  |_,_,_=>False
def ve (P:Program) (rs:List RV) (R:Ending→World→Prop) (u:FrameMode):qa→World→Prop:=
  fun ρ w=>match ρ gS with| .tuple ds=>jU P rs R ρ ds.toList u w|_=>False
theorem qdg {P:Program} {V:List Nat} {n:Nat} {ρ:qa} {a:Act} {fn:Func} {rs:List RV} (j:Agree n V ρ a) (g:vv P V fn.results.toList=some rs) {R:Ending→World→Prop}:
    ∀(l:List Deferred) (u:FrameMode) (w:World),jU P rs R ρ (l.map y8) u w→LeavesInM Fence.wide 0 P fn a.tmps R l u w
  |[],u,w,h=>by
    cases u with
    |run=>exact h
    |returning=>
      simp only [List.map_nil,jU] at h;split at h
      · rename_i vs o;exact ⟨_,qcH j g o,h⟩
      · cases h
    |panicking c=>exact h
  | d :: l, u, w, h => by
    obtain ⟨t,args⟩:=d;cases t with
    |collected r=>
      simp only [List.map_cons,y8,jU] at h;obtain ⟨k,w',C,h⟩:=h;exact ⟨k, .inl ⟨r,w',rfl,by simpa using C,qdg j g l u w' h⟩⟩
    |fn f caps=>
      simp only [List.map_cons,y8,jU] at h;obtain ⟨k,s,i,B,p⟩:=h;refine ⟨k, .inr ⟨fun A=>(by cases A),f,caps,s,i,rfl,B,fun _ _=>trivial,p.mono fun e E w' m=> ?_⟩⟩;cases e with
      |returned v=>exact qdg j g l _ w' m
      |panicked c=>exact qdg j g l _ w' m
      |outgrown=>exact m
    |nil=>simp only [List.map_cons,y8,jU] at h
    |builtin b x y z=>simp only [List.map_cons,y8,jU] at h
    |coroexit c=>simp only [List.map_cons,y8,jU] at h
def zj (P:Program) (rs:List RV) (R:Ending→World→Prop):Ks:=⟨fun _ _ _=>False,ve P rs R .returning,fun ρ c w=>ve P rs R (.panicking c) ρ w,∀w,R .outgrown w,True,True⟩
def wF:List Deferred:=[⟨.nil, #[]⟩]
theorem qsq {P:Program} {f:FuncId} {fn:Func} {V g:List Nat} {ir j:IR} {rs:List RV} {c:Code} (l:P.funcs[f]? =some fn) (y:fn.body=some c) (t:qY P fn.ntmps V g c=some j)
    (x:j.norm=ir) (v:xu fn V=true) (o:vv P V fn.results.toList=some rs) {args:Array Value} (m:args.size≤fn.ntmps) {w:World} {R:Ending→World→Prop}
    (h:ir.wp ⟨P,fn.ntmps,V,wF⟩ (ve P rs R .returning) (zj P rs R) (xX V args) w):Calls P f args w R:=by
  refine (callsIn_wide (n:=0)).1 (callsIn_of_wp_marks l y trivial (wpIn_wide.2 ?_));subst x;rw [IR.norm_wp] at h;refine wp_mono (qej ⟨P,fn.ntmps,V,wF⟩ g c j t _ _ _ _ w (fun _ h=>(by cases h)) (qeC v m) (fun h=>(by cases h)) h) ?_;have b:∀(u:FrameMode) (a:Act) (w:World),(∃ρ,Agree fn.ntmps V ρ a∧ve P rs R u ρ w)→LeavesInM Fence.wide 0 P fn a.tmps R a.defers u w:=by
    rintro u a w ⟨ρ,s,p⟩;simp only [ve,s.ds,qau] at p;exact qdg s o _ _ _ p
  intro e a w k;cases e with
  |normal=>exact b _ a w k.2
  |ret=>exact b _ a w k.2
  |exit i=>obtain ⟨_,_,_,l⟩:=k;exact l
  |goto i=>exact k
  |panic c=>exact b _ a w k.2
  |outgrown=>exact (show∀w,R .outgrown w from k) w
end Go.Eng
