/- Lemmas for a claim about layer 2 (tree). No conditions but those they state. -/
import Derived.Test.YtbcmiempigoooaaGreatDoorEac
import Derived.Calls
set_option linter.all false
namespace Go.Eng
open Go.RowKit
def IR.app:IR->IR->IR
  | .skip,b=>b
  | .seq x y,b=>x.app (y.app b)
  | .reg l,.reg m=> .reg (l++m)
  | .reg l,.seq (.reg m) c=> .seq (.reg (l++m)) c
  |a,.skip=>a
  |a,b=> .seq a b
def IR.norm:IR->IR
  | .seq a b=>a.norm.app b.norm
  | .cond c a b=> .cond c a.norm b.norm
  | .block id a=> .block id a.norm
  | .loop a=> .loop a.norm
  |a=>a
def IR.app_wp (cx:Cx):∀(a b:IR) (K:qa->World->Prop) (Q:Ks) (ρ:qa) (w:World),(a.app b).wp cx K Q ρ w=a.wp cx (fun g w'=>b.wp cx K Q g w') Q ρ w
  | .skip,_,_,_,_,_=>rfl
  | .seq x y,b,K,Q,ρ,w=>by
    simp only [IR.app,IR.wp];rw [IR.app_wp cx x (y.app b)];congr 1;funext g w';exact IR.app_wp cx y b K Q g w'
  | .reg l,b,K,Q,ρ,w=>by
    unfold IR.app;split
    · rename_i e;cases e
    · rename_i e;cases e
    · rename_i h m e;cases e;simp only [IR.wp,qcS]
    · rename_i h m c e;cases e;simp only [IR.wp,qcS]
    · rfl
    · rfl
  | .drw l,b,K,Q,ρ,w=>by cases b<;>rfl
  | .cond c x y,b,K,Q,ρ,w=>by cases b<;>rfl
  | .block id x,b,K,Q,ρ,w=>by cases b<;>rfl
  | .loop x,b,K,Q,ρ,w=>by cases b<;>rfl
  | .exit id,b,K,Q,ρ,w=>by cases b<;>rfl
  | .ret,b,K,Q,ρ,w=>by cases b<;>rfl
  | .raw c,b,K,Q,ρ,w=>by cases b<;>rfl
def IR.norm_wp (cx:Cx):∀(a:IR) (K:qa->World->Prop) (Q:Ks) (ρ:qa) (w:World),a.norm.wp cx K Q ρ w=a.wp cx K Q ρ w
  | .skip,_,_,_,_=>rfl
  | .reg _,_,_,_,_=>rfl
  | .drw _,_,_,_,_=>rfl
  | .exit _,_,_,_,_=>rfl
  | .ret,_,_,_,_=>rfl
  | .raw _,_,_,_,_=>rfl
  | .seq a b,K,Q,ρ,w=>by
    simp only [IR.norm,IR.app_wp,IR.wp];rw [IR.norm_wp cx a];congr 1;funext ρ' w';exact IR.norm_wp cx b K Q ρ' w'
  | .cond c a b,K,Q,ρ,w=>by
    simp only [IR.norm,IR.wp,IR.norm_wp cx a,IR.norm_wp cx b]
  | .block id a,K,Q,ρ,w=>by
    simp only [IR.norm,IR.wp,IR.norm_wp cx a]
  | .loop a,K,Q,ρ,w=>by
    simp only [IR.norm,IR.wp,IR.norm_wp cx a]
inductive RV where
  |tmp (t:Nat)
  |cell1 (t:Nat)
  |cellN (t n:Nat)
def RV.val (ρ:qa) (w:World):RV->Option Value
  | .tmp t=>some (ρ t)
  | .cell1 t=>jd w .load1 (ρ t)
  | .cellN t n=>jd w (.loadN n) (ρ t)
def vY (ρ:qa) (w:World):List RV->Option (List Value)
  |[]=>some []
  |r::rs=>(r.val ρ w).bind fun v=>(vY ρ w rs).map (v:: ·)
def yu:List Value->Value
  |[v]=>v
  |vs=> .tuple vs.toArray
def qe0 (P : Program) (V : List Nat) : ResultVar -> Option RV
  | .tmp t=>if V.contains t then some (.tmp t) else none
  | .cell a t=>if V.contains a then match kY P t,P.info? t with
    |some true,some i=>some (.cellN a i.size)
    |some false,_=>some (.cell1 a)
    |_,_=>none
    else none
def zX (P:Program) (V:List Nat):List ResultVar->Option (List RV)
  |[]=>some []
  |r::rs=>(qe0 P V r).bind fun x=>(zX P V rs).map (x:: ·)
def qB (rs:List RV) (R:Ending->World->Prop):qa->World->Prop:=
  fun ρ w=>match vY ρ w rs with|some vs=>R (.returned (yu vs)) w|none=>False
def wH (V:List Nat) (args:Array Value):qa:=fun i=>if i=gS then .tuple #[] else if i∈V then args.getD i undef else undef
def qz1 {P : Program} {V : List Nat} {n : Nat} {ρ : qa} {a : Act} {w : World} (ha : Agree n V ρ a) {r : ResultVar} {x : RV} (hx : qe0 P V r = some x) {v : Value} (hv : x.val ρ w = some v) :
    ((fun (r:ResultVar)=>(match r with
      | .tmp t=>pure (a.tmps.getD t undef)
      | .cell ad t=>do loadVar t (<-asAddr (a.tmps.getD ad undef)):Sem Value)) r).run P w=.ok v w:=by
  cases r with
  |tmp t=>
    simp only [qe0] at hx;split at hx
    · rename_i hV;cases hx;have hV':t∈V:=by simpa using hV
      simp only [RV.val,ub] at hv;subst hv;rw [ha.at hV'];rfl
    · cases hx
  |cell ad t=>
    simp only [qe0] at hx;split at hx
    · rename_i hV;have hV':ad∈V:=by simpa using hV
      have hρ:ρ ad=a.tmps.getD ad undef:=ha.at hV';split at hx
      · rename_i i hg hi;cases hx;simp only [RV.val] at hv;obtain ⟨p,hp⟩:=qdu hv (.inl ⟨_,rfl⟩)
        have h1 := qe2 (P := P) (w := w) (f := fun _ => ρ ad) (dst := none) (type := 0) (pos := "") (after := #[]) (guard := none) (a := .tmp 0) hg hi hv
        simp only [execOp,hp,Instr.loadAt,Instr.sureAddr,Sem.run_bind,Sem.run_pure,Result.andThen_ok] at h1;show ((asAddr (a.tmps.getD ad undef))>>=fun x=>loadVar t x).run P w=_;rw [<-hρ,hp];simp only [asAddr,Sem.run_bind,Sem.run_pure,Result.andThen_ok];cases hr:(loadVar t p).run P w with
        |ok u w'=>rw [hr] at h1;simp only [Result.andThen_ok,Result.ok.injEq,Next.value.injEq] at h1;obtain ⟨rfl,rfl⟩:=h1;rfl
        |halt u w'=>rw [hr] at h1;cases h1
      · have hg:= ‹kY P t=some false›;cases hx;simp only [RV.val] at hv;obtain ⟨p,hp⟩:=qdu hv (.inr (.inl rfl))
        have h1 := qn5 (P := P) (w := w) (f := fun _ => ρ ad) (dst := none) (type := 0) (pos := "") (after := #[]) (guard := none) (a := .tmp 0) hg hv
        simp only [execOp,hp,Instr.loadAt,Instr.sureAddr,Sem.run_bind,Sem.run_pure,Result.andThen_ok] at h1;show ((asAddr (a.tmps.getD ad undef))>>=fun x=>loadVar t x).run P w=_;rw [<-hρ,hp];simp only [asAddr,Sem.run_bind,Sem.run_pure,Result.andThen_ok];cases hr:(loadVar t p).run P w with
        |ok u w'=>rw [hr] at h1;simp only [Result.andThen_ok,Result.ok.injEq,Next.value.injEq] at h1;obtain ⟨rfl,rfl⟩:=h1;rfl
        |halt u w'=>rw [hr] at h1;cases h1
      · cases hx
    · cases hx
def qnX {P:Program} {V:List Nat} {n:Nat} {ρ:qa} {a:Act} {w:World} (j:Agree n V ρ a):∀{rs:List ResultVar} {xs:List RV} (_:zX P V rs=some xs) {vs:List Value} (_:vY ρ w xs=some vs),
    (rs.mapM (fun (r:ResultVar)=>(match r with
      | .tmp t=>pure (a.tmps.getD t undef)
      | .cell m t=>do loadVar t (<-asAddr (a.tmps.getD m undef)):Sem Value))).run P w=.ok vs w
  |[],xs,c,vs,b=>by
    simp only [zX,ub] at c;subst c;simp only [vY,ub] at b;subst b;simp
  |r::rs,xs,c,vs,b=>by
    simp only [zX,uc,ua] at c;obtain ⟨x,h,p,g,rfl⟩:=c;simp only [vY,uc,ua] at b;obtain ⟨v,i,o,e,rfl⟩:=b;have k:=qz1 j h i;have l:=qnX j g e;simp only [List.mapM_cons,Sem.run_bind];simp only at k;rw [k];simp only [Result.andThen_ok,l,Sem.run_pure]
theorem qfa {P:Program} {V:List Nat} {n:Nat} {ρ:qa} {a:Act} {w:World} (b:Agree n V ρ a) {fn:Func} {xs:List RV} (i:zX P V fn.results.toList=some xs) {vs:List Value} (e:vY ρ w xs=some vs):
    (results fn a.tmps).run P w=.ok (yu vs) w:=by
  have h:=qnX (P:=P) b i e;unfold results;rw [Array.mapM_eq_mapM_toList]
  have c:(List.mapM (fun x=>(match x with
      | .tmp t=>pure (a.tmps.getD t undef)
      | .cell g t=>do loadVar t (<-asAddr (a.tmps.getD g undef)):Sem Value)) fn.results.toList).run P w=.ok vs w:=h
  simp only [Sem.run_bind,Sem.run_map]
  erw [c]
  cases vs with
  |nil=>rfl
  |cons v vs=>cases vs with
    |nil=>rfl
    |cons u j=>rfl
def kU (fn:Func) (V:List Nat):Bool:=decide (fn.ntmps<=1000000000)&&V.all fun i=>decide (i<fn.ntmps)
def qhc {fn:Func} {V:List Nat} (a:kU fn V=true) {args:Array Value} (b:args.size<=fn.ntmps):
    Agree fn.ntmps V (wH V args) {tmps:=args++Array.replicate (fn.ntmps - args.size) undef,defers:=[]}:=by
  simp only [kU,j0,kr,um] at a;refine ⟨by simp;omega, ?_,a.2,a.1⟩;funext i;simp only [wH,wU];split
  · rfl
  split
  · simp only [Array.getD_eq_getD_getElem?,Array.getElem?_append];split
    · rfl
    · rename_i c;rw [Vs (by omega)];simp only [Array.getElem?_replicate];split<;>rfl
  · rfl
theorem qw0 {P:Program} {f:FuncId} {fn:Func} {V b:List Nat} {ir k:IR} {rs:List RV} {c:Code} (o:P.funcs[f]? =some fn) (x:fn.body=some c) (y:jo P fn.ntmps V b c=some k)
    (t:k.norm=ir) (z:kU fn V=true) (n:zX P V fn.results.toList=some rs) {args:Array Value} (p:args.size<=fn.ntmps) {w:World} {R:Ending->World->Prop}
    (h:ir.wp ⟨P,fn.ntmps,V,[]⟩ (qB rs R) ⟨fun _ _ _=>False,qB rs R,fun _ c w=>R (.panicked c) w,∀w,R .outgrown w,False,True⟩ (wH V args) w):Calls P f args w R:=by
  refine calls_of_wp o x ?_;subst t;rw [IR.norm_wp] at h;refine wp_mono (qgT ⟨P,fn.ntmps,V,[]⟩ b c k y _ _ _ _ w (fun h:False=>h.elim) (qhc z p) (fun _=>rfl) h) ?_;have g:∀(a:Act) (w:World),(vG ⟨P,fn.ntmps,V,[]⟩ a/\∃ρ,Agree fn.ntmps V ρ a/\qB rs R ρ w)->a.defers=[]/\∃v,(results fn a.tmps).run P w=.ok v w/\R (.returned v) w:=by
    rintro a w ⟨u,ρ,s,l⟩;simp only [qB] at l;split at l
    · rename_i vs m;exact ⟨u rfl,_,qfa s n m,l⟩
    · cases l
  intro e a w j;cases e with
  |normal=>exact g a w j
  |ret=>exact g a w j
  |exit i=>obtain ⟨_,_,_,o⟩:=j;exact o
  |goto i=>exact j
  |panic c=>exact ⟨j.1 rfl,let ⟨_,_,h⟩:=j.2;h⟩
  |outgrown=>exact (show∀w,R .outgrown w from j) w
def vB (P:Program) (rs:List RV) (R:Ending->World->Prop) (ρ:qa):List Value->FrameMode->World->Prop
  |[],.returning,w=>match vY ρ w rs with|some vs=>R (.returned (yu vs)) w|none=>False
  |[],.panicking chain,w=>R (.panicked chain) w
  |[],.run,_=>False
  | .int _ r::ds,u,w=>u≠ .run/\∃w',(Instr.takeDeferred r.toNat).run P w=.ok [] w'/\vB P rs R ρ ds u w'
  | .func f args caps::ds,u,w=>u≠ .run/\∃f' args',(invoke (.fn f caps) args).run P w=.ok (.enter f' args') w/\CallsDIn Fence.wide 0 P f' args' u w fun
      | .returned _,u',w'=>vB P rs R ρ ds (settle u') w'
      | .panicked chain,u',w'=>vB P rs R ρ ds (raised u' chain) w'
      | .outgrown,_,w'=>R .outgrown w'
  |_,_,_=>False
def vz (P:Program) (rs:List RV) (R:Ending->World->Prop) (u:FrameMode):qa->World->Prop:=
  fun ρ w=>match ρ gS with| .tuple ds=>vB P rs R ρ ds.toList u w|_=>False
def qfG {P:Program} {V:List Nat} {n:Nat} {ρ:qa} {a:Act} {fn:Func} {rs:List RV} (j:Agree n V ρ a) (g:zX P V fn.results.toList=some rs) {R:Ending->World->Prop}:
    ∀(l:List Deferred) (u:FrameMode) (w:World),vB P rs R ρ (l.map qaK) u w->LeavesInM Fence.wide 0 P fn a.tmps R l u w
  |[],u,w,h=>by
    cases u with
    |run=>exact h
    |returning=>
      simp only [List.map_nil,vB] at h;split at h
      · rename_i vs k;exact ⟨_,qfa j g k,h⟩
      · cases h
    |panicking c=>exact h
  | d :: l, u, w, h => by
    obtain ⟨t,args⟩:=d;cases t with
    |collected r=>
      simp only [List.map_cons,qaK,vB] at h;obtain ⟨o,w',s,h⟩:=h;exact ⟨o,.inl ⟨r,w',rfl,by simpa using s,qfG j g l u w' h⟩⟩
    |fn f caps=>
      simp only [List.map_cons,qaK,vB] at h;obtain ⟨o,C,i,A,p⟩:=h;refine ⟨o,.inr ⟨fun B=>(by cases B),f,caps,C,i,rfl,A,fun _ _=>trivial,p.mono fun e E w' m=>?_⟩⟩;cases e with
      |returned v=>exact qfG j g l _ w' m
      |panicked c=>exact qfG j g l _ w' m
      |outgrown=>exact m
    |nil=>simp only [List.map_cons,qaK,vB] at h
    |builtin b x y z=>simp only [List.map_cons,qaK,vB] at h
    |coroexit c=>simp only [List.map_cons,qaK,vB] at h
def xj (P:Program) (rs:List RV) (R:Ending->World->Prop):Ks:=⟨fun _ _ _=>False,vz P rs R .returning,fun ρ c w=>vz P rs R (.panicking c) ρ w,∀w,R .outgrown w,True,True⟩
def y6:List Deferred:=[⟨.nil, #[]⟩]
def qwZ {P:Program} {f:FuncId} {fn:Func} {V g:List Nat} {ir j:IR} {rs:List RV} {c:Code} (m:P.funcs[f]? =some fn) (v:fn.body=some c) (x:jo P fn.ntmps V g c=some j)
    (t:j.norm=ir) (y:kU fn V=true) (l:zX P V fn.results.toList=some rs) {args:Array Value} (o:args.size<=fn.ntmps) {w:World} {R:Ending->World->Prop}
    (h:ir.wp ⟨P,fn.ntmps,V,y6⟩ (vz P rs R .returning) (xj P rs R) (wH V args) w):Calls P f args w R:=by
  refine (callsIn_wide (n:=0)).1 (callsIn_of_wp_marks m v trivial (wpIn_wide.2 ?_));subst t;rw [IR.norm_wp] at h;refine wp_mono (qgT ⟨P,fn.ntmps,V,y6⟩ g c j x _ _ _ _ w (fun _ h=>(by cases h)) (qhc y o) (fun h=>(by cases h)) h) ?_;have b:∀(u:FrameMode) (a:Act) (w:World),(∃ρ,Agree fn.ntmps V ρ a/\vz P rs R u ρ w)->LeavesInM Fence.wide 0 P fn a.tmps R a.defers u w:=by
    rintro u a w ⟨ρ,p,s⟩;simp only [vz,p.ds,qcA] at s;exact qfG p l _ _ _ s
  intro e a w k;cases e with
  |normal=>exact b _ a w k.2
  |ret=>exact b _ a w k.2
  |exit i=>obtain ⟨_,_,_,m⟩:=k;exact m
  |goto i=>exact k
  |panic c=>exact b _ a w k.2
  |outgrown=>exact (show∀w,R .outgrown w from k) w
end Go.Eng
