/- Lemmas for a claim about layer 2 (tree). No conditions but those they state. -/
import Derived.Test.YtbcmiempigoooaaGreatDoorVac
import Derived.Calls
set_option linter.all false
namespace Go.Eng
open Go.RowKit
def IR.app:IR->IR->IR
  | .skip,b=>b
  | .seq x y,b=>x.app (y.app b)
  | .reg l,.reg m=> .reg (l++m)
  | .reg l,.seq (.reg m) c=> .seq (.reg (l++m)) c
  |a,.skip=>a
  |a,b=> .seq a b
def IR.norm:IR->IR
  | .seq a b=>a.norm.app b.norm
  | .cond c a b=> .cond c a.norm b.norm
  | .block id a=> .block id a.norm
  | .loop a=> .loop a.norm
  |a=>a
def IR.app_wp (cx:Cx):∀(a b:IR) (K:qa->AA->Prop) (Q:Ks) (ρ:qa) (w:AA),(a.app b).wp cx K Q ρ w=a.wp cx (fun g w'=>b.wp cx K Q g w') Q ρ w
  | .skip,_,_,_,_,_=>rfl
  | .seq x y,b,K,Q,ρ,w=>by
    simp only [IR.app,IR.wp];rw [IR.app_wp cx x (y.app b)];congr 1;funext g w';exact IR.app_wp cx y b K Q g w'
  | .reg l,b,K,Q,ρ,w=>by
    unfold IR.app;split
    · rename_i e;cases e
    · rename_i e;cases e
    · rename_i l' m e;cases e;simp only [IR.wp,qcO]
    · rename_i l' m c e;cases e;simp only [IR.wp,qcO]
    · rfl
    · rfl
  | .drw l,b,K,Q,ρ,w=>by cases b<;>rfl
  | .cond c x y,b,K,Q,ρ,w=>by cases b<;>rfl
  | .block id x,b,K,Q,ρ,w=>by cases b<;>rfl
  | .loop x,b,K,Q,ρ,w=>by cases b<;>rfl
  | .exit id,b,K,Q,ρ,w=>by cases b<;>rfl
  | .ret,b,K,Q,ρ,w=>by cases b<;>rfl
  | .raw c,b,K,Q,ρ,w=>by cases b<;>rfl
def IR.norm_wp (cx:Cx):∀(a:IR) (K:qa->AA->Prop) (Q:Ks) (ρ:qa) (w:AA),a.norm.wp cx K Q ρ w=a.wp cx K Q ρ w
  | .skip,_,_,_,_=>rfl
  | .reg _,_,_,_,_=>rfl
  | .drw _,_,_,_,_=>rfl
  | .exit _,_,_,_,_=>rfl
  | .ret,_,_,_,_=>rfl
  | .raw _,_,_,_,_=>rfl
  | .seq a b,K,Q,ρ,w=>by
    simp only [IR.norm,IR.app_wp,IR.wp];rw [IR.norm_wp cx a];congr 1;funext ρ' w';exact IR.norm_wp cx b K Q ρ' w'
  | .cond c a b,K,Q,ρ,w=>by
    simp only [IR.norm,IR.wp,IR.norm_wp cx a,IR.norm_wp cx b]
  | .block id a,K,Q,ρ,w=>by
    simp only [IR.norm,IR.wp,IR.norm_wp cx a]
  | .loop a,K,Q,ρ,w=>by
    simp only [IR.norm,IR.wp,IR.norm_wp cx a]
inductive RV where
  |tmp (t:Nat)
  |cell1 (t:Nat)
  |cellN (t n:Nat)
def RV.val (ρ:qa) (w:AA):RV->Option AB
  | .tmp t=>some (ρ t)
  | .cell1 t=>q9 w .load1 (ρ t)
  | .cellN t n=>q9 w (.loadN n) (ρ t)
def vX (ρ:qa) (w:AA):List RV->Option (List AB)
  |[]=>some []
  |r::rs=>(r.val ρ w).bind fun v=>(vX ρ w rs).map (v:: ·)
def wQ:List AB->AB
  |[v]=>v
  |vs=> .tuple vs.toArray
def qeE (P : Program) (V : List Nat) : ResultVar -> Option RV
  | .tmp t=>if V.contains t then some (.tmp t) else none
  | .cell a t=>if V.contains a then match kB P t,P.info? t with
    |some true,some i=>some (.cellN a i.size)
    |some false,_=>some (.cell1 a)
    |_,_=>none
    else none
def zi (P:Program) (V:List Nat):List ResultVar->Option (List RV)
  |[]=>some []
  |r::rs=>(qeE P V r).bind fun x=>(zi P V rs).map (x:: ·)
def qz (rs:List RV) (R:Ending->AA->Prop):qa->AA->Prop:=
  fun ρ w=>match vX ρ w rs with|some vs=>R (.returned (wQ vs)) w|none=>False
def wk (V:List Nat) (args:Array AB):qa:=fun i=>if i=gS then .tuple #[] else if i∈V then args.getD i undef else undef
def qzr {P : Program} {V : List Nat} {n : Nat} {ρ : qa} {a : Act} {w : AA} (ha : Agree n V ρ a) {r : ResultVar} {x : RV} (hx : qeE P V r = some x) {v : AB} (hv : x.val ρ w = some v) :
    ((fun (r:ResultVar)=>(match r with
      | .tmp t=>pure (a.tmps.getD t undef)
      | .cell ad t=>do loadVar t (<-asAddr (a.tmps.getD ad undef)):Sem AB)) r).run P w=.ok v w:=by
  cases r with
  |tmp t=>
    simp only [qeE] at hx;split at hx
    · rename_i hV;cases hx;have hV':t∈V:=by simpa using hV
      simp only [RV.val,ui] at hv;subst hv;rw [ha.at hV'];rfl
    · cases hx
  |cell ad t=>
    simp only [qeE] at hx;split at hx
    · rename_i hV;have hV':ad∈V:=by simpa using hV
      have hρ:ρ ad=a.tmps.getD ad undef:=ha.at hV';split at hx
      · rename_i i hg hi;cases hx;simp only [RV.val] at hv;obtain ⟨p,hp⟩:=qdq hv (.inl ⟨_,rfl⟩)
        have h1 := qeG (P := P) (w := w) (f := fun _ => ρ ad) (dst := none) (type := 0) (pos := "") (after := #[]) (guard := none) (a := .tmp 0) hg hi hv
        simp only [execOp,hp,Instr.loadAt,Instr.sureAddr,Sem.run_bind,Sem.run_pure,Result.andThen_ok] at h1;show ((asAddr (a.tmps.getD ad undef))>>=fun x=>loadVar t x).run P w=_;rw [<-hρ,hp];simp only [asAddr,Sem.run_bind,Sem.run_pure,Result.andThen_ok];cases hr:(loadVar t p).run P w with
        |ok u w'=>rw [hr] at h1;simp only [Result.andThen_ok,Result.ok.injEq,Next.value.injEq] at h1;obtain ⟨rfl,rfl⟩:=h1;rfl
        |halt u w'=>rw [hr] at h1;cases h1
      · have hg:= ‹kB P t=some false›;cases hx;simp only [RV.val] at hv;obtain ⟨p,hp⟩:=qdq hv (.inr (.inl rfl))
        have h1 := qnh (P := P) (w := w) (f := fun _ => ρ ad) (dst := none) (type := 0) (pos := "") (after := #[]) (guard := none) (a := .tmp 0) hg hv
        simp only [execOp,hp,Instr.loadAt,Instr.sureAddr,Sem.run_bind,Sem.run_pure,Result.andThen_ok] at h1;show ((asAddr (a.tmps.getD ad undef))>>=fun x=>loadVar t x).run P w=_;rw [<-hρ,hp];simp only [asAddr,Sem.run_bind,Sem.run_pure,Result.andThen_ok];cases hr:(loadVar t p).run P w with
        |ok u w'=>rw [hr] at h1;simp only [Result.andThen_ok,Result.ok.injEq,Next.value.injEq] at h1;obtain ⟨rfl,rfl⟩:=h1;rfl
        |halt u w'=>rw [hr] at h1;cases h1
      · cases hx
    · cases hx
def qm9 {P:Program} {V:List Nat} {n:Nat} {ρ:qa} {a:Act} {w:AA} (j:Agree n V ρ a):∀{rs:List ResultVar} {xs:List RV} (_:zi P V rs=some xs) {vs:List AB} (_:vX ρ w xs=some vs),
    (rs.mapM (fun (r:ResultVar)=>(match r with
      | .tmp t=>pure (a.tmps.getD t undef)
      | .cell o t=>do loadVar t (<-asAddr (a.tmps.getD o undef)):Sem AB))).run P w=.ok vs w
  |[],xs,b,vs,c=>by
    simp only [zi,ui] at b;subst b;simp only [vX,ui] at c;subst c;simp
  |r::rs,xs,b,vs,c=>by
    simp only [zi,uh,uc] at b;obtain ⟨x,h,p,g,rfl⟩:=b;simp only [vX,uh,uc] at c;obtain ⟨v,i,l,e,rfl⟩:=c;have k:=qzr j h i;have m:=qm9 j g e;simp only [List.mapM_cons,Sem.run_bind];simp only at k;rw [k];simp only [Result.andThen_ok,m,Sem.run_pure]
theorem qeM {P:Program} {V:List Nat} {n:Nat} {ρ:qa} {a:Act} {w:AA} (e:Agree n V ρ a) {fn:Func} {xs:List RV} (b:zi P V fn.results.toList=some xs) {vs:List AB} (c:vX ρ w xs=some vs):
    (results fn a.tmps).run P w=.ok (wQ vs) w:=by
  have h:=qm9 (P:=P) e b c;unfold results;rw [Array.mapM_eq_mapM_toList]
  have i:(List.mapM (fun x=>(match x with
      | .tmp t=>pure (a.tmps.getD t undef)
      | .cell g t=>do loadVar t (<-asAddr (a.tmps.getD g undef)):Sem AB)) fn.results.toList).run P w=.ok vs w:=h
  simp only [Sem.run_bind,Sem.run_map]
  erw [i]
  cases vs with
  |nil=>rfl
  |cons v vs=>cases vs with
    |nil=>rfl
    |cons u j=>rfl
def kn (fn:Func) (V:List Nat):Bool:=decide (fn.ntmps<=1000000000)&&V.all fun i=>decide (i<fn.ntmps)
def qgC {fn:Func} {V:List Nat} (a:kn fn V=true) {args:Array AB} (b:args.size<=fn.ntmps):
    Agree fn.ntmps V (wk V args) {tmps:=args++Array.replicate (fn.ntmps - args.size) undef,defers:=[]}:=by
  simp only [kn,km,ue,ut] at a;refine ⟨by simp;omega, ?_,a.2,a.1⟩;funext i;simp only [wk,wr];split
  · rfl
  split
  · simp only [Array.getD_eq_getD_getElem?,Array.getElem?_append];split
    · rfl
    · rename_i c;rw [JY (by omega)];simp only [Array.getElem?_replicate];split<;>rfl
  · rfl
theorem qv8 {P:Program} {f:FuncId} {fn:Func} {V b:List Nat} {ir j:IR} {rs:List RV} {c:Code} (n:P.funcs[f]? =some fn) (q:fn.body=some c) (t:jk P fn.ntmps V b c=some j)
    (y:j.norm=ir) (s:kn fn V=true) (m:zi P V fn.results.toList=some rs) {args:Array AB} (o:args.size<=fn.ntmps) {w:AA} {R:Ending->AA->Prop}
    (h:ir.wp ⟨P,fn.ntmps,V,[]⟩ (qz rs R) ⟨fun _ _ _=>False,qz rs R,fun _ c w=>R (.panicked c) w,∀w,R .outgrown w,False,True⟩ (wk V args) w):Calls P f args w R:=by
  refine calls_of_wp n q ?_;subst y;rw [IR.norm_wp] at h;refine wp_mono (qgi ⟨P,fn.ntmps,V,[]⟩ b c j t _ _ _ _ w (fun h:False=>h.elim) (qgC s o) (fun _=>rfl) h) ?_;have g:∀(a:Act) (w:AA),(vy ⟨P,fn.ntmps,V,[]⟩ a/\∃ρ,Agree fn.ntmps V ρ a/\qz rs R ρ w)->a.defers=[]/\∃v,(results fn a.tmps).run P w=.ok v w/\R (.returned v) w:=by
    rintro a w ⟨x,ρ,u,l⟩;simp only [qz] at l;split at l
    · rename_i vs p;exact ⟨x rfl,_,qeM u m p,l⟩
    · cases l
  intro e a w k;cases e with
  |normal=>exact g a w k
  |ret=>exact g a w k
  |exit i=>obtain ⟨_,_,_,n⟩:=k;exact n
  |goto i=>exact k
  |panic c=>exact ⟨k.1 rfl,let ⟨_,_,h⟩:=k.2;h⟩
  |outgrown=>exact (show∀w,R .outgrown w from k) w
def vo (P:Program) (rs:List RV) (R:Ending->AA->Prop) (ρ:qa):List AB->FrameMode->AA->Prop
  |[],.returning,w=>match vX ρ w rs with|some vs=>R (.returned (wQ vs)) w|none=>False
  |[],.panicking chain,w=>R (.panicked chain) w
  |[],.run,_=>False
  | .int _ r::ds,u,w=>u≠ .run/\∃w',(Instr.takeDeferred r.toNat).run P w=.ok [] w'/\vo P rs R ρ ds u w'
  | .func f args caps::ds,u,w=>u≠ .run/\∃f' args',(invoke (.fn f caps) args).run P w=.ok (.enter f' args') w/\CallsDIn Fence.wide 0 P f' args' u w fun
      | .returned _,u',w'=>vo P rs R ρ ds (settle u') w'
      | .panicked chain,u',w'=>vo P rs R ρ ds (raised u' chain) w'
      | .outgrown,_,w'=>R .outgrown w'
  |_,_,_=>False
def vl (P:Program) (rs:List RV) (R:Ending->AA->Prop) (u:FrameMode):qa->AA->Prop:=
  fun ρ w=>match ρ gS with| .tuple ds=>vo P rs R ρ ds.toList u w|_=>False
def qfi {P:Program} {V:List Nat} {n:Nat} {ρ:qa} {a:Act} {fn:Func} {rs:List RV} (j:Agree n V ρ a) (g:zi P V fn.results.toList=some rs) {R:Ending->AA->Prop}:
    ∀(l:List Deferred) (u:FrameMode) (w:AA),vo P rs R ρ (l.map qaR) u w->LeavesInM Fence.wide 0 P fn a.tmps R l u w
  |[],u,w,h=>by
    cases u with
    |run=>exact h
    |returning=>
      simp only [List.map_nil,vo] at h;split at h
      · rename_i vs o;exact ⟨_,qeM j g o,h⟩
      · cases h
    |panicking c=>exact h
  | d :: l, u, w, h => by
    obtain ⟨t,args⟩:=d;cases t with
    |collected r=>
      simp only [List.map_cons,qaR,vo] at h;obtain ⟨m,w',A,h⟩:=h;exact ⟨m,.inl ⟨r,w',rfl,by simpa using A,qfi j g l u w' h⟩⟩
    |fn f caps=>
      simp only [List.map_cons,qaR,vo] at h;obtain ⟨m,s,i,B,q⟩:=h;refine ⟨m,.inr ⟨fun p=>(by cases p),f,caps,s,i,rfl,B,fun _ _=>trivial,q.mono fun e C w' k=>?_⟩⟩;cases e with
      |returned v=>exact qfi j g l _ w' k
      |panicked c=>exact qfi j g l _ w' k
      |outgrown=>exact k
    |nil=>simp only [List.map_cons,qaR,vo] at h
    |builtin b x y z=>simp only [List.map_cons,qaR,vo] at h
    |coroexit c=>simp only [List.map_cons,qaR,vo] at h
def zJ (P:Program) (rs:List RV) (R:Ending->AA->Prop):Ks:=⟨fun _ _ _=>False,vl P rs R .returning,fun ρ c w=>vl P rs R (.panicking c) ρ w,∀w,R .outgrown w,True,True⟩
def yL:List Deferred:=[⟨.nil, #[]⟩]
def qv7 {P:Program} {f:FuncId} {fn:Func} {V g:List Nat} {ir j:IR} {rs:List RV} {c:Code} (m:P.funcs[f]? =some fn) (s:fn.body=some c) (v:jk P fn.ntmps V g c=some j)
    (x:j.norm=ir) (t:kn fn V=true) (l:zi P V fn.results.toList=some rs) {args:Array AB} (o:args.size<=fn.ntmps) {w:AA} {R:Ending->AA->Prop}
    (h:ir.wp ⟨P,fn.ntmps,V,yL⟩ (vl P rs R .returning) (zJ P rs R) (wk V args) w):Calls P f args w R:=by
  refine (callsIn_wide (n:=0)).1 (callsIn_of_wp_marks m s trivial (wpIn_wide.2 ?_));subst x;rw [IR.norm_wp] at h;refine wp_mono (qgi ⟨P,fn.ntmps,V,yL⟩ g c j v _ _ _ _ w (fun _ h=>(by cases h)) (qgC t o) (fun h=>(by cases h)) h) ?_;have b:∀(u:FrameMode) (a:Act) (w:AA),(∃ρ,Agree fn.ntmps V ρ a/\vl P rs R u ρ w)->LeavesInM Fence.wide 0 P fn a.tmps R a.defers u w:=by
    rintro u a w ⟨ρ,p,q⟩;simp only [vl,p.ds,qcv] at q;exact qfi p l _ _ _ q
  intro e a w k;cases e with
  |normal=>exact b _ a w k.2
  |ret=>exact b _ a w k.2
  |exit i=>obtain ⟨_,_,_,m⟩:=k;exact m
  |goto i=>exact k
  |panic c=>exact b _ a w k.2
  |outgrown=>exact (show∀w,R .outgrown w from k) w
end Go.Eng
