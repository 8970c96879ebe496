/- Lemmas for a claim about layer 2 (tree). No conditions but those they state. -/
import Derived.Test.YtbcmiempigoooaaGreatDoorNac
import Derived.Calls
set_option linter.all false
namespace Go.Eng
open Go.RowKit
def IR.app:IR→IR→IR
  | .skip,b=>b
  | .seq x y,b=>x.app (y.app b)
  | .reg l, .reg m=> .reg (l++m)
  | .reg l, .seq (.reg m) c=> .seq (.reg (l++m)) c
  |a, .skip=>a
  |a,b=> .seq a b
def IR.norm:IR→IR
  | .seq a b=>a.norm.app b.norm
  | .cond c a b=> .cond c a.norm b.norm
  | .block id a=> .block id a.norm
  | .loop a=> .loop a.norm
  |a=>a
theorem IR.app_wp (cx:Cx):∀(a b:IR) (K:qa→World→Prop) (Q:Ks) (ρ:qa) (w:World),(a.app b).wp cx K Q ρ w=a.wp cx (fun g w'=>b.wp cx K Q g w') Q ρ w
  | .skip,_,_,_,_,_=>rfl
  | .seq x y,b,K,Q,ρ,w=>by
    simp only [IR.app,IR.wp];rw [IR.app_wp cx x (y.app b)];congr 1;funext g w';exact IR.app_wp cx y b K Q g w'
  | .reg l,b,K,Q,ρ,w=>by
    unfold IR.app;split
    · rename_i e;cases e
    · rename_i e;cases e
    · rename_i h m e;cases e;simp only [IR.wp,qa3]
    · rename_i h m c e;cases e;simp only [IR.wp,qa3]
    · rfl
    · rfl
  | .drw l,b,K,Q,ρ,w=>by cases b<;>rfl
  | .cond c x y,b,K,Q,ρ,w=>by cases b<;>rfl
  | .block id x,b,K,Q,ρ,w=>by cases b<;>rfl
  | .loop x,b,K,Q,ρ,w=>by cases b<;>rfl
  | .exit id,b,K,Q,ρ,w=>by cases b<;>rfl
  | .ret,b,K,Q,ρ,w=>by cases b<;>rfl
  | .raw c,b,K,Q,ρ,w=>by cases b<;>rfl
theorem IR.norm_wp (cx:Cx):∀(a:IR) (K:qa→World→Prop) (Q:Ks) (ρ:qa) (w:World),a.norm.wp cx K Q ρ w=a.wp cx K Q ρ w
  | .skip,_,_,_,_=>rfl
  | .reg _,_,_,_,_=>rfl
  | .drw _,_,_,_,_=>rfl
  | .exit _,_,_,_,_=>rfl
  | .ret,_,_,_,_=>rfl
  | .raw _,_,_,_,_=>rfl
  | .seq a b,K,Q,ρ,w=>by
    simp only [IR.norm,IR.app_wp,IR.wp];rw [IR.norm_wp cx a];congr 1;funext ρ' w';exact IR.norm_wp cx b K Q ρ' w'
  | .cond c a b,K,Q,ρ,w=>by
    simp only [IR.norm,IR.wp,IR.norm_wp cx a,IR.norm_wp cx b]
  | .block id a,K,Q,ρ,w=>by
    simp only [IR.norm,IR.wp,IR.norm_wp cx a]
  | .loop a,K,Q,ρ,w=>by
    simp only [IR.norm,IR.wp,IR.norm_wp cx a]
inductive RV where
  |tmp (t:Nat)
  |cell1 (t:Nat)
  |cellN (t n:Nat)
def RV.val (ρ:qa) (w:World):RV→Option Value
  | .tmp t=>some (ρ t)
  | .cell1 t=>qU w .load1 (ρ t)
  | .cellN t n=>qU w (.loadN n) (ρ t)
def vE (ρ:qa) (w:World):List RV→Option (List Value)
  |[]=>some []
  |r::rs=>(r.val ρ w).bind fun v=>(vE ρ w rs).map (v:: ·)
def wB:List Value→Value
  |[v]=>v
  |vs=> .tuple vs.toArray
def qc3 (P : Program) (V : List Nat) : ResultVar → Option RV
  | .tmp t=>if V.contains t then some (.tmp t) else none
  | .cell a t=>if V.contains a then match xz P t,P.info? t with
    |some true,some i=>some (.cellN a i.size)
    |some false,_=>some (.cell1 a)
    |_,_=>none
    else none
def vc (P:Program) (V:List Nat):List ResultVar→Option (List RV)
  |[]=>some []
  |r::rs=>(qc3 P V r).bind fun x=>(vc P V rs).map (x:: ·)
def qw (rs:List RV) (R:Ending→World→Prop):qa→World→Prop:=
  fun ρ w=>match vE ρ w rs with|some vs=>R (.returned (wB vs)) w|none=>False
def x8 (V:List Nat) (args:Array Value):qa:=fun i=>if i=gS then .tuple #[] else if i∈V then args.getD i undef else undef
theorem qwm {P : Program} {V : List Nat} {n : Nat} {ρ : qa} {a : Act} {w : World} (ha : Agree n V ρ a) {r : ResultVar} {x : RV} (hx : qc3 P V r = some x) {v : Value} (hv : x.val ρ w = some v) :
    ((fun (r:ResultVar)=>(match r with
      | .tmp t=>pure (a.tmps.getD t undef)
      | .cell ad t=>do loadVar t (←asAddr (a.tmps.getD ad undef)):Sem Value)) r).run P w= .ok v w:=by
  cases r with
  |tmp t=>
    simp only [qc3] at hx;split at hx
    · rename_i hV;cases hx;have hV':t∈V:=by simpa using hV
      simp only [RV.val,Option.some.injEq] at hv;subst hv;rw [ha.at hV'];rfl
    · cases hx
  |cell ad t=>
    simp only [qc3] at hx;split at hx
    · rename_i hV;have hV':ad∈V:=by simpa using hV
      have hρ:ρ ad=a.tmps.getD ad undef:=ha.at hV';split at hx
      · rename_i i hg hi;cases hx;simp only [RV.val] at hv;obtain ⟨p,hp⟩:=qbG hv (.inl ⟨_,rfl⟩)
        have h1 := qf3 (P := P) (w := w) (f := fun _ => ρ ad) (dst := none) (type := 0) (pos := "") (after := #[]) (guard := none) (a := .tmp 0) hg hi hv
        simp only [execOp,hp,Instr.loadAt,Instr.sureAddr,Sem.run_bind,Sem.run_pure,Result.andThen_ok] at h1;show ((asAddr (a.tmps.getD ad undef))>>=fun x=>loadVar t x).run P w=_;rw [←hρ,hp];simp only [asAddr,Sem.run_bind,Sem.run_pure,Result.andThen_ok];cases hr:(loadVar t p).run P w with
        |ok u w'=>rw [hr] at h1;simp only [Result.andThen_ok,Result.ok.injEq,Next.value.injEq] at h1;obtain ⟨rfl,rfl⟩:=h1;rfl
        |halt u w'=>rw [hr] at h1;cases h1
      · have hg:= ‹xz P t=some false›;cases hx;simp only [RV.val] at hv;obtain ⟨p,hp⟩:=qbG hv (.inr (.inl rfl))
        have h1 := qk3 (P := P) (w := w) (f := fun _ => ρ ad) (dst := none) (type := 0) (pos := "") (after := #[]) (guard := none) (a := .tmp 0) hg hv
        simp only [execOp,hp,Instr.loadAt,Instr.sureAddr,Sem.run_bind,Sem.run_pure,Result.andThen_ok] at h1;show ((asAddr (a.tmps.getD ad undef))>>=fun x=>loadVar t x).run P w=_;rw [←hρ,hp];simp only [asAddr,Sem.run_bind,Sem.run_pure,Result.andThen_ok];cases hr:(loadVar t p).run P w with
        |ok u w'=>rw [hr] at h1;simp only [Result.andThen_ok,Result.ok.injEq,Next.value.injEq] at h1;obtain ⟨rfl,rfl⟩:=h1;rfl
        |halt u w'=>rw [hr] at h1;cases h1
      · cases hx
    · cases hx
theorem qkU {P:Program} {V:List Nat} {n:Nat} {ρ:qa} {a:Act} {w:World} (k:Agree n V ρ a):∀{rs:List ResultVar} {xs:List RV} (_:vc P V rs=some xs) {vs:List Value} (_:vE ρ w xs=some vs),
    (rs.mapM (fun (r:ResultVar)=>(match r with
      | .tmp t=>pure (a.tmps.getD t undef)
      | .cell o t=>do loadVar t (←asAddr (a.tmps.getD o undef)):Sem Value))).run P w= .ok vs w
  |[],xs,b,vs,c=>by
    simp only [vc,Option.some.injEq] at b;subst b;simp only [vE,Option.some.injEq] at c;subst c;simp
  |r::rs,xs,b,vs,c=>by
    simp only [vc,Option.bind_eq_some_iff,Option.map_eq_some_iff] at b;obtain ⟨x,g,m,e,rfl⟩:=b;simp only [vE,Option.bind_eq_some_iff,Option.map_eq_some_iff] at c;obtain ⟨v,i,l,h,rfl⟩:=c;have j:=qwm k g i;have p:=qkU k e h;simp only [List.mapM_cons,Sem.run_bind];simp only at j;rw [j];simp only [Result.andThen_ok,p,Sem.run_pure]
theorem qc9 {P:Program} {V:List Nat} {n:Nat} {ρ:qa} {a:Act} {w:World} (e:Agree n V ρ a) {fn:Func} {xs:List RV} (c:vc P V fn.results.toList=some xs) {vs:List Value} (i:vE ρ w xs=some vs):
    (results fn a.tmps).run P w= .ok (wB vs) w:=by
  have h:=qkU (P:=P) e c i;unfold results;rw [Array.mapM_eq_mapM_toList]
  have b:(List.mapM (fun x=>(match x with
      | .tmp t=>pure (a.tmps.getD t undef)
      | .cell g t=>do loadVar t (←asAddr (a.tmps.getD g undef)):Sem Value)) fn.results.toList).run P w= .ok vs w:=h
  simp only [Sem.run_bind,Sem.run_map]
  erw [b]
  cases vs with
  |nil=>rfl
  |cons v vs=>cases vs with
    |nil=>rfl
    |cons u j=>rfl
def xu (fn:Func) (V:List Nat):Bool:=decide (fn.ntmps≤1000000000)&&V.all fun i=>decide (i<fn.ntmps)
theorem qfe {fn:Func} {V:List Nat} (a:xu fn V=true) {args:Array Value} (b:args.size≤fn.ntmps):
    Agree fn.ntmps V (x8 V args) {tmps:=args++Array.replicate (fn.ntmps - args.size) undef,defers:=[]}:=by
  simp only [xu,Bool.and_eq_true,decide_eq_true_eq,List.all_eq_true] at a;refine ⟨by simp;omega, ?_,a.2,a.1⟩;funext i;simp only [x8,ko];split
  · rfl
  split
  · simp only [Array.getD_eq_getD_getElem?,Array.getElem?_append];split
    · rfl
    · rename_i c;rw [Array.getElem?_eq_none (by omega)];simp only [Array.getElem?_replicate];split<;>rfl
  · rfl
theorem qtM {P:Program} {f:FuncId} {fn:Func} {V g:List Nat} {ir j:IR} {rs:List RV} {c:Code} (p:P.funcs[f]? =some fn) (u:fn.body=some c) (x:qT P fn.ntmps V g c=some j)
    (y:j.norm=ir) (t:xu fn V=true) (o:vc P V fn.results.toList=some rs) {args:Array Value} (m:args.size≤fn.ntmps) {w:World} {R:Ending→World→Prop}
    (h:ir.wp ⟨P,fn.ntmps,V,[]⟩ (qw rs R) ⟨fun _ _ _=>False,qw rs R,fun _ c w=>R (.panicked c) w,∀w,R .outgrown w,False,True⟩ (x8 V args) w):Calls P f args w R:=by
  refine calls_of_wp p u ?_;subst y;rw [IR.norm_wp] at h;refine wp_mono (qeS ⟨P,fn.ntmps,V,[]⟩ g c j x _ _ _ _ w (fun h:False=>h.elim) (qfe t m) (fun _=>rfl) h) ?_;have b:∀(a:Act) (w:World),(jT ⟨P,fn.ntmps,V,[]⟩ a∧∃ρ,Agree fn.ntmps V ρ a∧qw rs R ρ w)→a.defers=[]∧∃v,(results fn a.tmps).run P w= .ok v w∧R (.returned v) w:=by
    rintro a w ⟨s,ρ,z,l⟩;simp only [qw] at l;split at l
    · rename_i vs n;exact ⟨s rfl,_,qc9 z o n,l⟩
    · cases l
  intro e a w k;cases e with
  |normal=>exact b a w k
  |ret=>exact b a w k
  |exit i=>obtain ⟨_,_,_,p⟩:=k;exact p
  |goto i=>exact k
  |panic c=>exact ⟨k.1 rfl,let ⟨_,_,h⟩:=k.2;h⟩
  |outgrown=>exact (show∀w,R .outgrown w from k) w
def jP (P:Program) (rs:List RV) (R:Ending→World→Prop) (ρ:qa):List Value→FrameMode→World→Prop
  |[], .returning,w=>match vE ρ w rs with|some vs=>R (.returned (wB vs)) w|none=>False
  |[], .panicking chain,w=>R (.panicked chain) w
  |[], .run,_=>False
  | .int _ r::ds,u,w=>u≠ .run∧∃w',(Instr.takeDeferred r.toNat).run P w= .ok [] w'∧jP P rs R ρ ds u w'
  | .func f args caps::ds,u,w=>u≠ .run∧∃f' args',(invoke (.fn f caps) args).run P w= .ok (.enter f' args') w∧CallsDIn Fence.wide 0 P f' args' u w fun
      | .returned _,u',w'=>jP P rs R ρ ds (settle u') w'
      | .panicked chain,u',w'=>jP P rs R ρ ds (raised u' chain) w'
      | .outgrown,_,w'=>R .outgrown w'
  |_,_,_=>False
def jD (P:Program) (rs:List RV) (R:Ending→World→Prop) (u:FrameMode):qa→World→Prop:=
  fun ρ w=>match ρ gS with| .tuple ds=>jP P rs R ρ ds.toList u w|_=>False
theorem qdH {P:Program} {V:List Nat} {n:Nat} {ρ:qa} {a:Act} {fn:Func} {rs:List RV} (j:Agree n V ρ a) (g:vc P V fn.results.toList=some rs) {R:Ending→World→Prop}:
    ∀(l:List Deferred) (u:FrameMode) (w:World),jP P rs R ρ (l.map Qe) u w→LeavesInM Fence.wide 0 P fn a.tmps R l u w
  |[],u,w,h=>by
    cases u with
    |run=>exact h
    |returning=>
      simp only [List.map_nil,jP] at h;split at h
      · rename_i vs m;exact ⟨_,qc9 j g m,h⟩
      · cases h
    |panicking c=>exact h
  | d :: l, u, w, h => by
    obtain ⟨t,args⟩:=d;cases t with
    |collected r=>
      simp only [List.map_cons,Qe,jP] at h;obtain ⟨o,w',s,h⟩:=h;exact ⟨o, .inl ⟨r,w',rfl,by simpa using s,qdH j g l u w' h⟩⟩
    |fn f caps=>
      simp only [List.map_cons,Qe,jP] at h;obtain ⟨o,p,i,A,B⟩:=h;refine ⟨o, .inr ⟨fun C=>(by cases C),f,caps,p,i,rfl,A,fun _ _=>trivial,B.mono fun e E w' k=> ?_⟩⟩;cases e with
      |returned v=>exact qdH j g l _ w' k
      |panicked c=>exact qdH j g l _ w' k
      |outgrown=>exact k
    |nil=>simp only [List.map_cons,Qe,jP] at h
    |builtin b x y z=>simp only [List.map_cons,Qe,jP] at h
    |coroexit c=>simp only [List.map_cons,Qe,jP] at h
def vC (P:Program) (rs:List RV) (R:Ending→World→Prop):Ks:=⟨fun _ _ _=>False,jD P rs R .returning,fun ρ c w=>jD P rs R (.panicking c) ρ w,∀w,R .outgrown w,True,True⟩
def z6:List Deferred:=[⟨.nil, #[]⟩]
theorem qeX {P:Program} {f:FuncId} {fn:Func} {V g:List Nat} {ir j:IR} {rs:List RV} {c:Code} (o:P.funcs[f]? =some fn) (v:fn.body=some c) (x:qT P fn.ntmps V g c=some j)
    (y:j.norm=ir) (t:xu fn V=true) (m:vc P V fn.results.toList=some rs) {args:Array Value} (l:args.size≤fn.ntmps) {w:World} {R:Ending→World→Prop}
    (h:ir.wp ⟨P,fn.ntmps,V,z6⟩ (jD P rs R .returning) (vC P rs R) (x8 V args) w):Calls P f args w R:=by
  refine (callsIn_wide (n:=0)).1 (callsIn_of_wp_marks o v trivial (wpIn_wide.2 ?_));subst y;rw [IR.norm_wp] at h;refine wp_mono (qeS ⟨P,fn.ntmps,V,z6⟩ g c j x _ _ _ _ w (fun _ h=>(by cases h)) (qfe t l) (fun h=>(by cases h)) h) ?_;have b:∀(u:FrameMode) (a:Act) (w:World),(∃ρ,Agree fn.ntmps V ρ a∧jD P rs R u ρ w)→LeavesInM Fence.wide 0 P fn a.tmps R a.defers u w:=by
    rintro u a w ⟨ρ,s,p⟩;simp only [jD,s.ds,qaO] at p;exact qdH s m _ _ _ p
  intro e a w k;cases e with
  |normal=>exact b _ a w k.2
  |ret=>exact b _ a w k.2
  |exit i=>obtain ⟨_,_,_,o⟩:=k;exact o
  |goto i=>exact k
  |panic c=>exact b _ a w k.2
  |outgrown=>exact (show∀w,R .outgrown w from k) w
end Go.Eng
