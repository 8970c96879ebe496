/- Texts of mine for the claims about layer 2 (tree), joined: EngE. -/
import Derived.Test.YtbcmiempigoooaaGreatDoorJad
import Derived.Calls
set_option linter.all false
set_option linter.unusedSimpArgs false
set_option linter.unusedVariables false
namespace Go.Eng
open Go.RowKit
def IR.app:IR→IR→IR
  | .skip,b=>b
  | .seq x y,b=>x.app (y.app b)
  | .reg l, .reg m=> .reg (l++m)
  | .reg l, .seq (.reg m) c=> .seq (.reg (l++m)) c
  |a, .skip=>a
  |a,b=> .seq a b
def IR.norm:IR→IR
  | .seq a b=>a.norm.app b.norm
  | .cond c a b=> .cond c a.norm b.norm
  | .block id a=> .block id a.norm
  | .loop a=> .loop a.norm
  |a=>a
theorem IR.app_wp (cx:Cx):∀(a b:IR) (K:Env→World→Prop) (Q:Ks) (ρ:Env) (w:World),(a.app b).wp cx K Q ρ w=a.wp cx (fun ρ' w'=>b.wp cx K Q ρ' w') Q ρ w
  | .skip,_,_,_,_,_=>rfl
  | .seq x y,b,K,Q,ρ,w=>by
    simp only [IR.app,IR.wp]
    rw [IR.app_wp cx x (y.app b)]
    congr 1
    funext ρ' w'
    exact IR.app_wp cx y b K Q ρ' w'
  | .reg l,b,K,Q,ρ,w=>by
    unfold IR.app
    split
    · rename_i e;cases e
    · rename_i e;cases e
    · rename_i l' m e;cases e
      simp only [IR.wp,wps_append]
    · rename_i l' m c e;cases e
      simp only [IR.wp,wps_append]
    · rfl
    · rfl
  | .drw l,b,K,Q,ρ,w=>by cases b<;>rfl
  | .cond c x y,b,K,Q,ρ,w=>by cases b<;>rfl
  | .block id x,b,K,Q,ρ,w=>by cases b<;>rfl
  | .loop x,b,K,Q,ρ,w=>by cases b<;>rfl
  | .exit id,b,K,Q,ρ,w=>by cases b<;>rfl
  | .ret,b,K,Q,ρ,w=>by cases b<;>rfl
  | .raw c,b,K,Q,ρ,w=>by cases b<;>rfl
theorem IR.norm_wp (cx:Cx):∀(a:IR) (K:Env→World→Prop) (Q:Ks) (ρ:Env) (w:World),a.norm.wp cx K Q ρ w=a.wp cx K Q ρ w
  | .skip,_,_,_,_=>rfl
  | .reg _,_,_,_,_=>rfl
  | .drw _,_,_,_,_=>rfl
  | .exit _,_,_,_,_=>rfl
  | .ret,_,_,_,_=>rfl
  | .raw _,_,_,_,_=>rfl
  | .seq a b,K,Q,ρ,w=>by
    simp only [IR.norm,IR.app_wp,IR.wp]
    rw [IR.norm_wp cx a]
    congr 1
    funext ρ' w'
    exact IR.norm_wp cx b K Q ρ' w'
  | .cond c a b,K,Q,ρ,w=>by
    simp only [IR.norm,IR.wp,IR.norm_wp cx a,IR.norm_wp cx b]
  | .block id a,K,Q,ρ,w=>by
    simp only [IR.norm,IR.wp,IR.norm_wp cx a]
  | .loop a,K,Q,ρ,w=>by
    simp only [IR.norm,IR.wp,IR.norm_wp cx a]
inductive RV where
  |tmp (t:Nat)
  |cell1 (t:Nat)
  |cellN (t n:Nat)
def RV.val (ρ:Env) (w:World):RV→Option Value
  | .tmp t=>some (ρ t)
  | .cell1 t=>pv1 w .load1 (ρ t)
  | .cellN t n=>pv1 w (.loadN n) (ρ t)
def resVals (ρ:Env) (w:World):List RV→Option (List Value)
  |[]=>some []
  |r::rs=>(r.val ρ w).bind fun v=>(resVals ρ w rs).map (v:: ·)
def tupled:List Value→Value
  |[v]=>v
  |vs=> .tuple vs.toArray
def rvOf (P : Program) (V : List Nat) : ResultVar → Option RV
  | .tmp t=>if V.contains t then some (.tmp t) else none
  | .cell a t=>if V.contains a then match isAggT P t,P.info? t with
    |some true,some i=>some (.cellN a i.size)
    |some false,_=>some (.cell1 a)
    |_,_=>none
    else none
def rvsOf (P:Program) (V:List Nat):List ResultVar→Option (List RV)
  |[]=>some []
  |r::rs=>(rvOf P V r).bind fun x=>(rvsOf P V rs).map (x:: ·)
def retK (rs:List RV) (R:Ending→World→Prop):Env→World→Prop:=
  fun ρ w=>match resVals ρ w rs with|some vs=>R (.returned (tupled vs)) w|none=>False
def startEnv (V:List Nat) (args:Array Value):Env:=fun i=>if i=gS then .tuple #[] else if i∈V then args.getD i undef else undef
theorem rv_run {P : Program} {V : List Nat} {n : Nat} {ρ : Env} {a : Act} {w : World} (ha : Agree n V ρ a) {r : ResultVar} {x : RV} (hx : rvOf P V r = some x) {v : Value} (hv : x.val ρ w = some v) :
    ((fun (r:ResultVar)=>(match r with
      | .tmp t=>pure (a.tmps.getD t undef)
      | .cell ad t=>do loadVar t (←asAddr (a.tmps.getD ad undef)):Sem Value)) r).run P w= .ok v w:=by
  cases r with
  |tmp t=>
    simp only [rvOf] at hx
    split at hx
    · rename_i hV
      cases hx
      have hV':t∈V:=by simpa using hV
      simp only [RV.val,Option.some.injEq] at hv
      subst hv
      rw [ha.at hV']
      rfl
    · cases hx
  |cell ad t=>
    simp only [rvOf] at hx
    split at hx
    · rename_i hV
      have hV':ad∈V:=by simpa using hV
      have hρ:ρ ad=a.tmps.getD ad undef:=ha.at hV'
      split at hx
      · rename_i i hg hi
        cases hx
        simp only [RV.val] at hv
        obtain ⟨p,hp⟩:=pv1_ptr hv (.inl ⟨_,rfl⟩)
        have h1 := run_loadN (P := P) (w := w) (f := fun _ => ρ ad) (dst := none) (type := 0) (pos := "") (after := #[]) (guard := none) (a := .tmp 0) hg hi hv
        simp only [execOp,hp,Instr.loadAt,Instr.sureAddr,Sem.run_bind,Sem.run_pure,Result.andThen_ok] at h1
        show ((asAddr (a.tmps.getD ad undef))>>=fun x=>loadVar t x).run P w=_
        rw [←hρ,hp]
        simp only [asAddr,Sem.run_bind,Sem.run_pure,Result.andThen_ok]
        cases hr:(loadVar t p).run P w with
        |ok u w'=>rw [hr] at h1;simp only [Result.andThen_ok,Result.ok.injEq,Next.value.injEq] at h1;obtain ⟨rfl,rfl⟩:=h1;rfl
        |halt u w'=>rw [hr] at h1;cases h1
      · have hg:= ‹isAggT P t=some false›
        cases hx
        simp only [RV.val] at hv
        obtain ⟨p,hp⟩:=pv1_ptr hv (.inr (.inl rfl))
        have h1 := run_load1 (P := P) (w := w) (f := fun _ => ρ ad) (dst := none) (type := 0) (pos := "") (after := #[]) (guard := none) (a := .tmp 0) hg hv
        simp only [execOp,hp,Instr.loadAt,Instr.sureAddr,Sem.run_bind,Sem.run_pure,Result.andThen_ok] at h1
        show ((asAddr (a.tmps.getD ad undef))>>=fun x=>loadVar t x).run P w=_
        rw [←hρ,hp]
        simp only [asAddr,Sem.run_bind,Sem.run_pure,Result.andThen_ok]
        cases hr:(loadVar t p).run P w with
        |ok u w'=>rw [hr] at h1;simp only [Result.andThen_ok,Result.ok.injEq,Next.value.injEq] at h1;obtain ⟨rfl,rfl⟩:=h1;rfl
        |halt u w'=>rw [hr] at h1;cases h1
      · cases hx
    · cases hx
theorem rvs_run {P:Program} {V:List Nat} {n:Nat} {ρ:Env} {a:Act} {w:World} (ha:Agree n V ρ a):∀{rs:List ResultVar} {xs:List RV} (_:rvsOf P V rs=some xs) {vs:List Value} (_:resVals ρ w xs=some vs),
    (rs.mapM (fun (r:ResultVar)=>(match r with
      | .tmp t=>pure (a.tmps.getD t undef)
      | .cell ad t=>do loadVar t (←asAddr (a.tmps.getD ad undef)):Sem Value))).run P w= .ok vs w
  |[],xs,hx,vs,hv=>by
    simp only [rvsOf,Option.some.injEq] at hx;subst hx
    simp only [resVals,Option.some.injEq] at hv;subst hv
    simp
  |r::rs,xs,hx,vs,hv=>by
    simp only [rvsOf,Option.bind_eq_some_iff,Option.map_eq_some_iff] at hx
    obtain ⟨x,hx1,xs',hx2,rfl⟩:=hx
    simp only [resVals,Option.bind_eq_some_iff,Option.map_eq_some_iff] at hv
    obtain ⟨v,hv1,vs',hv2,rfl⟩:=hv
    have h1:=rv_run ha hx1 hv1
    have h2:=rvs_run ha hx2 hv2
    simp only [List.mapM_cons,Sem.run_bind]
    simp only at h1
    rw [h1]
    simp only [Result.andThen_ok,h2,Sem.run_pure]
theorem results_run {P:Program} {V:List Nat} {n:Nat} {ρ:Env} {a:Act} {w:World} (ha:Agree n V ρ a) {fn:Func} {xs:List RV} (hx:rvsOf P V fn.results.toList=some xs) {vs:List Value} (hv:resVals ρ w xs=some vs):
    (results fn a.tmps).run P w= .ok (tupled vs) w:=by
  have h:=rvs_run (P:=P) ha hx hv
  unfold results
  rw [Array.mapM_eq_mapM_toList]
  have h':(List.mapM (fun x=>(match x with
      | .tmp t=>pure (a.tmps.getD t undef)
      | .cell ad t=>do loadVar t (←asAddr (a.tmps.getD ad undef)):Sem Value)) fn.results.toList).run P w= .ok vs w:=h
  simp only [Sem.run_bind,Sem.run_map]
  erw [h']
  cases vs with
  |nil=>rfl
  |cons v vs=>cases vs with
    |nil=>rfl
    |cons u us=>rfl
def readB (fn:Func) (V:List Nat):Bool:=decide (fn.ntmps≤1000000000)&&V.all fun i=>decide (i<fn.ntmps)
theorem agree_start {fn:Func} {V:List Nat} (hV:readB fn V=true) {args:Array Value} (hsz:args.size≤fn.ntmps):
    Agree fn.ntmps V (startEnv V args) {tmps:=args++Array.replicate (fn.ntmps - args.size) undef,defers:=[]}:=by
  simp only [readB,Bool.and_eq_true,decide_eq_true_eq,List.all_eq_true] at hV
  refine ⟨by simp;omega, ?_,hV.2,hV.1⟩
  funext i
  simp only [startEnv,envOf]
  split
  · rfl
  split
  · simp only [Array.getD_eq_getD_getElem?,Array.getElem?_append]
    split
    · rfl
    · rename_i hlt
      rw [Array.getElem?_eq_none (by omega)]
      simp only [Array.getElem?_replicate]
      split<;>rfl
  · rfl
theorem calls_ir {P:Program} {f:FuncId} {fn:Func} {V raws:List Nat} {ir ir0:IR} {rs:List RV} {c:Code} (hf:P.funcs[f]? =some fn) (hb:fn.body=some c) (hc:comp P fn.ntmps V raws c=some ir0)
    (hn:ir0.norm=ir) (hV:readB fn V=true) (hrs:rvsOf P V fn.results.toList=some rs) {args:Array Value} (hsz:args.size≤fn.ntmps) {w:World} {R:Ending→World→Prop}
    (h:ir.wp ⟨P,fn.ntmps,V,[]⟩ (retK rs R) ⟨fun _ _ _=>False,retK rs R,fun _ c w=>R (.panicked c) w,∀w,R .outgrown w,False,True⟩ (startEnv V args) w):Calls P f args w R:=by
  refine calls_of_wp hf hb ?_
  subst hn
  rw [IR.norm_wp] at h
  refine wp_mono (comp_sem ⟨P,fn.ntmps,V,[]⟩ raws c ir0 hc _ _ _ _ w (fun h:False=>h.elim) (agree_start hV hsz) (fun _=>rfl) h) ?_
  have hret:∀(a:Act) (w:World),(dOk ⟨P,fn.ntmps,V,[]⟩ a∧∃ρ,Agree fn.ntmps V ρ a∧retK rs R ρ w)→a.defers=[]∧∃v,(results fn a.tmps).run P w= .ok v w∧R (.returned v) w:=by
    rintro a w ⟨hD,ρ,ha,hk⟩
    simp only [retK] at hk
    split at hk
    · rename_i vs hvs
      exact ⟨hD rfl,_,results_run ha hrs hvs,hk⟩
    · cases hk
  intro e a w he
  cases e with
  |normal=>exact hret a w he
  |ret=>exact hret a w he
  |exit i=>obtain ⟨_,_,_,hf⟩:=he;exact hf
  |goto i=>exact he
  |panic c=>exact ⟨he.1 rfl,let ⟨_,_,h⟩:=he.2;h⟩
  |outgrown=>exact (show∀w,R .outgrown w from he) w
def LeavesV (P:Program) (rs:List RV) (R:Ending→World→Prop) (ρ:Env):List Value→FrameMode→World→Prop
  |[], .returning,w=>match resVals ρ w rs with|some vs=>R (.returned (tupled vs)) w|none=>False
  |[], .panicking chain,w=>R (.panicked chain) w
  |[], .run,_=>False
  | .int _ r::ds,u,w=>u≠ .run∧∃w',(Instr.takeDeferred r.toNat).run P w= .ok [] w'∧LeavesV P rs R ρ ds u w'
  | .func f args caps::ds,u,w=>u≠ .run∧∃f' args',(invoke (.fn f caps) args).run P w= .ok (.enter f' args') w∧CallsDIn Fence.wide 0 P f' args' u w fun
      | .returned _,u',w'=>LeavesV P rs R ρ ds (settle u') w'
      | .panicked chain,u',w'=>LeavesV P rs R ρ ds (raised u' chain) w'
      | .outgrown,_,w'=>R .outgrown w'
  |_,_,_=>False
def endK (P:Program) (rs:List RV) (R:Ending→World→Prop) (u:FrameMode):Env→World→Prop:=
  fun ρ w=>match ρ gS with| .tuple ds=>LeavesV P rs R ρ ds.toList u w|_=>False
theorem leavesV_sound {P:Program} {V:List Nat} {n:Nat} {ρ:Env} {a:Act} {fn:Func} {rs:List RV} (ha:Agree n V ρ a) (hrs:rvsOf P V fn.results.toList=some rs) {R:Ending→World→Prop}:
    ∀(l:List Deferred) (u:FrameMode) (w:World),LeavesV P rs R ρ (l.map encD) u w→LeavesInM Fence.wide 0 P fn a.tmps R l u w
  |[],u,w,h=>by
    cases u with
    |run=>exact h
    |returning=>
      simp only [List.map_nil,LeavesV] at h
      split at h
      · rename_i vs hvs;exact ⟨_,results_run ha hrs hvs,h⟩
      · cases h
    |panicking c=>exact h
  | d :: l, u, w, h => by
    obtain ⟨t,args⟩:=d
    cases t with
    |collected r=>
      simp only [List.map_cons,encD,LeavesV] at h
      obtain ⟨hu,w',hk,h⟩:=h
      exact ⟨hu, .inl ⟨r,w',rfl,by simpa using hk,leavesV_sound ha hrs l u w' h⟩⟩
    |fn f caps=>
      simp only [List.map_cons,encD,LeavesV] at h
      obtain ⟨hu,f',args',hi,hc⟩:=h
      refine ⟨hu, .inr ⟨fun h0=>(by cases h0),f,caps,f',args',rfl,hi,fun _ _=>trivial,hc.mono fun e u' w' hh=> ?_⟩⟩
      cases e with
      |returned v=>exact leavesV_sound ha hrs l _ w' hh
      |panicked c=>exact leavesV_sound ha hrs l _ w' hh
      |outgrown=>exact hh
    |nil=>simp only [List.map_cons,encD,LeavesV] at h
    |builtin b x y z=>simp only [List.map_cons,encD,LeavesV] at h
    |coroexit c=>simp only [List.map_cons,encD,LeavesV] at h
def ksD (P:Program) (rs:List RV) (R:Ending→World→Prop):Ks:=⟨fun _ _ _=>False,endK P rs R .returning,fun ρ c w=>endK P rs R (.panicking c) ρ w,∀w,R .outgrown w,True,True⟩
def dAny:List Deferred:=[⟨.nil, #[]⟩]
theorem calls_irD {P:Program} {f:FuncId} {fn:Func} {V raws:List Nat} {ir ir0:IR} {rs:List RV} {c:Code} (hf:P.funcs[f]? =some fn) (hb:fn.body=some c) (hc:comp P fn.ntmps V raws c=some ir0)
    (hn:ir0.norm=ir) (hV:readB fn V=true) (hrs:rvsOf P V fn.results.toList=some rs) {args:Array Value} (hsz:args.size≤fn.ntmps) {w:World} {R:Ending→World→Prop}
    (h:ir.wp ⟨P,fn.ntmps,V,dAny⟩ (endK P rs R .returning) (ksD P rs R) (startEnv V args) w):Calls P f args w R:=by
  refine (callsIn_wide (n:=0)).1 (callsIn_of_wp_marks hf hb trivial (wpIn_wide.2 ?_))
  subst hn
  rw [IR.norm_wp] at h
  refine wp_mono (comp_sem ⟨P,fn.ntmps,V,dAny⟩ raws c ir0 hc _ _ _ _ w (fun _ h=>(by cases h)) (agree_start hV hsz) (fun h=>(by cases h)) h) ?_
  have hret:∀(u:FrameMode) (a:Act) (w:World),(∃ρ,Agree fn.ntmps V ρ a∧endK P rs R u ρ w)→LeavesInM Fence.wide 0 P fn a.tmps R a.defers u w:=by
    rintro u a w ⟨ρ,ha,hk⟩
    simp only [endK,ha.ds,encDs] at hk
    exact leavesV_sound ha hrs _ _ _ hk
  intro e a w he
  cases e with
  |normal=>exact hret _ a w he.2
  |ret=>exact hret _ a w he.2
  |exit i=>obtain ⟨_,_,_,hf⟩:=he;exact hf
  |goto i=>exact he
  |panic c=>exact hret _ a w he.2
  |outgrown=>exact (show∀w,R .outgrown w from he) w
end Go.Eng
