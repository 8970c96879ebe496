/- Lemmas for a claim about layer 2 (tree). No conditions but those they state. -/
import Derived.Test.YtbcmiempigoooaaGreatDoorBac
import Derived.Calls
set_option linter.all false
namespace Go.Eng
open Go.RowKit
def IR.app:IR→IR→IR
  | .skip,b=>b
  | .seq x y,b=>x.app (y.app b)
  | .reg l, .reg m=> .reg (l++m)
  | .reg l, .seq (.reg m) c=> .seq (.reg (l++m)) c
  |a, .skip=>a
  |a,b=> .seq a b
def IR.norm:IR→IR
  | .seq a b=>a.norm.app b.norm
  | .cond c a b=> .cond c a.norm b.norm
  | .block id a=> .block id a.norm
  | .loop a=> .loop a.norm
  |a=>a
theorem IR.app_wp (cx:Cx):∀(a b:IR) (K:qa→World→Prop) (Q:Ks) (ρ:qa) (w:World),(a.app b).wp cx K Q ρ w=a.wp cx (fun g w'=>b.wp cx K Q g w') Q ρ w
  | .skip,_,_,_,_,_=>rfl
  | .seq x y,b,K,Q,ρ,w=>by
    simp only [IR.app,IR.wp];rw [IR.app_wp cx x (y.app b)];congr 1;funext g w';exact IR.app_wp cx y b K Q g w'
  | .reg l,b,K,Q,ρ,w=>by
    unfold IR.app;split
    · rename_i e;cases e
    · rename_i e;cases e
    · rename_i h m e;cases e;simp only [IR.wp,qa7]
    · rename_i h m c e;cases e;simp only [IR.wp,qa7]
    · rfl
    · rfl
  | .drw l,b,K,Q,ρ,w=>by cases b<;>rfl
  | .cond c x y,b,K,Q,ρ,w=>by cases b<;>rfl
  | .block id x,b,K,Q,ρ,w=>by cases b<;>rfl
  | .loop x,b,K,Q,ρ,w=>by cases b<;>rfl
  | .exit id,b,K,Q,ρ,w=>by cases b<;>rfl
  | .ret,b,K,Q,ρ,w=>by cases b<;>rfl
  | .raw c,b,K,Q,ρ,w=>by cases b<;>rfl
theorem IR.norm_wp (cx:Cx):∀(a:IR) (K:qa→World→Prop) (Q:Ks) (ρ:qa) (w:World),a.norm.wp cx K Q ρ w=a.wp cx K Q ρ w
  | .skip,_,_,_,_=>rfl
  | .reg _,_,_,_,_=>rfl
  | .drw _,_,_,_,_=>rfl
  | .exit _,_,_,_,_=>rfl
  | .ret,_,_,_,_=>rfl
  | .raw _,_,_,_,_=>rfl
  | .seq a b,K,Q,ρ,w=>by
    simp only [IR.norm,IR.app_wp,IR.wp];rw [IR.norm_wp cx a];congr 1;funext ρ' w';exact IR.norm_wp cx b K Q ρ' w'
  | .cond c a b,K,Q,ρ,w=>by
    simp only [IR.norm,IR.wp,IR.norm_wp cx a,IR.norm_wp cx b]
  | .block id a,K,Q,ρ,w=>by
    simp only [IR.norm,IR.wp,IR.norm_wp cx a]
  | .loop a,K,Q,ρ,w=>by
    simp only [IR.norm,IR.wp,IR.norm_wp cx a]
inductive RV where
  |tmp (t:Nat)
  |cell1 (t:Nat)
  |cellN (t n:Nat)
def RV.val (ρ:qa) (w:World):RV→Option Value
  | .tmp t=>some (ρ t)
  | .cell1 t=>qJ w .load1 (ρ t)
  | .cellN t n=>qJ w (.loadN n) (ρ t)
def vj (ρ:qa) (w:World):List RV→Option (List Value)
  |[]=>some []
  |r::rs=>(r.val ρ w).bind fun v=>(vj ρ w rs).map (v:: ·)
def kR:List Value→Value
  |[v]=>v
  |vs=> .tuple vs.toArray
def qcV (P : Program) (V : List Nat) : ResultVar → Option RV
  | .tmp t=>if V.contains t then some (.tmp t) else none
  | .cell a t=>if V.contains a then match xP P t,P.info? t with
    |some true,some i=>some (.cellN a i.size)
    |some false,_=>some (.cell1 a)
    |_,_=>none
    else none
def vu (P:Program) (V:List Nat):List ResultVar→Option (List RV)
  |[]=>some []
  |r::rs=>(qcV P V r).bind fun x=>(vu P V rs).map (x:: ·)
def qz (rs:List RV) (R:Ending→World→Prop):qa→World→Prop:=
  fun ρ w=>match vj ρ w rs with|some vs=>R (.returned (kR vs)) w|none=>False
def kn (V:List Nat) (args:Array Value):qa:=fun i=>if i=gS then .tuple #[] else if i∈V then args.getD i undef else undef
theorem qtj {P : Program} {V : List Nat} {n : Nat} {ρ : qa} {a : Act} {w : World} (ha : Agree n V ρ a) {r : ResultVar} {x : RV} (hx : qcV P V r = some x) {v : Value} (hv : x.val ρ w = some v) :
    ((fun (r:ResultVar)=>(match r with
      | .tmp t=>pure (a.tmps.getD t undef)
      | .cell ad t=>do loadVar t (←asAddr (a.tmps.getD ad undef)):Sem Value)) r).run P w= .ok v w:=by
  cases r with
  |tmp t=>
    simp only [qcV] at hx;split at hx
    · rename_i hV;cases hx;have hV':t∈V:=by simpa using hV
      simp only [RV.val,Option.some.injEq] at hv;subst hv;rw [ha.at hV'];rfl
    · cases hx
  |cell ad t=>
    simp only [qcV] at hx;split at hx
    · rename_i hV;have hV':ad∈V:=by simpa using hV
      have hρ:ρ ad=a.tmps.getD ad undef:=ha.at hV';split at hx
      · rename_i i hg hi;cases hx;simp only [RV.val] at hv;obtain ⟨p,hp⟩:=qbE hv (.inl ⟨_,rfl⟩)
        have h1 := qcW (P := P) (w := w) (f := fun _ => ρ ad) (dst := none) (type := 0) (pos := "") (after := #[]) (guard := none) (a := .tmp 0) hg hi hv
        simp only [execOp,hp,Instr.loadAt,Instr.sureAddr,Sem.run_bind,Sem.run_pure,Result.andThen_ok] at h1;show ((asAddr (a.tmps.getD ad undef))>>=fun x=>loadVar t x).run P w=_;rw [←hρ,hp];simp only [asAddr,Sem.run_bind,Sem.run_pure,Result.andThen_ok];cases hr:(loadVar t p).run P w with
        |ok u w'=>rw [hr] at h1;simp only [Result.andThen_ok,Result.ok.injEq,Next.value.injEq] at h1;obtain ⟨rfl,rfl⟩:=h1;rfl
        |halt u w'=>rw [hr] at h1;cases h1
      · have hg:= ‹xP P t=some false›;cases hx;simp only [RV.val] at hv;obtain ⟨p,hp⟩:=qbE hv (.inr (.inl rfl))
        have h1 := qkf (P := P) (w := w) (f := fun _ => ρ ad) (dst := none) (type := 0) (pos := "") (after := #[]) (guard := none) (a := .tmp 0) hg hv
        simp only [execOp,hp,Instr.loadAt,Instr.sureAddr,Sem.run_bind,Sem.run_pure,Result.andThen_ok] at h1;show ((asAddr (a.tmps.getD ad undef))>>=fun x=>loadVar t x).run P w=_;rw [←hρ,hp];simp only [asAddr,Sem.run_bind,Sem.run_pure,Result.andThen_ok];cases hr:(loadVar t p).run P w with
        |ok u w'=>rw [hr] at h1;simp only [Result.andThen_ok,Result.ok.injEq,Next.value.injEq] at h1;obtain ⟨rfl,rfl⟩:=h1;rfl
        |halt u w'=>rw [hr] at h1;cases h1
      · cases hx
    · cases hx
theorem qj7 {P:Program} {V:List Nat} {n:Nat} {ρ:qa} {a:Act} {w:World} (j:Agree n V ρ a):∀{rs:List ResultVar} {xs:List RV} (_:vu P V rs=some xs) {vs:List Value} (_:vj ρ w xs=some vs),
    (rs.mapM (fun (r:ResultVar)=>(match r with
      | .tmp t=>pure (a.tmps.getD t undef)
      | .cell q t=>do loadVar t (←asAddr (a.tmps.getD q undef)):Sem Value))).run P w= .ok vs w
  |[],xs,b,vs,c=>by
    simp only [vu,Option.some.injEq] at b;subst b;simp only [vj,Option.some.injEq] at c;subst c;simp
  |r::rs,xs,b,vs,c=>by
    simp only [vu,Option.bind_eq_some_iff,Option.map_eq_some_iff] at b;obtain ⟨x,h,o,e,rfl⟩:=b;simp only [vj,Option.bind_eq_some_iff,Option.map_eq_some_iff] at c;obtain ⟨v,g,l,i,rfl⟩:=c;have k:=qtj j h g;have m:=qj7 j e i;simp only [List.mapM_cons,Sem.run_bind];simp only at k;rw [k];simp only [Result.andThen_ok,m,Sem.run_pure]
theorem qc1 {P:Program} {V:List Nat} {n:Nat} {ρ:qa} {a:Act} {w:World} (e:Agree n V ρ a) {fn:Func} {xs:List RV} (b:vu P V fn.results.toList=some xs) {vs:List Value} (i:vj ρ w xs=some vs):
    (results fn a.tmps).run P w= .ok (kR vs) w:=by
  have h:=qj7 (P:=P) e b i;unfold results;rw [Array.mapM_eq_mapM_toList]
  have c:(List.mapM (fun x=>(match x with
      | .tmp t=>pure (a.tmps.getD t undef)
      | .cell g t=>do loadVar t (←asAddr (a.tmps.getD g undef)):Sem Value)) fn.results.toList).run P w= .ok vs w:=h
  simp only [Sem.run_bind,Sem.run_map]
  erw [c]
  cases vs with
  |nil=>rfl
  |cons v vs=>cases vs with
    |nil=>rfl
    |cons u j=>rfl
def xG (fn:Func) (V:List Nat):Bool:=decide (fn.ntmps≤1000000000)&&V.all fun i=>decide (i<fn.ntmps)
theorem qex {fn:Func} {V:List Nat} (a:xG fn V=true) {args:Array Value} (c:args.size≤fn.ntmps):
    Agree fn.ntmps V (kn V args) {tmps:=args++Array.replicate (fn.ntmps - args.size) undef,defers:=[]}:=by
  simp only [xG,Bool.and_eq_true,decide_eq_true_eq,List.all_eq_true] at a;refine ⟨by simp;omega, ?_,a.2,a.1⟩;funext i;simp only [kn,kp];split
  · rfl
  split
  · simp only [Array.getD_eq_getD_getElem?,Array.getElem?_append];split
    · rfl
    · rename_i b;rw [Array.getElem?_eq_none (by omega)];simp only [Array.getElem?_replicate];split<;>rfl
  · rfl
theorem qqo {P:Program} {f:FuncId} {fn:Func} {V g:List Nat} {ir j:IR} {rs:List RV} {c:Code} (q:P.funcs[f]? =some fn) (u:fn.body=some c) (s:qN P fn.ntmps V g c=some j)
    (x:j.norm=ir) (t:xG fn V=true) (o:vu P V fn.results.toList=some rs) {args:Array Value} (m:args.size≤fn.ntmps) {w:World} {R:Ending→World→Prop}
    (h:ir.wp ⟨P,fn.ntmps,V,[]⟩ (qz rs R) ⟨fun _ _ _=>False,qz rs R,fun _ c w=>R (.panicked c) w,∀w,R .outgrown w,False,True⟩ (kn V args) w):Calls P f args w R:=by
  refine calls_of_wp q u ?_;subst x;rw [IR.norm_wp] at h;refine wp_mono (qeg ⟨P,fn.ntmps,V,[]⟩ g c j s _ _ _ _ w (fun h:False=>h.elim) (qex t m) (fun _=>rfl) h) ?_;have b:∀(a:Act) (w:World),(jQ ⟨P,fn.ntmps,V,[]⟩ a∧∃ρ,Agree fn.ntmps V ρ a∧qz rs R ρ w)→a.defers=[]∧∃v,(results fn a.tmps).run P w= .ok v w∧R (.returned v) w:=by
    rintro a w ⟨z,ρ,y,l⟩;simp only [qz] at l;split at l
    · rename_i vs n;exact ⟨z rfl,_,qc1 y o n,l⟩
    · cases l
  intro e a w k;cases e with
  |normal=>exact b a w k
  |ret=>exact b a w k
  |exit i=>obtain ⟨_,_,_,q⟩:=k;exact q
  |goto i=>exact k
  |panic c=>exact ⟨k.1 rfl,let ⟨_,_,h⟩:=k.2;h⟩
  |outgrown=>exact (show∀w,R .outgrown w from k) w
def jK (P:Program) (rs:List RV) (R:Ending→World→Prop) (ρ:qa):List Value→FrameMode→World→Prop
  |[], .returning,w=>match vj ρ w rs with|some vs=>R (.returned (kR vs)) w|none=>False
  |[], .panicking chain,w=>R (.panicked chain) w
  |[], .run,_=>False
  | .int _ r::ds,u,w=>u≠ .run∧∃w',(Instr.takeDeferred r.toNat).run P w= .ok [] w'∧jK P rs R ρ ds u w'
  | .func f args caps::ds,u,w=>u≠ .run∧∃f' args',(invoke (.fn f caps) args).run P w= .ok (.enter f' args') w∧CallsDIn Fence.wide 0 P f' args' u w fun
      | .returned _,u',w'=>jK P rs R ρ ds (settle u') w'
      | .panicked chain,u',w'=>jK P rs R ρ ds (raised u' chain) w'
      | .outgrown,_,w'=>R .outgrown w'
  |_,_,_=>False
def jH (P:Program) (rs:List RV) (R:Ending→World→Prop) (u:FrameMode):qa→World→Prop:=
  fun ρ w=>match ρ gS with| .tuple ds=>jK P rs R ρ ds.toList u w|_=>False
theorem qdu {P:Program} {V:List Nat} {n:Nat} {ρ:qa} {a:Act} {fn:Func} {rs:List RV} (j:Agree n V ρ a) (g:vu P V fn.results.toList=some rs) {R:Ending→World→Prop}:
    ∀(l:List Deferred) (u:FrameMode) (w:World),jK P rs R ρ (l.map yY) u w→LeavesInM Fence.wide 0 P fn a.tmps R l u w
  |[],u,w,h=>by
    cases u with
    |run=>exact h
    |returning=>
      simp only [List.map_nil,jK] at h;split at h
      · rename_i vs k;exact ⟨_,qc1 j g k,h⟩
      · cases h
    |panicking c=>exact h
  | d :: l, u, w, h => by
    obtain ⟨t,args⟩:=d;cases t with
    |collected r=>
      simp only [List.map_cons,yY,jK] at h;obtain ⟨m,w',A,h⟩:=h;exact ⟨m, .inl ⟨r,w',rfl,by simpa using A,qdu j g l u w' h⟩⟩
    |fn f caps=>
      simp only [List.map_cons,yY,jK] at h;obtain ⟨m,B,i,C,s⟩:=h;refine ⟨m, .inr ⟨fun q=>(by cases q),f,caps,B,i,rfl,C,fun _ _=>trivial,s.mono fun e E w' o=> ?_⟩⟩;cases e with
      |returned v=>exact qdu j g l _ w' o
      |panicked c=>exact qdu j g l _ w' o
      |outgrown=>exact o
    |nil=>simp only [List.map_cons,yY,jK] at h
    |builtin b x y z=>simp only [List.map_cons,yY,jK] at h
    |coroexit c=>simp only [List.map_cons,yY,jK] at h
def vD (P:Program) (rs:List RV) (R:Ending→World→Prop):Ks:=⟨fun _ _ _=>False,jH P rs R .returning,fun ρ c w=>jH P rs R (.panicking c) ρ w,∀w,R .outgrown w,True,True⟩
def ww:List Deferred:=[⟨.nil, #[]⟩]
theorem qqn {P:Program} {f:FuncId} {fn:Func} {V g:List Nat} {ir j:IR} {rs:List RV} {c:Code} (o:P.funcs[f]? =some fn) (x:fn.body=some c) (t:qN P fn.ntmps V g c=some j)
    (y:j.norm=ir) (v:xG fn V=true) (m:vu P V fn.results.toList=some rs) {args:Array Value} (l:args.size≤fn.ntmps) {w:World} {R:Ending→World→Prop}
    (h:ir.wp ⟨P,fn.ntmps,V,ww⟩ (jH P rs R .returning) (vD P rs R) (kn V args) w):Calls P f args w R:=by
  refine (callsIn_wide (n:=0)).1 (callsIn_of_wp_marks o x trivial (wpIn_wide.2 ?_));subst y;rw [IR.norm_wp] at h;refine wp_mono (qeg ⟨P,fn.ntmps,V,ww⟩ g c j t _ _ _ _ w (fun _ h=>(by cases h)) (qex v l) (fun h=>(by cases h)) h) ?_;have b:∀(u:FrameMode) (a:Act) (w:World),(∃ρ,Agree fn.ntmps V ρ a∧jH P rs R u ρ w)→LeavesInM Fence.wide 0 P fn a.tmps R a.defers u w:=by
    rintro u a w ⟨ρ,s,q⟩;simp only [jH,s.ds,qaP] at q;exact qdu s m _ _ _ q
  intro e a w k;cases e with
  |normal=>exact b _ a w k.2
  |ret=>exact b _ a w k.2
  |exit i=>obtain ⟨_,_,_,o⟩:=k;exact o
  |goto i=>exact k
  |panic c=>exact b _ a w k.2
  |outgrown=>exact (show∀w,R .outgrown w from k) w
end Go.Eng
