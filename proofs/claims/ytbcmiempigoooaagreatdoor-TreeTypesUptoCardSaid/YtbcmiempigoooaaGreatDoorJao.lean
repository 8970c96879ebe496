/- Texts of mine for the claims about layer 2 (tree), joined: EngO. -/
import Derived.Test.YtbcmiempigoooaaGreatDoorJan
set_option linter.all false
set_option linter.unusedSimpArgs false
set_option linter.unusedVariables false
namespace Go.Eng
open Go.RowKit
def rfList:Code→List Code
  | .seq a b| .cond _ a b=>rfList a++rfList b
  | .block _ c| .loop c| .scope c=>rfList c
  | .rangeFunc f p a b=>[.rangeFunc f p a b]
  |_=>[]
def rfA:Code→Code| .rangeFunc _ _ a _=>a|_=> .skip
def rfB:Code→Code| .rangeFunc _ _ _ b=>b|_=> .skip
structure LoopB (W:World) (l Db:Nat) (r:Loop):Prop where
  rcd:W.heap[l]? =some (.loop r)
  col:W.heap[Db]? =some (.deferred (some []))
section
variable {W W':World} {l Db:Nat} {r:Loop}
theorem LoopB.lt (h:LoopB W l Db r):l<W.heap.size∧Db<W.heap.size:=⟨(Array.getElem?_eq_some_iff.1 h.rcd).1,(Array.getElem?_eq_some_iff.1 h.col).1⟩
theorem LoopB.ne (h:LoopB W l Db r):l≠Db:=by rintro rfl;have:=h.rcd.symm.trans h.col;cases this
theorem LoopB.ext (h:LoopB W l Db r) (hE:Ext W W'):LoopB W' l Db r:=⟨(hE.block l h.lt.1).trans h.rcd,(hE.block Db h.lt.2).trans h.col⟩
theorem LoopB.keep (h:LoopB W l Db r) (h1:W'.heap[l]? =W.heap[l]?) (h2:W'.heap[Db]? =W.heap[Db]?):LoopB W' l Db r:=⟨h1.trans h.rcd,h2.trans h.col⟩
theorem LoopB.put (h:LoopB W l Db r) (r':Loop):LoopB (W.putObj l (.loop r')) l Db r':=⟨World.putObj_heap_same h.lt.1,(World.putObj_heap_other h.ne.symm).trans h.col⟩
theorem only_putObj (W:World) (l:Nat) (o:Obj):Only l W (W.putObj l o):=⟨rfl,rfl,rfl,by simp,fun _ hk=>World.putObj_heap_other hk⟩
end
def YieldR (P:Program) (l:Nat) (args:Array Value) (W:World) (R:Ending→World→Prop):Prop:=
  ∃fn tmps assign body,(Instr.yield l args).run P W= .ok (.round l fn tmps assign body) W∧RoundIn Fence.wide 0 P l fn tmps assign body W R
theorem YieldR.mono {P:Program} {l:Nat} {args:Array Value} {W:World} {R R':Ending→World→Prop} (h:YieldR P l args W R) (hr:∀e w,R e w→R' e w):YieldR P l args W R':=by
  obtain ⟨fn,tmps,as,bd,h1,h2⟩:=h
  exact ⟨fn,tmps,as,bd,h1,h2.mono hr⟩
section
variable {P:Program} {Q:Ks} {d:Option Nat} {ty:TypeId} {K:Env→World→Prop} {ρ:Env} {w:World}
theorem eff_yield {args:Array Operand} {ats:Array TypeId} {t l:Nat} (hc:ρ t= .func (.yield l) #[] #[]) (hrd:Q.rd) (hk:YieldR P l (args.map (evE ρ)) w (callK Q d K ρ)):
    effW P Q d (.call {callee:= .value (.tmp t),args:=args,argTypes:=ats}) ty K ρ w:=by
  obtain ⟨fn,tmps,as,bd,h1,h2⟩:=hk
  show effE P Q d _ ty K ρ w
  unfold effE
  have:(execOp (evE ρ) (effOp d (.call {callee:= .value (.tmp t),args:=args,argTypes:=ats}) ty)).run P w= .ok (.round l fn tmps as bd) w:=by
    simp [execOp,effOp,resolve,hc,Deferred.ofValue,invoke,h1]
  rw [this]
  exact ⟨hrd,h2.mono fun e w' hh=>by cases e<;>exact hh⟩
end
@[simp] theorem gS_eq (n:Nat) (h:n<1000000000):(gS=n)=False:=by unfold gS;simp;omega
@[simp] theorem eq_gS (n:Nat) (h:n<1000000000):(n=gS)=False:=by unfold gS;simp;omega
theorem LoopB.ready {W:World} {l Db:Nat} {r:Loop} (h:LoopB W l Db {r with state:= .ready,pending:=none}) (h1:r.state= .ready) (h2:r.pending=none):LoopB W l Db r:=by
  cases r;simp only at h1 h2;subst h1;subst h2;exact h
theorem LoopB.ready' {W:World} {l Db:Nat} {r:Loop} (h:LoopB W l Db r) (h1:r.state= .ready) (h2:r.pending=none):LoopB W l Db {r with state:= .ready,pending:=none}:=by
  cases r;simp only at h1 h2;subst h1;subst h2;exact h
def parEnv (ρ:Env):List Nat→List Value→Env
  |p::ps,v::vs=>parEnv (upd ρ p v) ps vs
  |_,_=>ρ
def roundKs (l Db:Nat) (r:Loop) (R:Ending→World→Prop):Ks:=
  ⟨fun i _ W3=>LoopB W3 l Db {r with state:= .busy}∧∀W4,Only l W3 W4→LoopB W4 l Db {r with state:= .done,pending:=some (.exit i)}→R (.returned (.bool false)) W4,
   fun _ W3=>LoopB W3 l Db {r with state:= .busy}∧∀W4,Only l W3 W4→LoopB W4 l Db {r with state:= .done,pending:=some .ret}→R (.returned (.bool false)) W4,
   fun _ _ _=>False,False,False,True⟩
def roundK (l Db:Nat) (r:Loop) (R:Ending→World→Prop):Env→World→Prop:=
  fun _ W3=>LoopB W3 l Db {r with state:= .busy}∧∀W4,Only l W3 W4→LoopB W4 l Db {r with state:= .ready,pending:=none}→R (.returned (.bool true)) W4
def noKs:Ks:=⟨fun _ _ _=>False,fun _ _=>False,fun _ _ _=>False,False,False,True⟩
@[simp] theorem roundKs_df (l Db:Nat) (r:Loop) (R:Ending→World→Prop):(roundKs l Db r R).df=False:=rfl
@[simp] theorem roundKs_rd (l Db:Nat) (r:Loop) (R:Ending→World→Prop):(roundKs l Db r R).rd=True:=rfl
@[simp] theorem noKs_rd:noKs.rd=True:=rfl
theorem agree_params {n:Nat} {V:List Nat}:∀(ps:List Nat) (vs:List Value) (ρ:Env) (a:Act),Agree n V ρ a→(∀p∈ps,p∈V)→
    Agree n V (parEnv ρ ps vs) {a with tmps:=(ps.zip vs).foldl (fun t (x:Nat×Value)=>t.setIfInBounds x.1 x.2) a.tmps}
  |[],vs,ρ,a,h,_=>by cases vs<;>exact h
  |p::ps,[],ρ,a,h,_=>h
  |p::ps,v::vs,ρ,a,h,hp=>by
    have h1:=h.put (hp p (by simp)) v
    exact agree_params ps vs _ (a.put (some p) v) h1 fun x hx=>hp x (by simp [hx])
theorem agree_noDef {n:Nat} {V:List Nat} {ρ:Env} {a:Act} (h:Agree n V ρ a):Agree n V (upd ρ gS (.tuple #[])) {a with defers:=[]}:=by
  refine ⟨h.size, ?_,h.lt,h.big⟩
  rw [h.env]
  funext i
  simp only [upd,envOf]
  split<;>rfl
structure Part (P:Program) (n:Nat) (V:List Nat) (c:Code) (ir:IR):Prop where
  ok:(comp P n V [] c).map IR.norm=some ir
  plain:plainB c=true
theorem part_sem {P:Program} {n:Nat} {V:List Nat} {c:Code} {ir:IR} (h:Part P n V c ir) (ro:Option Nat) {K:Env→World→Prop} {Q:Ks} {ρ:Env} {a:Act} {w:World} (hdf:¬Q.df)
    (ha:Agree n V ρ a) (hD:a.defers=[]) (hw:ir.wp ⟨P,n,V,[]⟩ K Q ρ w):c.wpIn (fc ro) 0 P (lift ⟨P,n,V,[]⟩ K Q) a w:=by
  obtain ⟨ir0,h1,h2⟩:=Option.map_eq_some_iff.1 h.ok
  subst h2
  rw [IR.norm_wp] at hw
  exact comp_semR ⟨P,n,V,[]⟩ ro [] c ir0 h1 (.inr ⟨h.plain,rfl⟩) K Q ρ a w (fun h=>absurd h hdf) ha (fun _=>hD) hw
theorem roundIn_n {P:Program} {m l f:Nat} {tmps:Array Value} {as bd:Code} {w:World} {R:Ending→World→Prop} (h:RoundIn (fc none) m P l f tmps as bd w R):RoundIn Fence.wide 0 P l f tmps as bd w R:=
  ⟨trivial,fun c cs _=>h.2 c cs (room_wide _)⟩
theorem yield_of {P:Program} {n:Nat} {V:List Nat} {l Db:Nat} {r:Loop} {ρ:Env} {a:Act} {irA irB:IR} {args:Array Value} {W:World} {R:Ending→World→Prop} {ps:Array Tmp} (hL:LoopB W l Db r) (hst:r.state= .ready)
    (ha:Agree n V ρ a) (hat:r.tmps=a.tmps) (hrp:r.params=ps) (hps:args.size=ps.size) (hpV:∀p∈ps.toList,p∈V) (hA:Part P n V r.assign irA) (hB:Part P n V r.body irB)
    (h:irA.wp ⟨P,n,V,[]⟩ (fun ρ1 W1=>LoopB W1 l Db r∧∀W2,Only l W1 W2→LoopB W2 l Db {r with state:= .busy}→irB.wp ⟨P,n,V,[]⟩ (roundK l Db r R) (roundKs l Db r R) ρ1 W2) noKs (parEnv (upd ρ gS (.tuple #[])) ps.toList args.toList) W):
    YieldR P l args W R:=by
  subst hrp
  refine ⟨_,_,_,_,run_yield hL.rcd hps,roundIn_n (m:=0) (roundIn_of_wpIn (F:=fc none) trivial ?_)⟩
  have ha2:=agree_params r.params.toList args.toList _ _ (agree_noDef ha) hpV
  have e1:((r.params.zip args).foldl (fun tmps (t,a)=>tmps.setIfInBounds t a) r.tmps)=((r.params.toList.zip args.toList).foldl (fun t (x:Nat×Value)=>t.setIfInBounds x.1 x.2) a.tmps):=by
    rw [←Array.foldl_toList,←hat]
    simp
  simp only [e1]
  refine wpIn_mono (part_sem hA (some l) (fun h=>h) ha2 rfl h) ?_
  intro e a1 W1 he
  cases e with
  |normal=>
    obtain ⟨hD,ρ1,ha1,hL1,hk⟩:=he
    refine ⟨_,run_beginRound hL1.rcd hst, ?_⟩
    refine wpIn_mono (part_sem hB (some l) (fun h=>h) ha1 (hD rfl) (hk _ (only_putObj _ _ _) (hL1.put _))) ?_
    intro e a3 W3 he
    cases e with
    |normal=>
      obtain ⟨_,_,_,hL3,hk3⟩:=he
      exact ⟨_,_,run_endRound none hL3.rcd,by simpa using hk3 _ (only_putObj _ _ _) (hL3.put _)⟩
    |ret=>
      obtain ⟨_,_,_,hL3,hk3⟩:=he
      exact ⟨_,_,run_endRound (some .ret) hL3.rcd,by simpa using hk3 _ (only_putObj _ _ _) (hL3.put _)⟩
    |exit i=>
      obtain ⟨_,_,_,hL3,hk3⟩:=he
      exact ⟨_,_,run_endRound (some (.exit i)) hL3.rcd,by simpa using hk3 _ (only_putObj _ _ _) (hL3.put _)⟩
    |goto i=>exact False.elim he
    |panic c=>exact he.2.elim fun _ h=>h.2
    |outgrown=>exact he
  |exit i=>exact he.2.elim fun _ h=>h.2
  |ret=>exact he.2.elim fun _ h=>h.2
  |goto i=>exact he
  |panic c=>exact he.2.elim fun _ h=>h.2
  |outgrown=>exact he
def markD (Db:Nat):Deferred:=⟨.collected Db, #[]⟩
def loopEnd (cx:Cx) (l Db:Nat) (r:Loop) (K:Env→World→Prop) (Q:Ks) (ρ:Env):Ending→World→Prop
  | .returned _,W3=>∃st pend,st≠LoopState.busy∧LoopB W3 l Db {r with state:=st,pending:=pend}∧∀W4,Only l W3 W4→LoopB W4 l Db {r with state:= .exhausted,pending:=pend}→
      match pend with
      |none=>K ρ W4
      |some .ret=>Q.rt ρ W4
      |some (.exit i)=>Q.ex i ρ W4
      |_=>False
  | .panicked c,W3=>Q.pn ρ c W3
  | .outgrown,_=>Q.og
@[simp] theorem consD_mark (Db:Nat) (vs:Array Value):consD (markD Db) (.tuple vs)= .tuple (.int .i64 Db::vs.toList).toArray:=rfl
theorem leaves_mark {P:Program} {rs:List RV} {R:Ending→World→Prop} {ρ:Env} {ds:List Value} {u:FrameMode} {w:World} {k:IntKind} {Db:Nat} (hu:u≠ .run) (hb:w.heap[Db]? =some (.deferred (some [])))
    (h:∀w',Only Db w w'→LeavesV P rs R ρ ds u w'):LeavesV P rs R ρ (.int k Db::ds) u w:=by
  refine ⟨hu,_, ?_,h _ (only_putObj w Db (.deferred none))⟩
  simpa using run_takeDeferred (P:=P) hb
theorem end_none {P:Program} {rs:List RV} {R:Ending→World→Prop} {ρ:Env} {w:World} (hg:ρ gS= .tuple #[]) (h:retK rs R ρ w):endK P rs R .returning ρ w:=by
  simp only [endK,hg]
  exact h
end Go.Eng
