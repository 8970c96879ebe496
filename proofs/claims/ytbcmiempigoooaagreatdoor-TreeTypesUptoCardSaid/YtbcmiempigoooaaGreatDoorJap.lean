/- Texts of mine for the claims about layer 2 (tree), joined: EngQ. -/
import Derived.Test.YtbcmiempigoooaaGreatDoorJao
import Derived.WideLaws
set_option linter.all false
set_option linter.unusedSimpArgs false
set_option linter.unusedVariables false
namespace Go.Eng
open Go.RowKit
def isRec:Op→Bool
  | .call {callee:= .builtin .recover,args, .. }=>args.isEmpty
  |_=>false
def recHead (ops:Array Oper):Bool:=match ops[0]? with|some o=>isRec o.op&&o.guard.isNone|none=>false
def swapOps (v:Value) (ops:Array Oper):Array Oper:=match ops[0]? with|some o=>ops.setIfInBounds 0 {o with op:= .move (.const v)}|none=>ops
def swapRec (v:Value):Code→Code
  | .seq a b=> .seq (swapRec v a) b
  | .region id ops d=> .region id (swapOps v ops) d
  |c=>c
def recV:FrameMode→Value
  | .panicking ({v,recovered:=false,goexit:=false}::_)=>v
  |_=> .nilIface
def recU:FrameMode→FrameMode
  | .panicking ({v,recovered:=false,goexit:=false}::older)=> .panicking ({v,recovered:=true}::older)
  |u=>u
theorem recoverD_of (c : Frame) (cs : List Frame) : (match recoverD (c :: cs) with | some (v, cs') => (v, cs') | none => (Value.nilIface, c :: cs)) = (recV c.mode, { c with mode := recU c.mode } :: cs) := by
  unfold recoverD
  split
  · rename_i v cs' h
    simp only at h
    split at h
    · rename_i v0 older hm
      cases h
      simp [hm,recV,recU]
    · cases h
  · rename_i h
    simp only at h
    split at h
    · cases h
    · rename_i hm
      have h1:recV c.mode= .nilIface∧recU c.mode=c.mode:=by
        unfold recV recU
        constructor
        · split
          · rename_i v older hh;exact absurd hh (hm v older)
          · rfl
        · split
          · rename_i v older hh;exact absurd hh (hm v older)
          · rfl
      rw [h1.1,h1.2]
theorem swapOps_get {v:Value} {ops:Array Oper} {i:Nat} (hi:i≠0):(swapOps v ops)[i]? =ops[i]? :=by
  unfold swapOps
  split
  · rw [Array.getElem?_setIfInBounds_ne (Ne.symm hi)]
  · rfl
theorem swapOps_size (v:Value) (ops:Array Oper):(swapOps v ops).size=ops.size:=by unfold swapOps;split<;>simp
theorem swapOps_zero {v:Value} {ops:Array Oper} {o:Oper} (h:ops[0]? =some o):(swapOps v ops)[0]? =some {o with op:= .move (.const v)}:=by
  have hlt:=(Array.getElem?_eq_some_iff.1 h).1
  unfold swapOps
  simp only [h]
  rw [Array.getElem?_setIfInBounds_self_of_lt hlt]
theorem swap_dst (v:Value) (ops:Array Oper) (i:Nat):((swapOps v ops)[i]?).bind (·.dst)=(ops[i]?).bind (·.dst):=by
  by_cases hi:i=0
  · subst hi
    cases h:ops[0]? with
    |none=>unfold swapOps;simp [h]
    |some o=>rw [swapOps_zero h];rfl
  · rw [swapOps_get hi]
theorem swap_yielded (v:Value) (ops:Array Oper) (t:Array Value):yielded (swapOps v ops) t=yielded ops t:=by
  funext i
  simp only [yielded,swap_dst]
theorem wpOpsIn_swap {F:Fence} {P:Program} {v:Value} {ops:Array Oper} {Q:Exit→Act→World→Prop}:∀(l:List Nat),(∀i∈l,i≠0)→wpOpsIn F 0 P (swapOps v ops) Q l=wpOpsIn F 0 P ops Q l
  |[],_=>rfl
  |i::l,h=>by
    have ih:=wpOpsIn_swap (F:=F) (P:=P) (v:=v) (ops:=ops) (Q:=Q) l fun x hx=>h x (by simp [hx])
    funext a w
    simp only [wpOpsIn,swapOps_get (h i (by simp)),swap_yielded,ih]
section
variable {P:Program} {Q:Exit→Act→World→Prop} {a:Act} {w:World}
theorem wpSIn_rec {id : Nat} {ops : Array Oper} (c : Frame) (cs : List Frame) (hrec : recHead ops = true) (h : wpOpsIn (fc none) 0 P (swapOps (recV c.mode) ops) Q (List.range (swapOps (recV c.mode) ops).size) a w) :
    (Code.region id ops false).wpSIn Fence.wide 0 P (fun e a' cs' w'=>cs'={c with mode:=recU c.mode}::cs∧Q e a' w') a (c::cs) w:=by
  intro b k hb hro hF hroom
  unfold recHead at hrec
  cases ho:ops[0]? with
  |none=>simp [ho] at hrec
  |some o=>
    simp only [ho,Bool.and_eq_true] at hrec
    obtain ⟨hr1,hg⟩:=hrec
    have hg':o.guard=none:=by simpa using hg
    have hlt:=(Array.getElem?_eq_some_iff.1 ho).1
    obtain ⟨m,hm⟩:∃m,ops.size=m+1:=⟨ops.size - 1,by omega⟩
    rw [swapOps_size,hm,List.range_succ_eq_map] at h
    simp only [wpOpsIn,swapOps_zero ho] at h
    have hw0:∀t,Region.wanted {o with op:=Op.move (.const (recV c.mode))} (yielded (swapOps (recV c.mode) ops) t)=true:=fun t=>by simp [Region.wanted,hg']
    rw [if_pos (hw0 _)] at h
    simp only [Oper.wpIn] at h
    have hex:(Oper.semAt (fc none).round a.eval {o with op:=Op.move (.const (recV c.mode))}).run P w= .ok (.value (recV c.mode)) w:=by
      show (execOp a.eval {o with op:=Op.move (.const (recV c.mode))}).run P w=_
      simp [execOp,Act.eval]
    rw [hex] at h
    simp only [Oper.uponIn] at h
    rw [wpOpsIn_swap _ (by simp)] at h
    obtain ⟨e,a',w',hq,harr⟩:=wp_opsIn (F:=Fence.wide) (n:=0) _ _ _ h.2 b k ({c with mode:=recU c.mode}::cs) hro trivial (room_wide _)
    refine ⟨e,a',{c with mode:=recU c.mode}::cs,w',rfl,⟨rfl,hq⟩, .of_steps (.one (fenced_wide _ _) stepR_region) (.of_steps (.one (fenced_wide _ _) ?_) harr)⟩
    have hops:List.range ops.size=0::(List.range m).map Nat.succ:=by rw [hm,List.range_succ_eq_map]
    rw [hops]
    refine step_lone_go ?_
    have hwant:Region.wanted o (yielded ops a.tmps)=true:=by simp [Region.wanted,hg']
    rw [stepGR_op ho hwant,hro,Oper.semAt_none]
    have hrun:(execOp a.eval o).run P w= .ok .recover w:=by
      obtain ⟨dst,op,type,pos,after,guard⟩:=o
      simp only at hr1
      unfold isRec at hr1
      split at hr1
      · rename_i args ats
        have:args= #[]:=by simpa using hr1
        subst this
        simp [execOp,resolve,invoke,builtin]
      · cases hr1
    have hfin:∀v,(b.atR a (.inRegion ops (0::(List.range m).map Nat.succ)::k)).finish v=b.atR (a.put o.dst v) (.inRegion ops ((List.range m).map Nat.succ)::k):=by
      intro v;rw [Frame.finish_atR,ho];rfl
    have hk:(b.atR a (.inRegion ops (0::(List.range m).map Nat.succ)::k)).kind= .deferred:=hb
    have htr:=tryRecover_deferred hk (c::cs)
    have hrd:=recoverD_of c cs
    simp only [←hfin]
    simp only [Frame.atR,hro] at htr⊢
    cases hrc:recoverD (c::cs) with
    |none=>
      rw [hrc] at htr hrd
      simp only [Prod.mk.injEq] at hrd
      simp [stepG.apply,hrun,htr,←hrd.1,←hrd.2]
    |some p=>
      rw [hrc] at htr hrd
      simp only [Prod.mk.injEq] at hrd
      simp [stepG.apply,hrun,htr,←hrd.1,←hrd.2]
end
def recK (rs:List RV) (u':FrameMode) (R:Ending→FrameMode→World→Prop):Env→World→Prop:=retK rs fun e w=>R e u' w
def recKs (rs:List RV) (u':FrameMode) (R:Ending→FrameMode→World→Prop):Ks:=⟨fun _ _ _=>False,recK rs u' R,fun _ c w=>R (.panicked c) u' w,∀w,R .outgrown u' w,False,True⟩
@[simp] theorem recKs_rt (rs:List RV) (u':FrameMode) (R:Ending→FrameMode→World→Prop):(recKs rs u' R).rt=recK rs u' R:=rfl
@[simp] theorem recKs_pn (rs:List RV) (u':FrameMode) (R:Ending→FrameMode→World→Prop) (ρ:Env) (c:List PanicEntry) (w:World):(recKs rs u' R).pn ρ c w=R (.panicked c) u' w:=rfl
@[simp] theorem recKs_rd (rs:List RV) (u':FrameMode) (R:Ending→FrameMode→World→Prop):(recKs rs u' R).rd=True:=rfl
@[simp] theorem recK0 (u':FrameMode) (R:Ending→FrameMode→World→Prop) (ρ:Env) (w:World):recK [] u' R ρ w=R (.returned (.tuple #[])) u' w:=rfl
section
variable {P:Program} {Q:Ks} {d:Option Nat} {ty:TypeId} {K:Env→World→Prop} {ρ:Env} {w:World}
theorem eff_panic {x:Operand} {t:TypeId} {v:Value} (hx:evE ρ x= .iface t v) (h:Q.pn ρ [{v:= .iface t v,recovered:=false}] w):effW P Q d (.panic x) ty K ρ w:=by
  show effE P Q d _ ty K ρ w
  unfold effE
  have:(execOp (evE ρ) (effOp d (.panic x) ty)).run P w= .halt (.panic (.iface t v)) w:=by
    simp [execOp,effOp,hx,Instr.panic]
  rw [this]
  exact h
theorem eff_defer {t:Nat} {f:FuncId} {caps:Array Value} (hx:ρ t= .func (.func f) #[] caps) (hdf:Q.df) (h:K (updO (upd ρ gS (consD ⟨.fn (.func f) caps, #[]⟩ (ρ gS))) d undef) w):
    effW P Q d (.defer {callee:= .value (.tmp t),args:= #[],argTypes:= #[]}) ty K ρ w:=by
  show effE P Q d _ ty K ρ w
  unfold effE
  have:(execOp (evE ρ) (effOp d (.defer {callee:= .value (.tmp t),args:= #[],argTypes:= #[]}) ty)).run P w= .ok (.defer ⟨.fn (.func f) caps, #[]⟩) w:=by
    simp [execOp,effOp,resolve,hx,Deferred.ofValue]
  rw [this]
  exact ⟨hdf,h⟩
@[simp] theorem consD_fn (f:Fn) (caps args:Array Value) (vs:Array Value):consD ⟨.fn f caps,args⟩ (.tuple vs)= .tuple (.func f args caps::vs.toList).toArray:=rfl
theorem leaves_ret {rs:List RV} {R:Ending→World→Prop} (h:retK rs R ρ w):LeavesV P rs R ρ [] .returning w:=h
end
section
variable {P:Program} {Q:Ks} {d:Option Nat} {ty:TypeId} {K:Env→World→Prop} {ρ:Env} {w:World}
theorem eff_assert {x:Operand} {xt a:TypeId} {v:Value} {ds:TypeDesc} (ha:P.underlying a=some ds) (hd:∀m,ds≠ .interface m) (hx:evE ρ x= .iface a v) (h:K (updO ρ d (.tuple #[v, .bool true])) w):
    effW P Q d (.typeAssert x xt a true) ty K ρ w:=by
  refine effE_ok (v:= .tuple #[v, .bool true]) (w':=w) ?_ h
  cases ds<;>first|exact absurd rfl (hd _)|simp [execOp,effOp,hx,Instr.typeAssert,run_underlying ha]
theorem eff_eqlNilI {x:Operand} {t t2:TypeId} (ht:P.underlying t=some (.interface (P.methodsAt t))) (h:evE ρ x= .nilIface) (hk:K (updO ρ d (.bool true)) w):effW P Q d (.binOp .eql t x (.const .nilIface) t2) ty K ρ w:=by
  refine effE_ok (v:= .bool true) (w':=w) ?_ hk
  have:=run_equal_nil_nil (P:=P) (w:=w) t ht
  simp [execOp,effOp,h,eqGuard_nil_constR,binOp,this]
theorem eff_eqlNilI' {x:Operand} {t t2 u:TypeId} {v:Value} (ht:P.underlying t=some (.interface (P.methodsAt t))) (h:evE ρ x= .iface u v) (hk:K (updO ρ d (.bool false)) w):effW P Q d (.binOp .eql t x (.const .nilIface) t2) ty K ρ w:=by
  refine effE_ok (v:= .bool false) (w':=w) ?_ hk
  have:=run_equal_held_nil (P:=P) (w:=w) t u v ht
  simp [execOp,effOp,h,eqGuard,binOp,this]
end
theorem LeavesV.congr {P:Program} {rs:List RV} {R:Ending→World→Prop} {ρ ρ':Env} (he:∀w,resVals ρ w rs=resVals ρ' w rs):∀(ds:List Value) (u:FrameMode) (w:World),LeavesV P rs R ρ ds u w→LeavesV P rs R ρ' ds u w
  |[],u,w,h=>by
    cases u with
    |run=>exact h
    |returning=>simp only [LeavesV] at h⊢;rw [←he];exact h
    |panicking c=>exact h
  | d :: ds, u, w, h => by
    cases d<;>simp only [LeavesV] at h⊢ <;>first|exact h|skip
    · exact ⟨h.1,let ⟨w',h2,h3⟩:=h.2;⟨w',h2,LeavesV.congr he ds u w' h3⟩⟩
    · obtain ⟨h1,f',args',h2,h3⟩:=h
      refine ⟨h1,f',args',h2,h3.mono fun e u' w' hh=> ?_⟩
      cases e with
      |returned v=>exact LeavesV.congr he ds _ _ hh
      |panicked c=>exact LeavesV.congr he ds _ _ hh
      |outgrown=>exact hh
theorem endK_upd {P:Program} {rs:List RV} {R:Ending→World→Prop} {u:FrameMode} {ρ:Env} {d:Nat} {v:Value} {w:World} (hd:d≠gS) (he:∀w,resVals (upd ρ d v) w rs=resVals ρ w rs) (h:endK P rs R u (upd ρ d v) w):endK P rs R u ρ w:=by
  unfold endK at*
  rw [upd_ne _ _ _ _ (Ne.symm hd)] at h
  split at h
  · exact LeavesV.congr he _ _ _ h
  · cases h
def qE (P:Program) (w0:World) (dst:Option Nat) (op:Op) (ty:TypeId) (r:List St) (K:Env→Prop) (ρ:Env):Prop:=∃v,qeff P w0 dst op ty ρ v∧qwps P w0 r K (updO ρ dst v)
theorem qwps_nil {P:Program} {w0:World} {K:Env→Prop} {ρ:Env}:qwps P w0 [] K ρ=K ρ:=rfl
theorem qwps_asg {P:Program} {w0:World} {K:Env→Prop} {ρ:Env} {g:Option (Nat×Bool)} {d:Nat} {e:Ex} {r:List St}:qwps P w0 (.asg g d e::r) K ρ=if gd ρ g then onV (e.ev ρ w0) (fun v=>qwps P w0 r K (upd ρ d v)) else qwps P w0 r K (upd ρ d undef):=rfl
theorem qwps_eff {P:Program} {w0:World} {K:Env→Prop} {ρ:Env} {g:Option (Nat×Bool)} {d:Option Nat} {op:Op} {ty:TypeId} {r:List St}:qwps P w0 (.eff g d op ty::r) K ρ=if gd ρ g then qE P w0 d op ty r K ρ else qwps P w0 r K (updO ρ d undef):=rfl
theorem qE_call {P:Program} {w0:World} {K:Env→Prop} {ρ:Env} {d:Option Nat} {ty:TypeId} {r:List St} {f:FuncId} {args:Array Operand} {ats:Array TypeId} (v:Value) (hc:callB P f=true)
    (h:∀w,Ext w0 w→Calls P f (args.map (evE ρ)) w (fun e w'=>e= .returned v∧Ext w0 w')) (hk:qwps P w0 r K (updO ρ d v)):qE P w0 d (.call {callee:= .value (.func f),args:=args,argTypes:=ats}) ty r K ρ:=⟨v,⟨hc,h⟩,hk⟩
end Go.Eng
