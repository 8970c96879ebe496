/- Texts of mine for the claims about layer 2 (tree), joined: EngL. -/
import Derived.Test.YtbcmiempigoooaaGreatDoorJak
import Derived.Laws.IdiomStrings
import Derived.Laws.Small
import Derived.Lib.BufferMore
set_option linter.all false
set_option linter.unusedSimpArgs false
set_option linter.unusedVariables false
namespace Go.Eng
open Go.RowKit
section
variable {P:Program} {Q:Ks} {d:Option Nat} {ty:TypeId} {K:Env→World→Prop} {ρ:Env} {w:World}
theorem eff_max {t:TypeId} {x y:Operand} {k:IntKind} {a b:Int} (hx:evE ρ x= .int k a) (hy:evE ρ y= .int k b) (h:K (updO ρ d (.int k (if b>a then b else a))) w):
    effW P Q d (.call {callee:= .builtin .max,args:= #[x,y],argTypes:= #[t,t]}) ty K ρ w:=by
  refine effE_ok (v:= .int k (if b>a then b else a)) (w':=w) ?_ h
  simp [execOp,effOp,resolve,invoke,builtin,hx,hy,run_max_int2]
def isNilSl:Value→Bool
  | .slice none _ _=>true
  |_=>false
theorem eff_eqlNil {t e:TypeId} {x:Operand} (ht:P.underlying t=some (.slice e)) (hx:isSl (evE ρ x)=true) (h:K (updO ρ d (.bool (isNilSl (evE ρ x)))) w):
    effW P Q d (.binOp .eql t x (.const (.slice none 0 0)) t) ty K ρ w:=by
  refine effE_ok (v:= .bool (isNilSl (evE ρ x))) (w':=w) ?_ h
  rcases isSl_cases hx with ⟨b,o,n,c,hv,_⟩|hv|⟨b,o,sp,hv⟩
  rotate_left 2
  · simp only [execOp,effOp,hv,isNilSl]
    have hv':evE ρ (.const (.slice none 0 0))= .slice none 0 0:=rfl
    simp [eqGuard,Sem.run_bind,hv',Lib.run_eql_slice_some_nil w _ _ _ ht]
  · simp only [execOp,effOp,hv,isNilSl]
    have hv':evE ρ (.const (.slice none 0 0))= .slice none 0 0:=rfl
    simp [eqGuard,Sem.run_bind,hv',Lib.run_eql_slice_some_nil w _ _ _ ht]
  · simp only [execOp,effOp,hv,isNilSl]
    have hv':evE ρ (.const (.slice none 0 0))= .slice none 0 0:=rfl
    simp [eqGuard,Sem.run_bind,hv',Lib.run_eql_slice_nil_nil w _ _ ht]
theorem eff_indexA {t e:TypeId} {x i:Operand} {n k:Nat} {cs:Array Value} {v:Value} {ik:IntKind} {inf:TypeInfo} (ht:P.underlying t=some (.array n e)) (hi:P.info? e=some inf) (h1:inf.size=1) (hx:evE ρ x= .agg cs) (hk:evE ρ i= .int ik (k:Int)) (hkn:k<n) (hv:cs[k]? =some v)
    (hagg:isAggT P e=some false) (h:K (updO ρ d v) w):effW P Q d (.index t x i) ty K ρ w:=by
  refine effE_ok (v:=v) (w':=w) ?_ h
  simp [execOp,effOp,Instr.index,asIntOf,run_underlying ht,hx,hk,hkn,sizeOf,typeInfo,hi,h1]
  rw [run_part1 hagg hv];rfl
theorem run_callv {f:FuncId} (h:callB P f=true) {args:Array Operand} {ats:Array TypeId} {dst:Option Nat} {type:TypeId} {c:Operand} {fs caps:Array Value} (hc:evE ρ c= .func (.func f) fs caps) (w:World):
    (execOp (evE ρ) (effOp dst (.call {callee:= .value c,args,argTypes:=ats}) type)).run P w= .ok (.enter f (fs++args.map (evE ρ)++caps)) w:=by
  unfold callB at h
  split at h
  · rename_i fn hf
    simp only [Bool.and_eq_true,Bool.not_eq_true',beq_eq_false_iff_ne,ne_eq] at h
    cases hb:fn.body with
    |none=>simp [hb] at h
    |some c=>simp [execOp,effOp,resolve,hc,Deferred.ofValue,invoke,callFunc,hf,h.1,hb]
  · cases h
theorem eff_callv {f:FuncId} (h:callB P f=true) {args:Array Operand} {ats:Array TypeId} {t:Nat} {fs caps:Array Value} (hc:ρ t= .func (.func f) fs caps) (hk:Calls P f (fs++args.map (evE ρ)++caps) w (callK Q d K ρ)):
    effW P Q d (.call {callee:= .value (.tmp t),args:=args,argTypes:=ats}) ty K ρ w:=by
  show effE P Q d _ ty K ρ w
  unfold effE
  rw [run_callv (P:=P) h (c:= .tmp t) hc]
  exact hk.mono fun e w' hh=>by cases e<;>exact hh
end
end Go.Eng
