/- Lemmas for a claim about layer 2 (tree). No conditions but those they state. -/
import Derived.Test.YtbcmiempigoooaaGreatDoorVaf
import Derived.Laws.IdiomStrings
import Derived.Laws.Small
import Derived.Lib.BufferMore
set_option linter.all false
namespace Go.Eng
open Go.RowKit
section
variable {P:Program} {Q:Ks} {d:Option Nat} {ty:TypeId} {K:qa->AA->Prop} {ρ:qa} {w:AA}
theorem qko {t:TypeId} {x y:Operand} {k:IntKind} {a b:Int} (e:qd ρ x=.int k a) (c:qd ρ y=.int k b) (h:K (qp ρ d (.int k (if b>a then b else a))) w):
    qB P Q d (.call {callee:=.builtin .max,args:=#[x,y],argTypes:=#[t,t]}) ty K ρ w:=by
  refine jN (v:=.int k (if b>a then b else a)) (w':=w) ?_ h;simp [execOp,qR,resolve,invoke,builtin,e,c,run_max_int2]
def QZ:AB->Bool
  | .slice none _ _=>true
  |_=>false
theorem qvI {t e:TypeId} {x:Operand} (i:P.underlying t=some (.slice e)) (j:qA (qd ρ x)=true) (h:K (qp ρ d (.bool (QZ (qd ρ x)))) w):
    qB P Q d (.binOp .eql t x (.const (.slice none 0 0)) t) ty K ρ w:=by
  refine jN (v:=.bool (QZ (qd ρ x))) (w':=w) ?_ h;rcases xF j with ⟨b,o,n,c,g,_⟩|g|⟨b,o,sp,g⟩
  rotate_left 2
  · simp only [execOp,qR,g,QZ];have a:qd ρ (.const (.slice none 0 0))=.slice none 0 0:=rfl;simp [eqGuard,Sem.run_bind,a,Lib.run_eql_slice_some_nil w _ _ _ i]
  · simp only [execOp,qR,g,QZ];have a:qd ρ (.const (.slice none 0 0))=.slice none 0 0:=rfl;simp [eqGuard,Sem.run_bind,a,Lib.run_eql_slice_some_nil w _ _ _ i]
  · simp only [execOp,qR,g,QZ];have a:qd ρ (.const (.slice none 0 0))=.slice none 0 0:=rfl;simp [eqGuard,Sem.run_bind,a,Lib.run_eql_slice_nil_nil w _ _ i]
theorem qIi {t e:TypeId} {x i:Operand} {n k:Nat} {cs:Array AB} {v:AB} {m:IntKind} {inf:TypeInfo} (c:P.underlying t=some (.array n e)) (o:P.info? e=some inf) (p:inf.size=1) (g:qd ρ x=.agg cs) (l:qd ρ i=.int m (k:Int)) (b:k<n) (j:cs[k]? =some v)
    (a:kB P e=some false) (h:K (qp ρ d v) w):qB P Q d (.index t x i) ty K ρ w:=by
  refine jN (v:=v) (w':=w) ?_ h;simp [execOp,qR,Instr.index,asIntOf,run_underlying c,g,l,b,sizeOf,typeInfo,o,p];rw [qhH a j];rfl
theorem qnl {f:FuncId} (h:qk P f=true) {args:Array Operand} {a:Array TypeId} {dst:Option Nat} {type:TypeId} {c:Operand} {fs caps:Array AB} (g:qd ρ c=.func (.func f) fs caps) (w:AA):
    (execOp (qd ρ) (qR dst (.call {callee:=.value c,args,argTypes:=a}) type)).run P w=.ok (.enter f (fs++args.map (qd ρ)++caps)) w:=by
  unfold qk at h;split at h
  · rename_i fn e;simp only [km,ux,JV,ne_eq] at h;cases b:fn.body with
    |none=>simp [b] at h
    |some c=>simp [execOp,qR,resolve,g,Deferred.ofValue,invoke,callFunc,e,h.1,b]
  · cases h
theorem xh {f:FuncId} (h:qk P f=true) {args:Array Operand} {a:Array TypeId} {t:Nat} {fs caps:Array AB} (g:ρ t=.func (.func f) fs caps) (i:Calls P f (fs++args.map (qd ρ)++caps) w (vL Q d K ρ)):
    qB P Q d (.call {callee:=.value (.tmp t),args:=args,argTypes:=a}) ty K ρ w:=by
  show vD P Q d _ ty K ρ w;unfold vD;rw [qnl (P:=P) h (c:=.tmp t) g];exact i.mono fun e w' b=>by cases e<;>exact b
end
end Go.Eng
