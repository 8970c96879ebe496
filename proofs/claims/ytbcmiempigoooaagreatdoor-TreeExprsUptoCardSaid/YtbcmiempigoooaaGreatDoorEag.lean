/- Lemmas for a claim about layer 2 (tree). No conditions but those they state. -/
import Derived.Test.YtbcmiempigoooaaGreatDoorEaf
import Derived.Laws.IdiomStrings
import Derived.Laws.Small
import Derived.Lib.BufferMore
set_option linter.all false
namespace Go.Eng
open Go.RowKit
section
variable {P:Program} {Q:Ks} {d:Option Nat} {ty:TypeId} {K:qa->World->Prop} {ρ:qa} {w:World}
theorem qgJ {t:TypeId} {x y:Operand} {k:IntKind} {a b:Int} (e:qe ρ x=.int k a) (c:qe ρ y=.int k b) (h:K (qn ρ d (.int k (if b>a then b else a))) w):
    qx P Q d (.call {callee:=.builtin .max,args:=#[x,y],argTypes:=#[t,t]}) ty K ρ w:=by
  refine jQ (v:=.int k (if b>a then b else a)) (w':=w) ?_ h;simp [execOp,qN,resolve,invoke,builtin,e,c,run_max_int2]
def qcn:Value->Bool
  | .slice none _ _=>true
  |_=>false
theorem qJb {t e:TypeId} {x:Operand} (i:P.underlying t=some (.slice e)) (j:qu (qe ρ x)=true) (h:K (qn ρ d (.bool (qcn (qe ρ x)))) w):
    qx P Q d (.binOp .eql t x (.const (.slice none 0 0)) t) ty K ρ w:=by
  refine jQ (v:=.bool (qcn (qe ρ x))) (w':=w) ?_ h;rcases xT j with ⟨b,o,n,c,g,_⟩|g|⟨b,o,sp,g⟩
  rotate_left 2
  · simp only [execOp,qN,g,qcn];have a:qe ρ (.const (.slice none 0 0))=.slice none 0 0:=rfl;simp [eqGuard,Sem.run_bind,a,Lib.run_eql_slice_some_nil w _ _ _ i]
  · simp only [execOp,qN,g,qcn];have a:qe ρ (.const (.slice none 0 0))=.slice none 0 0:=rfl;simp [eqGuard,Sem.run_bind,a,Lib.run_eql_slice_some_nil w _ _ _ i]
  · simp only [execOp,qN,g,qcn];have a:qe ρ (.const (.slice none 0 0))=.slice none 0 0:=rfl;simp [eqGuard,Sem.run_bind,a,Lib.run_eql_slice_nil_nil w _ _ i]
theorem qJa {t e:TypeId} {x i:Operand} {n k:Nat} {cs:Array Value} {v:Value} {c:IntKind} {inf:TypeInfo} (j:P.underlying t=some (.array n e)) (l:P.info? e=some inf) (m:inf.size=1) (p:qe ρ x=.agg cs) (o:qe ρ i=.int c (k:Int)) (b:k<n) (g:cs[k]? =some v)
    (a:kY P e=some false) (h:K (qn ρ d v) w):qx P Q d (.index t x i) ty K ρ w:=by
  refine jQ (v:=v) (w':=w) ?_ h;simp [execOp,qN,Instr.index,asIntOf,run_underlying j,p,o,b,sizeOf,typeInfo,l,m];rw [qiu a g];rfl
theorem qn9 {f:FuncId} (h:qh P f=true) {args:Array Operand} {a:Array TypeId} {dst:Option Nat} {type:TypeId} {c:Operand} {fs caps:Array Value} (g:qe ρ c=.func (.func f) fs caps) (w:World):
    (execOp (qe ρ) (qN dst (.call {callee:=.value c,args,argTypes:=a}) type)).run P w=.ok (.enter f (fs++args.map (qe ρ)++caps)) w:=by
  unfold qh at h;split at h
  · rename_i fn e;simp only [j0,uE,J4,ne_eq] at h;cases b:fn.body with
    |none=>simp [b] at h
    |some c=>simp [execOp,qN,resolve,g,Deferred.ofValue,invoke,callFunc,e,h.1,b]
  · cases h
theorem kL {f:FuncId} (h:qh P f=true) {args:Array Operand} {a:Array TypeId} {t:Nat} {fs caps:Array Value} (i:ρ t=.func (.func f) fs caps) (g:Calls P f (fs++args.map (qe ρ)++caps) w (zD Q d K ρ)):
    qx P Q d (.call {callee:=.value (.tmp t),args:=args,argTypes:=a}) ty K ρ w:=by
  show vK P Q d _ ty K ρ w;unfold vK;rw [qn9 (P:=P) h (c:=.tmp t) i];exact g.mono fun e w' b=>by cases e<;>exact b
end
end Go.Eng
