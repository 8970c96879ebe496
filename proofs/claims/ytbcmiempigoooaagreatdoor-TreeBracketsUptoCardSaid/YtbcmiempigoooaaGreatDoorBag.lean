/- Lemmas for a claim about layer 2 (tree). No conditions but those they state. -/
import Derived.Test.YtbcmiempigoooaaGreatDoorBaf
import Derived.Laws.IdiomStrings
import Derived.Laws.Small
import Derived.Lib.BufferMore
set_option linter.all false
namespace Go.Eng
open Go.RowKit
section
variable {P:Program} {Q:Ks} {d:Option Nat} {ty:TypeId} {K:qa→World→Prop} {ρ:qa} {w:World}
theorem qhy {t:TypeId} {x y:Operand} {k:IntKind} {a b:Int} (e:qd ρ x= .int k a) (c:qd ρ y= .int k b) (h:K (qk ρ d (.int k (if b>a then b else a))) w):
    qm P Q d (.call {callee:= .builtin .max,args:= #[x,y],argTypes:= #[t,t]}) ty K ρ w:=by
  refine jk (v:= .int k (if b>a then b else a)) (w':=w) ?_ h;simp [execOp,qA,resolve,invoke,builtin,e,c,run_max_int2]
def qaE:Value→Bool
  | .slice none _ _=>true
  |_=>false
theorem qzV {t e:TypeId} {x:Operand} (i:P.underlying t=some (.slice e)) (j:qt (qd ρ x)=true) (h:K (qk ρ d (.bool (qaE (qd ρ x)))) w):
    qm P Q d (.binOp .eql t x (.const (.slice none 0 0)) t) ty K ρ w:=by
  refine jk (v:= .bool (qaE (qd ρ x))) (w':=w) ?_ h;rcases xy j with ⟨b,o,n,c,g,_⟩|g|⟨b,o,sp,g⟩
  rotate_left 2
  · simp only [execOp,qA,g,qaE];have a:qd ρ (.const (.slice none 0 0))= .slice none 0 0:=rfl;simp [eqGuard,Sem.run_bind,a,Lib.run_eql_slice_some_nil w _ _ _ i]
  · simp only [execOp,qA,g,qaE];have a:qd ρ (.const (.slice none 0 0))= .slice none 0 0:=rfl;simp [eqGuard,Sem.run_bind,a,Lib.run_eql_slice_some_nil w _ _ _ i]
  · simp only [execOp,qA,g,qaE];have a:qd ρ (.const (.slice none 0 0))= .slice none 0 0:=rfl;simp [eqGuard,Sem.run_bind,a,Lib.run_eql_slice_nil_nil w _ _ i]
theorem qzT {t e:TypeId} {x i:Operand} {n k:Nat} {cs:Array Value} {v:Value} {l:IntKind} {inf:TypeInfo} (c:P.underlying t=some (.array n e)) (m:P.info? e=some inf) (q:inf.size=1) (g:qd ρ x= .agg cs) (j:qd ρ i= .int l (k:Int)) (b:k<n) (o:cs[k]? =some v)
    (a:xP P e=some false) (h:K (qk ρ d v) w):qm P Q d (.index t x i) ty K ρ w:=by
  refine jk (v:=v) (w':=w) ?_ h;simp [execOp,qA,Instr.index,asIntOf,run_underlying c,g,j,b,sizeOf,typeInfo,m,q];rw [qfC a o];rfl
theorem qkj {f:FuncId} (h:qf P f=true) {args:Array Operand} {a:Array TypeId} {dst:Option Nat} {type:TypeId} {c:Operand} {fs caps:Array Value} (e:qd ρ c= .func (.func f) fs caps) (w:World):
    (execOp (qd ρ) (qA dst (.call {callee:= .value c,args,argTypes:=a}) type)).run P w= .ok (.enter f (fs++args.map (qd ρ)++caps)) w:=by
  unfold qf at h;split at h
  · rename_i fn g;simp only [Bool.and_eq_true,Bool.not_eq_true',beq_eq_false_iff_ne,ne_eq] at h;cases b:fn.body with
    |none=>simp [b] at h
    |some c=>simp [execOp,qA,resolve,e,Deferred.ofValue,invoke,callFunc,g,h.1,b]
  · cases h
theorem xT {f:FuncId} (h:qf P f=true) {args:Array Operand} {a:Array TypeId} {t:Nat} {fs caps:Array Value} (b:ρ t= .func (.func f) fs caps) (i:Calls P f (fs++args.map (qd ρ)++caps) w (jR Q d K ρ)):
    qm P Q d (.call {callee:= .value (.tmp t),args:=args,argTypes:=a}) ty K ρ w:=by
  show jV P Q d _ ty K ρ w;unfold jV;rw [qkj (P:=P) h (c:= .tmp t) b];exact i.mono fun e w' g=>by cases e<;>exact g
end
end Go.Eng
