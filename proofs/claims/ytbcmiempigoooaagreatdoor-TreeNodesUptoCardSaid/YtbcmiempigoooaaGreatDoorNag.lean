/- Lemmas for a claim about layer 2 (tree). No conditions but those they state. -/
import Derived.Test.YtbcmiempigoooaaGreatDoorNaf
import Derived.Laws.IdiomStrings
import Derived.Laws.Small
import Derived.Lib.BufferMore
set_option linter.all false
namespace Go.Eng
open Go.RowKit
section
variable {P:Program} {Q:Ks} {d:Option Nat} {ty:TypeId} {K:qa→World→Prop} {ρ:qa} {w:World}
theorem qeK {t:TypeId} {x y:Operand} {k:IntKind} {a b:Int} (c:qd ρ x= .int k a) (e:qd ρ y= .int k b) (h:K (qm ρ d (.int k (if b>a then b else a))) w):
    qr P Q d (.call {callee:= .builtin .max,args:= #[x,y],argTypes:= #[t,t]}) ty K ρ w:=by
  refine jf (v:= .int k (if b>a then b else a)) (w':=w) ?_ h;simp [execOp,qA,resolve,invoke,builtin,c,e,run_max_int2]
def yi:Value→Bool
  | .slice none _ _=>true
  |_=>false
theorem qtn {t e:TypeId} {x:Operand} (i:P.underlying t=some (.slice e)) (j:qo (qd ρ x)=true) (h:K (qm ρ d (.bool (yi (qd ρ x)))) w):
    qr P Q d (.binOp .eql t x (.const (.slice none 0 0)) t) ty K ρ w:=by
  refine jf (v:= .bool (yi (qd ρ x))) (w':=w) ?_ h;rcases zJ j with ⟨b,o,n,c,g,_⟩|g|⟨b,o,sp,g⟩
  rotate_left 2
  · simp only [execOp,qA,g,yi];have a:qd ρ (.const (.slice none 0 0))= .slice none 0 0:=rfl;simp [eqGuard,Sem.run_bind,a,Lib.run_eql_slice_some_nil w _ _ _ i]
  · simp only [execOp,qA,g,yi];have a:qd ρ (.const (.slice none 0 0))= .slice none 0 0:=rfl;simp [eqGuard,Sem.run_bind,a,Lib.run_eql_slice_some_nil w _ _ _ i]
  · simp only [execOp,qA,g,yi];have a:qd ρ (.const (.slice none 0 0))= .slice none 0 0:=rfl;simp [eqGuard,Sem.run_bind,a,Lib.run_eql_slice_nil_nil w _ _ i]
theorem qFd {t e:TypeId} {x i:Operand} {n k:Nat} {cs:Array Value} {v:Value} {m:IntKind} {inf:TypeInfo} (j:P.underlying t=some (.array n e)) (l:P.info? e=some inf) (g:inf.size=1) (o:qd ρ x= .agg cs) (c:qd ρ i= .int m (k:Int)) (b:k<n) (p:cs[k]? =some v)
    (a:xz P e=some false) (h:K (qm ρ d v) w):qr P Q d (.index t x i) ty K ρ w:=by
  refine jf (v:=v) (w':=w) ?_ h;simp [execOp,qA,Instr.index,asIntOf,run_underlying j,o,c,b,sizeOf,typeInfo,l,g];rw [qf2 a p];rfl
theorem qk7 {f:FuncId} (h:qf P f=true) {args:Array Operand} {a:Array TypeId} {dst:Option Nat} {type:TypeId} {c:Operand} {fs caps:Array Value} (e:qd ρ c= .func (.func f) fs caps) (w:World):
    (execOp (qd ρ) (qA dst (.call {callee:= .value c,args,argTypes:=a}) type)).run P w= .ok (.enter f (fs++args.map (qd ρ)++caps)) w:=by
  unfold qf at h;split at h
  · rename_i fn g;simp only [Bool.and_eq_true,Bool.not_eq_true',beq_eq_false_iff_ne,ne_eq] at h;cases b:fn.body with
    |none=>simp [b] at h
    |some c=>simp [execOp,qA,resolve,e,Deferred.ofValue,invoke,callFunc,g,h.1,b]
  · cases h
theorem kp {f:FuncId} (h:qf P f=true) {args:Array Operand} {a:Array TypeId} {t:Nat} {fs caps:Array Value} (g:ρ t= .func (.func f) fs caps) (i:Calls P f (fs++args.map (qd ρ)++caps) w (xT Q d K ρ)):
    qr P Q d (.call {callee:= .value (.tmp t),args:=args,argTypes:=a}) ty K ρ w:=by
  show j9 P Q d _ ty K ρ w;unfold j9;rw [qk7 (P:=P) h (c:= .tmp t) g];exact i.mono fun e w' b=>by cases e<;>exact b
end
end Go.Eng
