/- Lemmas for a claim about layer 2 (tree). No conditions but those they state. -/
import Derived.Test.YtbcmiempigoooaaGreatDoorGaf
import Derived.Laws.IdiomStrings
import Derived.Laws.Small
import Derived.Lib.BufferMore
set_option linter.all false
namespace Go.Eng
open Go.RowKit
section
variable {P:Program} {Q:Ks} {d:Option Nat} {ty:TypeId} {K:qa→World→Prop} {ρ:qa} {w:World}
theorem qeb {t:TypeId} {x y:Operand} {k:IntKind} {a b:Int} (e:qd ρ x= .int k a) (c:qd ρ y= .int k b) (h:K (qm ρ d (.int k (if b>a then b else a))) w):
    qw P Q d (.call {callee:= .builtin .max,args:= #[x,y],argTypes:= #[t,t]}) ty K ρ w:=by
  refine ju (v:= .int k (if b>a then b else a)) (w':=w) ?_ h;simp [execOp,qD,resolve,invoke,builtin,e,c,run_max_int2]
def yc:Value→Bool
  | .slice none _ _=>true
  |_=>false
theorem qr1 {t e:TypeId} {x:Operand} (i:P.underlying t=some (.slice e)) (j:qn (qd ρ x)=true) (h:K (qm ρ d (.bool (yc (qd ρ x)))) w):
    qw P Q d (.binOp .eql t x (.const (.slice none 0 0)) t) ty K ρ w:=by
  refine ju (v:= .bool (yc (qd ρ x))) (w':=w) ?_ h;rcases zz j with ⟨b,o,n,c,g,_⟩|g|⟨b,o,sp,g⟩
  rotate_left 2
  · simp only [execOp,qD,g,yc];have a:qd ρ (.const (.slice none 0 0))= .slice none 0 0:=rfl;simp [eqGuard,Sem.run_bind,a,Lib.run_eql_slice_some_nil w _ _ _ i]
  · simp only [execOp,qD,g,yc];have a:qd ρ (.const (.slice none 0 0))= .slice none 0 0:=rfl;simp [eqGuard,Sem.run_bind,a,Lib.run_eql_slice_some_nil w _ _ _ i]
  · simp only [execOp,qD,g,yc];have a:qd ρ (.const (.slice none 0 0))= .slice none 0 0:=rfl;simp [eqGuard,Sem.run_bind,a,Lib.run_eql_slice_nil_nil w _ _ i]
theorem qC8 {t e:TypeId} {x i:Operand} {n k:Nat} {cs:Array Value} {v:Value} {m:IntKind} {inf:TypeInfo} (c:P.underlying t=some (.array n e)) (g:P.info? e=some inf) (l:inf.size=1) (p:qd ρ x= .agg cs) (j:qd ρ i= .int m (k:Int)) (b:k<n) (o:cs[k]? =some v)
    (a:xA P e=some false) (h:K (qm ρ d v) w):qw P Q d (.index t x i) ty K ρ w:=by
  refine ju (v:=v) (w':=w) ?_ h;simp [execOp,qD,Instr.index,asIntOf,run_underlying c,p,j,b,sizeOf,typeInfo,g,l];rw [qfo a o];rfl
theorem qkb {f:FuncId} (h:qg P f=true) {args:Array Operand} {a:Array TypeId} {dst:Option Nat} {type:TypeId} {c:Operand} {fs caps:Array Value} (e:qd ρ c= .func (.func f) fs caps) (w:World):
    (execOp (qd ρ) (qD dst (.call {callee:= .value c,args,argTypes:=a}) type)).run P w= .ok (.enter f (fs++args.map (qd ρ)++caps)) w:=by
  unfold qg at h;split at h
  · rename_i fn g;simp only [Bool.and_eq_true,Bool.not_eq_true',beq_eq_false_iff_ne,ne_eq] at h;cases b:fn.body with
    |none=>simp [b] at h
    |some c=>simp [execOp,qD,resolve,e,Deferred.ofValue,invoke,callFunc,g,h.1,b]
  · cases h
theorem x9 {f:FuncId} (h:qg P f=true) {args:Array Operand} {a:Array TypeId} {t:Nat} {fs caps:Array Value} (b:ρ t= .func (.func f) fs caps) (i:Calls P f (fs++args.map (qd ρ)++caps) w (xP Q d K ρ)):
    qw P Q d (.call {callee:= .value (.tmp t),args:=args,argTypes:=a}) ty K ρ w:=by
  show jY P Q d _ ty K ρ w;unfold jY;rw [qkb (P:=P) h (c:= .tmp t) b];exact i.mono fun e w' g=>by cases e<;>exact g
end
end Go.Eng
