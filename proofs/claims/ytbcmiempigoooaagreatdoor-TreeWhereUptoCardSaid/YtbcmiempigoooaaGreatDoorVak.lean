/- Lemmas for a claim about layer 2 (tree). No conditions but those they state. -/
import Derived.Test.YtbcmiempigoooaaGreatDoorVaj
import Derived.Maps.Keyed
set_option linter.all false
namespace Go.Eng
open Go.MapKept Go.RowKit
section
variable {P:Program} {Q:Ks} {d:Option Nat} {ty:TypeId} {K:qa->AA->Prop} {ρ:qa} {w:AA}
theorem qzO {t b:TypeId} (a:P.underlying t=some (.pointer b)) (p:Option Addr):(Op.equal t (.pointer p) (.pointer none)).run P w=.ok p.isNone w:=by
  have h:∀d:Nat,(Op.equalIn (d+1) t (.pointer p) (.pointer none)).run P w=.ok p.isNone w:=fun d=>by
    cases p<;>simp [Op.equalIn,run_underlying a]
  simp [Op.equal,Op.maxDepth,h 9999]
theorem qvE {t c a:TypeId} {x:Operand} {p:Option Addr} (b:P.underlying t=some (.pointer c)) (e:qd ρ x=.pointer p) (h:K (qp ρ d (.bool p.isNone)) w):qB P Q d (.binOp .eql t x (.const (.pointer none)) a) ty K ρ w:=by
  refine jN (v:=.bool p.isNone) (w':=w) ?_ h;have:=qzO (w:=w) b p;cases p<;>simp [execOp,qR,e,eqGuard,binOp,this]
end
def goV (b:Bool) (o:Option AB) (d:Nat) (K:qa->AA->Prop) (ρ:qa) (w:AA):Prop:=if b then xD o (fun v=>K (qx ρ d v) w) else K (qx ρ d undef) w
def goE (P:Program) (Q:Ks) (b:Bool) (d:Option Nat) (op:Op) (ty:TypeId) (K:qa->AA->Prop) (ρ:qa) (w:AA):Prop:=if b then qB P Q d op ty K ρ w else K (qp ρ d undef) w
section
variable {P:Program} {Q:Ks} {K:qa->AA->Prop} {ρ:qa} {w:AA} {r:List St}
@[simp] theorem qHD {d:Nat} {v:AB}:goV true (some v) d K ρ w=K (qx ρ d v) w:=rfl
@[simp] theorem qHE {o:Option AB} {d:Nat}:goV false o d K ρ w=K (qx ρ d undef) w:=rfl
@[simp] theorem qHF {d:Option Nat} {op:Op} {ty:TypeId}:goE P Q true d op ty K ρ w=qB P Q d op ty K ρ w:=rfl
@[simp] theorem qHG {d:Option Nat} {op:Op} {ty:TypeId}:goE P Q false d op ty K ρ w=K (qp ρ d undef) w:=rfl
end
end Go.Eng
