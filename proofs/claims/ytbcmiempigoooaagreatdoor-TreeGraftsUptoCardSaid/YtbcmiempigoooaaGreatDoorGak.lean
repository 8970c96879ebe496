/- Lemmas for a claim about layer 2 (tree). No conditions but those they state. -/
import Derived.Test.YtbcmiempigoooaaGreatDoorGaj
import Derived.Maps.Keyed
set_option linter.all false
namespace Go.Eng
open Go.MapKept Go.RowKit
section
variable {P:Program} {Q:Ks} {d:Option Nat} {ty:TypeId} {K:qa→World→Prop} {ρ:qa} {w:World}
theorem qu8 {t a:TypeId} (b:P.underlying t=some (.pointer a)) (p:Option Addr):(Op.equal t (.pointer p) (.pointer none)).run P w= .ok p.isNone w:=by
  have h:∀d:Nat,(Op.equalIn (d+1) t (.pointer p) (.pointer none)).run P w= .ok p.isNone w:=fun d=>by
    cases p<;>simp [Op.equalIn,run_underlying b]
  simp [Op.equal,Op.maxDepth,h 9999]
theorem qrX {t b e:TypeId} {x:Operand} {p:Option Addr} (c:P.underlying t=some (.pointer b)) (a:qd ρ x= .pointer p) (h:K (qm ρ d (.bool p.isNone)) w):qw P Q d (.binOp .eql t x (.const (.pointer none)) e) ty K ρ w:=by
  refine ju (v:= .bool p.isNone) (w':=w) ?_ h;have:=qu8 (w:=w) c p;cases p<;>simp [execOp,qD,a,eqGuard,binOp,this]
end
def QQ (b:Bool) (o:Option Value) (d:Nat) (K:qa→World→Prop) (ρ:qa) (w:World):Prop:=if b then vG o (fun v=>K (qt ρ d v) w) else K (qt ρ d undef) w
def QR (P:Program) (Q:Ks) (b:Bool) (d:Option Nat) (op:Op) (ty:TypeId) (K:qa→World→Prop) (ρ:qa) (w:World):Prop:=if b then qw P Q d op ty K ρ w else K (qm ρ d undef) w
section
variable {P:Program} {Q:Ks} {K:qa→World→Prop} {ρ:qa} {w:World} {r:List St}
theorem wa2 {g:Option (Nat×Bool)} {d:Nat} {e:Ex}:qU P Q (.asg g d e::r) K ρ w=QQ (gd ρ g) (e.ev ρ w) d (qU P Q r K) ρ w:=rfl
theorem we2 {g:Option (Nat×Bool)} {d:Option Nat} {op:Op} {ty:TypeId}:qU P Q (.eff g d op ty::r) K ρ w=QR P Q (gd ρ g) d op ty (qU P Q r K) ρ w:=rfl
@[simp] theorem qCw {d:Nat} {v:Value}:QQ true (some v) d K ρ w=K (qt ρ d v) w:=rfl
@[simp] theorem qCx {o:Option Value} {d:Nat}:QQ false o d K ρ w=K (qt ρ d undef) w:=rfl
@[simp] theorem qCy {d:Option Nat} {op:Op} {ty:TypeId}:QR P Q true d op ty K ρ w=qw P Q d op ty K ρ w:=rfl
@[simp] theorem qCz {d:Option Nat} {op:Op} {ty:TypeId}:QR P Q false d op ty K ρ w=K (qm ρ d undef) w:=rfl
end
end Go.Eng
