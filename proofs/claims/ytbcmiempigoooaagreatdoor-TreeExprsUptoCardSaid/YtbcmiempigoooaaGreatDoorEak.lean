/- Lemmas for a claim about layer 2 (tree). No conditions but those they state. -/
import Derived.Test.YtbcmiempigoooaaGreatDoorEaj
import Derived.Maps.Keyed
set_option linter.all false
namespace Go.Eng
open Go.MapKept Go.RowKit
section
variable {P:Program} {Q:Ks} {d:Option Nat} {ty:TypeId} {K:qa->World->Prop} {ρ:qa} {w:World}
theorem qAo {t a:TypeId} (b:P.underlying t=some (.pointer a)) (p:Option Addr):(Op.equal t (.pointer p) (.pointer none)).run P w=.ok p.isNone w:=by
  have h:∀d:Nat,(Op.equalIn (d+1) t (.pointer p) (.pointer none)).run P w=.ok p.isNone w:=fun d=>by
    cases p<;>simp [Op.equalIn,run_underlying b]
  simp [Op.equal,Op.maxDepth,h 9999]
theorem qws {t a b:TypeId} {x:Operand} {p:Option Addr} (c:P.underlying t=some (.pointer a)) (e:qe ρ x=.pointer p) (h:K (qn ρ d (.bool p.isNone)) w):qx P Q d (.binOp .eql t x (.const (.pointer none)) b) ty K ρ w:=by
  refine jQ (v:=.bool p.isNone) (w':=w) ?_ h;have:=qAo (w:=w) c p;cases p<;>simp [execOp,qN,e,eqGuard,binOp,this]
end
def goV (b:Bool) (o:Option Value) (d:Nat) (K:qa->World->Prop) (ρ:qa) (w:World):Prop:=if b then xp o (fun v=>K (qw ρ d v) w) else K (qw ρ d undef) w
def goE (P:Program) (Q:Ks) (b:Bool) (d:Option Nat) (op:Op) (ty:TypeId) (K:qa->World->Prop) (ρ:qa) (w:World):Prop:=if b then qx P Q d op ty K ρ w else K (qn ρ d undef) w
section
variable {P:Program} {Q:Ks} {K:qa->World->Prop} {ρ:qa} {w:World} {r:List St}
theorem wa2 {g:Option (Nat×Bool)} {d:Nat} {e:Ex}:je P Q (.asg g d e::r) K ρ w=goV (gd ρ g) (e.ev ρ w) d (je P Q r K) ρ w:=rfl
theorem we2 {g:Option (Nat×Bool)} {d:Option Nat} {op:Op} {ty:TypeId}:je P Q (.eff g d op ty::r) K ρ w=goE P Q (gd ρ g) d op ty (je P Q r K) ρ w:=rfl
@[simp] theorem qIx {d:Nat} {v:Value}:goV true (some v) d K ρ w=K (qw ρ d v) w:=rfl
@[simp] theorem qIy {o:Option Value} {d:Nat}:goV false o d K ρ w=K (qw ρ d undef) w:=rfl
@[simp] theorem qIz {d:Option Nat} {op:Op} {ty:TypeId}:goE P Q true d op ty K ρ w=qx P Q d op ty K ρ w:=rfl
@[simp] theorem qIA {d:Option Nat} {op:Op} {ty:TypeId}:goE P Q false d op ty K ρ w=K (qn ρ d undef) w:=rfl
end
end Go.Eng
