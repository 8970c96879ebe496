/- Lemmas for a claim about layer 2 (tree). No conditions but those they state. -/
import Derived.Test.YtbcmiempigoooaaGreatDoorNaj
import Derived.Maps.Keyed
set_option linter.all false
namespace Go.Eng
open Go.MapKept Go.RowKit
section
variable {P:Program} {Q:Ks} {d:Option Nat} {ty:TypeId} {K:qa→World→Prop} {ρ:qa} {w:World}
theorem qwJ {t a:TypeId} (b:P.underlying t=some (.pointer a)) (p:Option Addr):(Op.equal t (.pointer p) (.pointer none)).run P w= .ok p.isNone w:=by
  have h:∀d:Nat,(Op.equalIn (d+1) t (.pointer p) (.pointer none)).run P w= .ok p.isNone w:=fun d=>by
    cases p<;>simp [Op.equalIn,run_underlying b]
  simp [Op.equal,Op.maxDepth,h 9999]
theorem qtj {t a c:TypeId} {x:Operand} {p:Option Addr} (b:P.underlying t=some (.pointer a)) (e:qd ρ x= .pointer p) (h:K (qm ρ d (.bool p.isNone)) w):qr P Q d (.binOp .eql t x (.const (.pointer none)) c) ty K ρ w:=by
  refine jf (v:= .bool p.isNone) (w':=w) ?_ h;have:=qwJ (w:=w) b p;cases p<;>simp [execOp,qA,e,eqGuard,binOp,this]
end
def Q8 (b:Bool) (o:Option Value) (d:Nat) (K:qa→World→Prop) (ρ:qa) (w:World):Prop:=if b then vJ o (fun v=>K (qu ρ d v) w) else K (qu ρ d undef) w
def Q9 (P:Program) (Q:Ks) (b:Bool) (d:Option Nat) (op:Op) (ty:TypeId) (K:qa→World→Prop) (ρ:qa) (w:World):Prop:=if b then qr P Q d op ty K ρ w else K (qm ρ d undef) w
section
variable {P:Program} {Q:Ks} {K:qa→World→Prop} {ρ:qa} {w:World} {r:List St}
theorem wa2 {g:Option (Nat×Bool)} {d:Nat} {e:Ex}:qV P Q (.asg g d e::r) K ρ w=Q8 (gd ρ g) (e.ev ρ w) d (qV P Q r K) ρ w:=rfl
theorem we2 {g:Option (Nat×Bool)} {d:Option Nat} {op:Op} {ty:TypeId}:qV P Q (.eff g d op ty::r) K ρ w=Q9 P Q (gd ρ g) d op ty (qV P Q r K) ρ w:=rfl
@[simp] theorem qED {d:Nat} {v:Value}:Q8 true (some v) d K ρ w=K (qu ρ d v) w:=rfl
@[simp] theorem qEE {o:Option Value} {d:Nat}:Q8 false o d K ρ w=K (qu ρ d undef) w:=rfl
@[simp] theorem qEF {d:Option Nat} {op:Op} {ty:TypeId}:Q9 P Q true d op ty K ρ w=qr P Q d op ty K ρ w:=rfl
@[simp] theorem qEG {d:Option Nat} {op:Op} {ty:TypeId}:Q9 P Q false d op ty K ρ w=K (qm ρ d undef) w:=rfl
end
end Go.Eng
