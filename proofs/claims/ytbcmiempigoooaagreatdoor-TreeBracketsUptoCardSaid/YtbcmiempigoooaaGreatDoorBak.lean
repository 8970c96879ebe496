/- Lemmas for a claim about layer 2 (tree). No conditions but those they state. -/
import Derived.Test.YtbcmiempigoooaaGreatDoorBaj
import Derived.Maps.Keyed
set_option linter.all false
namespace Go.Eng
open Go.MapKept Go.RowKit
section
variable {P:Program} {Q:Ks} {d:Option Nat} {ty:TypeId} {K:qa→World→Prop} {ρ:qa} {w:World}
theorem qtG {t a:TypeId} (b:P.underlying t=some (.pointer a)) (p:Option Addr):(Op.equal t (.pointer p) (.pointer none)).run P w= .ok p.isNone w:=by
  have h:∀d:Nat,(Op.equalIn (d+1) t (.pointer p) (.pointer none)).run P w= .ok p.isNone w:=fun d=>by
    cases p<;>simp [Op.equalIn,run_underlying b]
  simp [Op.equal,Op.maxDepth,h 9999]
theorem qpV {t a e:TypeId} {x:Operand} {p:Option Addr} (b:P.underlying t=some (.pointer a)) (c:qd ρ x= .pointer p) (h:K (qk ρ d (.bool p.isNone)) w):qm P Q d (.binOp .eql t x (.const (.pointer none)) e) ty K ρ w:=by
  refine jk (v:= .bool p.isNone) (w':=w) ?_ h;have:=qtG (w:=w) b p;cases p<;>simp [execOp,qA,c,eqGuard,binOp,this]
end
def QF (b:Bool) (o:Option Value) (d:Nat) (K:qa→World→Prop) (ρ:qa) (w:World):Prop:=if b then z7 o (fun v=>K (qn ρ d v) w) else K (qn ρ d undef) w
def QG (P:Program) (Q:Ks) (b:Bool) (d:Option Nat) (op:Op) (ty:TypeId) (K:qa→World→Prop) (ρ:qa) (w:World):Prop:=if b then qm P Q d op ty K ρ w else K (qk ρ d undef) w
section
variable {P:Program} {Q:Ks} {K:qa→World→Prop} {ρ:qa} {w:World} {r:List St}
theorem wa2 {g:Option (Nat×Bool)} {d:Nat} {e:Ex}:qQ P Q (.asg g d e::r) K ρ w=QF (gd ρ g) (e.ev ρ w) d (qQ P Q r K) ρ w:=rfl
theorem we2 {g:Option (Nat×Bool)} {d:Option Nat} {op:Op} {ty:TypeId}:qQ P Q (.eff g d op ty::r) K ρ w=QG P Q (gd ρ g) d op ty (qQ P Q r K) ρ w:=rfl
@[simp] theorem qzp {d:Nat} {v:Value}:QF true (some v) d K ρ w=K (qn ρ d v) w:=rfl
@[simp] theorem qzq {o:Option Value} {d:Nat}:QF false o d K ρ w=K (qn ρ d undef) w:=rfl
@[simp] theorem qzr {d:Option Nat} {op:Op} {ty:TypeId}:QG P Q true d op ty K ρ w=qm P Q d op ty K ρ w:=rfl
@[simp] theorem qzs {d:Option Nat} {op:Op} {ty:TypeId}:QG P Q false d op ty K ρ w=K (qk ρ d undef) w:=rfl
end
theorem qqr {Q:Ks} {d:Option Nat} {K:qa→World→Prop} {ρ:qa} {e:Ending} {w:World} (keep:List Nat) (h:∀a:qa,(∀i∈keep,a i=ρ i)→jR Q d K a e w):jR Q d K ρ e w:=h ρ fun _ _=>rfl
end Go.Eng
