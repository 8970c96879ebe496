/- Texts of mine for the claims about layer 2 (tree), joined: EngU. -/
import Derived.Test.YtbcmiempigoooaaGreatDoorJas
import Derived.Maps.Keyed
set_option linter.all false
set_option linter.unusedSimpArgs false
set_option linter.unusedVariables false
namespace Go.Eng
open Go.RowKit Go.MapKept
section
variable {P:Program} {Q:Ks} {d:Option Nat} {ty:TypeId} {K:Env→World→Prop} {ρ:Env} {w:World}
theorem run_eql_nilP {t te:TypeId} (ht:P.underlying t=some (.pointer te)) (p:Option Addr):(Op.equal t (.pointer p) (.pointer none)).run P w= .ok p.isNone w:=by
  have h:∀d:Nat,(Op.equalIn (d+1) t (.pointer p) (.pointer none)).run P w= .ok p.isNone w:=fun d=>by
    cases p<;>simp [Op.equalIn,run_underlying ht]
  simp [Op.equal,Op.maxDepth,h 9999]
theorem eff_eqlNilP {t te t2:TypeId} {x:Operand} {p:Option Addr} (ht:P.underlying t=some (.pointer te)) (hx:evE ρ x= .pointer p) (h:K (updO ρ d (.bool p.isNone)) w):effW P Q d (.binOp .eql t x (.const (.pointer none)) t2) ty K ρ w:=by
  refine effE_ok (v:= .bool p.isNone) (w':=w) ?_ h
  have:=run_eql_nilP (w:=w) ht p
  cases p<;>simp [execOp,effOp,hx,eqGuard,binOp,this]
end
def goV (b:Bool) (o:Option Value) (d:Nat) (K:Env→World→Prop) (ρ:Env) (w:World):Prop:=if b then onV o (fun v=>K (upd ρ d v) w) else K (upd ρ d undef) w
def goE (P:Program) (Q:Ks) (b:Bool) (d:Option Nat) (op:Op) (ty:TypeId) (K:Env→World→Prop) (ρ:Env) (w:World):Prop:=if b then effW P Q d op ty K ρ w else K (updO ρ d undef) w
section
variable {P:Program} {Q:Ks} {K:Env→World→Prop} {ρ:Env} {w:World} {r:List St}
@[simp] theorem goV_t {d:Nat} {v:Value}:goV true (some v) d K ρ w=K (upd ρ d v) w:=rfl
@[simp] theorem goV_f {o:Option Value} {d:Nat}:goV false o d K ρ w=K (upd ρ d undef) w:=rfl
@[simp] theorem goE_t {d:Option Nat} {op:Op} {ty:TypeId}:goE P Q true d op ty K ρ w=effW P Q d op ty K ρ w:=rfl
@[simp] theorem goE_f {d:Option Nat} {op:Op} {ty:TypeId}:goE P Q false d op ty K ρ w=K (updO ρ d undef) w:=rfl
end
end Go.Eng
