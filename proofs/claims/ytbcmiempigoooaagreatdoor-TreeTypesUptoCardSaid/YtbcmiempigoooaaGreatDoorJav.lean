/- Texts of mine for the claims about layer 2 (tree), joined: EngW. -/
import Derived.Test.YtbcmiempigoooaaGreatDoorJau
set_option linter.all false
set_option linter.unusedSimpArgs false
set_option linter.unusedVariables false
namespace Go.Eng
open Go.RowKit
section
variable {ops:Array Oper} {cx:Cx}
end
section
variable {P:Program} {Q:Ks} {K:Env→World→Prop} {F:OT→Env→World→Prop} {ρ:Env} {w:World}
end
theorem calls_irX {P:Program} {f:FuncId} {fn:Func} {V raws:List Nat} {ir:IR} {rs:List RV} {args:Array Value} {w:World} {R:Ending→World→Prop} (hf:P.funcs[f]? =some fn) (hb:fn.body=some (fn.body.getD .skip)) (hok:(comp P fn.ntmps V raws (fn.body.getD .skip)).map IR.norm=some ir)
    (hV:readB fn V=true) (hrs:rvsOf P V fn.results.toList=some rs) (hsz:args.size≤fn.ntmps) (h:ir.wp ⟨P,fn.ntmps,V,[]⟩ (retK rs R) (ksOf rs R) (startEnv V args) w):Calls P f args w R:=by
  obtain ⟨ir0,h1,h2⟩:=Option.map_eq_some_iff.1 hok
  exact calls_ir hf hb h1 h2 hV hrs hsz h
abbrev zv (n:Nat):Ex:= .var n
abbrev zl (e:Ex):Ex:= .op1 .load1 e
abbrev zo (n:Nat) (e:Ex):Ex:= .op1 .load1 (.op1 (.fadr n) e)
abbrev zf (n:Nat) (e:Ex):Ex:= .op1 (.fadr n) e
abbrev zx (n:Nat) (a b:Ex):Ex:= .op2 (.ixa n) a b
abbrev zL (e:Ex):Ex:= .op1 .lenS e
abbrev zT (e:Ex):Ex:= .op1 .lenT e
abbrev zN (e:Ex):Ex:= .op1 .nilc e
abbrev zn (e:Ex):Ex:= .op1 .not e
abbrev ze (n:Nat) (e:Ex):Ex:= .op1 (.ext n) e
abbrev zM (n:Nat) (e:Ex):Ex:= .op1 (.loadN n) e
abbrev zI (o:BinOp) (a b:Ex):Ex:= .op2 (.ibin o .i64) a b
abbrev zB (o:BinOp) (a b:Ex):Ex:= .op2 (.ibin o .u8) a b
abbrev zS (o:BinOp) (a b:Ex):Ex:= .op2 (.sbin o) a b
abbrev zk (n:Int):Value:= .int .i64 n
abbrev zu (n:Int):Value:= .int .u8 n
abbrev zb (b:Bool):Value:= .bool b
abbrev zs (l:Array UInt8):Value:= .string ⟨l⟩
abbrev zt (n:Nat):Operand:= .tmp n
abbrev za (d:Nat) (e:Ex):St:= .asg none d e
abbrev zg (g:Nat) (b:Bool) (d:Nat) (e:Ex):St:= .asg (some (g,b)) d e
abbrev zc (d f:Nat) (a:Array Operand) (t:Array TypeId) (y:TypeId):St:= .eff none (some d) (.call {callee:= .value (.func f),args:=a,argTypes:=t}) y
abbrev zd (f:Nat) (a:Array Operand) (t:Array TypeId) (y:TypeId):St:= .eff none none (.call {callee:= .value (.func f),args:=a,argTypes:=t}) y
abbrev zh (g:Nat) (b:Bool) (d f:Nat) (a:Array Operand) (t:Array TypeId) (y:TypeId):St:= .eff (some (g,b)) (some d) (.call {callee:= .value (.func f),args:=a,argTypes:=t}) y
abbrev zp (d:Nat) (a:Array Operand) (t:Array TypeId) (y:TypeId):St:= .eff none (some d) (.call {callee:= .builtin .append,args:=a,argTypes:=t}) y
abbrev zw (t:TypeId) (p x:Operand):St:= .eff none none (.store t p x) 0
abbrev zE (d:Nat) (o:Op) (y:TypeId):St:= .eff none (some d) o y
abbrev zq (l:List St) (b:IR):IR:= .seq (.reg l) b
abbrev zy (d:Nat) (e:Ex) (o:OT):OT:= .take none d e o
end Go.Eng
