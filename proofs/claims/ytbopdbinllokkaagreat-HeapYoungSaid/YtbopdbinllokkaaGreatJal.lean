/- Texts of mine for the claims about layer 17 (heap), joined: EngM. -/
import Derived.Test.YtbopdbinllokkaaGreatJak
import Derived.Maps.RangeRun
set_option linter.all false
set_option linter.unusedSimpArgs false
set_option linter.unusedVariables false
namespace Go.Eng
open Go.RowKit Go.MapKept
def lookP (ps : List (ByteArray × Value)) (k : ByteArray) : Option Value := (ps.find? fun p => decide (p.1 = k)).map (·.2)
@[simp] theorem look_nil (k : ByteArray) : lookP [] k = none := rfl
section
variable {P : Program} {Q : Ks} {d : Option Nat} {ty : TypeId} {K : Env → World → Prop} {ρ : Env} {w : World}
end
end Go.Eng
