/- Texts of mine for the claims about layer 2 (tree), joined: EngJ. -/
import Derived.Test.YtbcmiempigoooaaGreatDoorJai
set_option linter.all false
set_option linter.unusedSimpArgs false
set_option linter.unusedVariables false
namespace Go.Eng
open Go.RowKit
section
variable {P:Program} {Q:Ks} {d:Option Nat} {ty:TypeId} {K:Env→World→Prop} {ρ:Env} {w:World}
theorem only_grownBy {B:Nat} {w W:World} (h:Only B w W):w.grownBy W (some B):=
  ⟨h.os,h.tape,h.output,by rw [h.size];exact Nat.le_refl _,fun k _ hne=>h.block k (by simpa using hne)⟩
end
end Go.Eng
