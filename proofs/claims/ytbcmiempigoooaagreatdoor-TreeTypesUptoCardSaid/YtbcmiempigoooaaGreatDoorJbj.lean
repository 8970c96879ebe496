/- Texts of mine for the claims about layer 2 (tree), joined: L1Z. -/
import Derived.Test.YtbcmiempigoooaaGreatDoorJbi
import Derived.Test.YtbcmiempigoooaaGreatDoorShelf
set_option linter.all false
set_option linter.unusedSimpArgs false
set_option linter.unusedVariables false

