/- Lemmas for a claim about layer 2 (tree). No conditions but those they state. -/
import Derived.Test.YtbcmiempigoooaaGreatDoorVam
import Derived.Test.YtbcmiempigoooaaGreatDoorShelf
set_option linter.all false
