/- Texts of mine for the claims about layer 16 (link), joined: L16N. -/
import Derived.Test.YtaipjaclgkjhdaaDoorJak
import Derived.Test.YtaipjaclgkjhdaaDoorJas
set_option linter.all false
set_option linter.unusedSimpArgs false
set_option linter.unusedVariables false
/- Layer 16: calls, and what is known of types. -/
namespace Go.L16
open Go Go.Eng Go.RowKit Go.Proofs
set_option maxRecDepth 10000
@[simp] theorem cc3 : callB Tryd.prog 3 = true := by kernel_rfl
@[simp] theorem cc4 : callB Tryd.prog 4 = true := by kernel_rfl
@[simp] theorem cc5 : callB Tryd.prog 5 = true := by kernel_rfl
@[simp] theorem cc6 : callB Tryd.prog 6 = true := by kernel_rfl
@[simp] theorem cc7 : callB Tryd.prog 7 = true := by kernel_rfl
@[simp] theorem cc8 : callB Tryd.prog 8 = true := by kernel_rfl
@[simp] theorem cc9 : callB Tryd.prog 9 = true := by kernel_rfl
@[simp] theorem cc10 : callB Tryd.prog 10 = true := by kernel_rfl
@[simp] theorem cc11 : callB Tryd.prog 11 = true := by kernel_rfl
@[simp] theorem cc12 : callB Tryd.prog 12 = true := by kernel_rfl
@[simp] theorem cc13 : callB Tryd.prog 13 = true := by kernel_rfl
@[simp] theorem cc14 : callB Tryd.prog 14 = true := by kernel_rfl
@[simp] theorem cc15 : callB Tryd.prog 15 = true := by kernel_rfl
@[simp] theorem cc16 : callB Tryd.prog 16 = true := by kernel_rfl
@[simp] theorem cc17 : callB Tryd.prog 17 = true := by kernel_rfl
@[simp] theorem cc18 : callB Tryd.prog 18 = true := by kernel_rfl
@[simp] theorem cc19 : callB Tryd.prog 19 = true := by kernel_rfl
@[simp] theorem cc20 : callB Tryd.prog 20 = true := by kernel_rfl
@[simp] theorem cc21 : callB Tryd.prog 21 = true := by kernel_rfl
@[simp] theorem cc22 : callB Tryd.prog 22 = true := by kernel_rfl
@[simp] theorem cc23 : callB Tryd.prog 23 = true := by kernel_rfl
@[simp] theorem cc24 : callB Tryd.prog 24 = true := by kernel_rfl
@[simp] theorem cc25 : callB Tryd.prog 25 = true := by kernel_rfl
@[simp] theorem cc26 : callB Tryd.prog 26 = true := by kernel_rfl
@[simp] theorem cc27 : callB Tryd.prog 27 = true := by kernel_rfl
@[simp] theorem cc28 : callB Tryd.prog 28 = true := by kernel_rfl
@[simp] theorem cc29 : callB Tryd.prog 29 = true := by kernel_rfl
@[simp] theorem cc30 : callB Tryd.prog 30 = true := by kernel_rfl
@[simp] theorem cc31 : callB Tryd.prog 31 = true := by kernel_rfl
@[simp] theorem cc32 : callB Tryd.prog 32 = true := by kernel_rfl
@[simp] theorem cc33 : callB Tryd.prog 33 = true := by kernel_rfl
@[simp] theorem cc34 : callB Tryd.prog 34 = true := by kernel_rfl
@[simp] theorem cc35 : callB Tryd.prog 35 = true := by kernel_rfl
@[simp] theorem cc36 : callB Tryd.prog 36 = true := by kernel_rfl
@[simp] theorem cc37 : callB Tryd.prog 37 = true := by kernel_rfl
@[simp] theorem cc38 : callB Tryd.prog 38 = true := by kernel_rfl
@[simp] theorem cc39 : callB Tryd.prog 39 = true := by kernel_rfl
@[simp] theorem cc40 : callB Tryd.prog 40 = true := by kernel_rfl
@[simp] theorem cc41 : callB Tryd.prog 41 = true := by kernel_rfl
@[simp] theorem cc42 : callB Tryd.prog 42 = true := by kernel_rfl
@[simp] theorem cc43 : callB Tryd.prog 43 = true := by kernel_rfl
@[simp] theorem cc44 : callB Tryd.prog 44 = true := by kernel_rfl
@[simp] theorem cc45 : callB Tryd.prog 45 = true := by kernel_rfl
@[simp] theorem cc46 : callB Tryd.prog 46 = true := by kernel_rfl
@[simp] theorem cc47 : callB Tryd.prog 47 = true := by kernel_rfl
@[simp] theorem cc48 : callB Tryd.prog 48 = true := by kernel_rfl
@[simp] theorem cc49 : callB Tryd.prog 49 = true := by kernel_rfl
@[simp] theorem cc50 : callB Tryd.prog 50 = true := by kernel_rfl
@[simp] theorem cc51 : callB Tryd.prog 51 = true := by kernel_rfl
@[simp] theorem cc52 : callB Tryd.prog 52 = true := by kernel_rfl
@[simp] theorem cc53 : callB Tryd.prog 53 = true := by kernel_rfl
@[simp] theorem cc54 : callB Tryd.prog 54 = true := by kernel_rfl
@[simp] theorem cc55 : callB Tryd.prog 55 = true := by kernel_rfl
@[simp] theorem cc56 : callB Tryd.prog 56 = true := by kernel_rfl
@[simp] theorem cc57 : callB Tryd.prog 57 = true := by kernel_rfl
@[simp] theorem cc58 : callB Tryd.prog 58 = true := by kernel_rfl
@[simp] theorem cc59 : callB Tryd.prog 59 = true := by kernel_rfl
@[simp] theorem cc60 : callB Tryd.prog 60 = true := by kernel_rfl
@[simp] theorem cc61 : callB Tryd.prog 61 = true := by kernel_rfl
@[simp] theorem cc62 : callB Tryd.prog 62 = true := by kernel_rfl
@[simp] theorem cc63 : callB Tryd.prog 63 = true := by kernel_rfl
@[simp] theorem cc64 : callB Tryd.prog 64 = true := by kernel_rfl
@[simp] theorem cc65 : callB Tryd.prog 65 = true := by kernel_rfl
@[simp] theorem cc66 : callB Tryd.prog 66 = true := by kernel_rfl
@[simp] theorem cc67 : callB Tryd.prog 67 = true := by kernel_rfl
@[simp] theorem cc68 : callB Tryd.prog 68 = true := by kernel_rfl
@[simp] theorem cc69 : callB Tryd.prog 69 = true := by kernel_rfl
@[simp] theorem cc70 : callB Tryd.prog 70 = true := by kernel_rfl
@[simp] theorem cc71 : callB Tryd.prog 71 = true := by kernel_rfl
@[simp] theorem cc72 : callB Tryd.prog 72 = true := by kernel_rfl
@[simp] theorem cc73 : callB Tryd.prog 73 = true := by kernel_rfl
@[simp] theorem cc74 : callB Tryd.prog 74 = true := by kernel_rfl
@[simp] theorem cc75 : callB Tryd.prog 75 = true := by kernel_rfl
@[simp] theorem cc76 : callB Tryd.prog 76 = true := by kernel_rfl
@[simp] theorem cc77 : callB Tryd.prog 77 = true := by kernel_rfl
@[simp] theorem cc78 : callB Tryd.prog 78 = true := by kernel_rfl
@[simp] theorem cc79 : callB Tryd.prog 79 = true := by kernel_rfl
@[simp] theorem cc80 : callB Tryd.prog 80 = true := by kernel_rfl
@[simp] theorem cc81 : callB Tryd.prog 81 = true := by kernel_rfl
@[simp] theorem cc82 : callB Tryd.prog 82 = true := by kernel_rfl
@[simp] theorem cc83 : callB Tryd.prog 83 = true := by kernel_rfl
@[simp] theorem cc84 : callB Tryd.prog 84 = true := by kernel_rfl
@[simp] theorem cc85 : callB Tryd.prog 85 = true := by kernel_rfl
@[simp] theorem cc86 : callB Tryd.prog 86 = true := by kernel_rfl
@[simp] theorem cc87 : callB Tryd.prog 87 = true := by kernel_rfl
@[simp] theorem cc88 : callB Tryd.prog 88 = true := by kernel_rfl
@[simp] theorem cc89 : callB Tryd.prog 89 = true := by kernel_rfl
@[simp] theorem cc90 : callB Tryd.prog 90 = true := by kernel_rfl
@[simp] theorem cc91 : callB Tryd.prog 91 = true := by kernel_rfl
@[simp] theorem cc92 : callB Tryd.prog 92 = true := by kernel_rfl
@[simp] theorem cc93 : callB Tryd.prog 93 = true := by kernel_rfl
@[simp] theorem cc94 : callB Tryd.prog 94 = true := by kernel_rfl
@[simp] theorem cc95 : callB Tryd.prog 95 = true := by kernel_rfl
@[simp] theorem cc98 : callB Tryd.prog 98 = true := by kernel_rfl
@[simp] theorem cc99 : callB Tryd.prog 99 = true := by kernel_rfl
@[simp] theorem cc100 : callB Tryd.prog 100 = true := by kernel_rfl
@[simp] theorem cc101 : callB Tryd.prog 101 = true := by kernel_rfl
@[simp] theorem cc112 : callB Tryd.prog 112 = true := by kernel_rfl
theorem ri24 : rowInfo Tryd.prog 24 = some (5, 1, 1) := by kernel_rfl
theorem ri23 : rowInfo Tryd.prog 23 = some (3, 1, 8) := by kernel_rfl
theorem si24 : sliceInfo Tryd.prog 24 = some (5, 1) := by kernel_rfl
theorem si23 : sliceInfo Tryd.prog 23 = some (3, 1) := by kernel_rfl
theorem z26 : zeroCellsOf Tryd.prog 26 = some #[.slice none 0 0, .slice none 0 0, .slice none 0 0] := by kernel_rfl
theorem z45 : zeroCellsOf Tryd.prog 45 = some #[.string ⟨#[]⟩, .slice none 0 0, .slice none 0 0] := by kernel_rfl
theorem sz26 : sizeIs Tryd.prog 26 3 = true := by kernel_rfl
theorem sz45 : sizeIs Tryd.prog 45 3 = true := by kernel_rfl
theorem bu26 : Tryd.prog.built 26 [] = some #[.slice none 0 0, .slice none 0 0, .slice none 0 0] := by kernel_rfl
theorem sz22 : sizeIs Tryd.prog 22 1 = true := by kernel_rfl
theorem sz23 : sizeIs Tryd.prog 23 1 = true := by kernel_rfl
theorem sz24 : sizeIs Tryd.prog 24 1 = true := by kernel_rfl
theorem sz5 : sizeIs Tryd.prog 5 1 = true := by kernel_rfl

end Go.L16
