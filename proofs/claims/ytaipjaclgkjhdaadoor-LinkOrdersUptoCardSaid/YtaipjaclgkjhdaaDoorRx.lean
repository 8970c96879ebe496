/- Texts of mine for the claims about layer 16 (link), joined: L16Rx. -/
import Derived.Test.YtaipjaclgkjhdaaDoorKa
import Derived.Test.YtaipjaclgkjhdaaDoorRw
set_option linter.all false
set_option linter.unusedSimpArgs false
set_option linter.unusedVariables false
/- What further rows of the laws of layer 16 (link) share: slices that come in by themselves. -/
set_option linter.all false
set_option linter.unusedSimpArgs false
set_option linter.unusedVariables false
namespace Go.Proofs.YtaipjaclgkjhdaaDoor
open Go Go.ChangeShapes Go.WideShapes Go.ChangeAt Go.RowKit Go.Eng Go.L16
set_option maxRecDepth 100000
section
variable {H : Type} {enc : TypeId × Value → H} {W : World}
theorem cell_of {t e : TypeId} {base : Nat} {v : Value} (ht : Tryd.prog.underlying t = some (.slice e)) (h : Value.okWide Tryd.prog W .any base t v) : Cell.okWide Tryd.prog W .any base t v := by
  simpa only [Value.okWide, ht] using h
theorem openB1 {base : Nat} {v : Value} {d : DataW H} {p : List MemPlace} (hbk : Rows.uptoBulk d ≤ 1048576) (hv : Value.okWide Tryd.prog W .any base 24 v) (h : DataW.Trod enc Tryd.prog W 0 (fun _ => true) true 24 v d p) : ∃ bs, Sl encB W v bs := by
  obtain ⟨a0, l, c, rfl⟩ := okWide_slice und24 hv
  obtain ⟨n, hn⟩ := h
  exact openB (y := (d, p)) hbk (fun a l c e => by cases e; exact spot_of und24 (cell_of und24 hv)) hn
theorem openI1 {base : Nat} {v : Value} {d : DataW H} {p : List MemPlace} (hbk : Rows.uptoBulk d ≤ 1048576) (hv : Value.okWide Tryd.prog W .any base 23 v) (h : DataW.Trod enc Tryd.prog W 0 (fun _ => true) true 23 v d p) : ∃ ns, SlI W v ns := by
  obtain ⟨a0, l, c, rfl⟩ := okWide_slice und23 hv
  obtain ⟨n, hn⟩ := h
  exact openI (y := (d, p)) hbk (fun a l c e => by cases e; exact spot_of und23 (cell_of und23 hv)) hn
theorem openS1 {base : Nat} {v : Value} {d : DataW H} {p : List MemPlace} (hbk : Rows.uptoBulk d ≤ 1048576) (hv : Value.okWide Tryd.prog W .any base 22 v) (h : DataW.Trod enc Tryd.prog W 0 (fun _ => true) true 22 v d p) : ∃ ss, SlS W v ss := by
  obtain ⟨a0, l, c, rfl⟩ := okWide_slice und22 hv
  obtain ⟨n, hn⟩ := h
  exact openS (y := (d, p)) hbk (fun a l c e => by cases e; exact spot_of und22 (cell_of und22 hv)) hn
end
end Go.Proofs.YtaipjaclgkjhdaaDoor
