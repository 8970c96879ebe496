/- Texts of mine for the claims about layer 1 (token), joined: L01La. -/
import Derived.Test.YtmpmccjmcclalaaGreatDoorJaz
import Derived.Test.YtmpmccjmcclalaaGreatDoorJat
set_option linter.all false
set_option linter.unusedSimpArgs false
set_option linter.unusedVariables false
/- Layer 1: the laws: what they share. -/
namespace Go.L01
open Go Go.Eng Go.RowKit Go.Proofs
set_option maxRecDepth 100000
set_option maxHeartbeats 2000000

def okR (w : World) : Ending → World → Prop := fun e w' => e = .returned (.bool true) ∧ Ext w w'
theorem slt_lit {W : World} {B : Nat} {l : List Bs} (hb : Blk W B (l.map encT).toArray 9) (hn : l.length ≤ 1000) : SlT W (.slice (some ⟨B, 0, none⟩) l.length l.length) l := by
  refine Own.sl (base := 0) (.inr ⟨B, 0, l.length, l.length, (l.map encT).toArray, rfl, Nat.zero_le _, hb.heap, by simp, Nat.le_refl _, ?_, ?_, ?_⟩) (by omega)
  · simp only [maxLen]; omega
  · simp
  · simp only [List.drop_zero]
    rw [List.take_of_length_le (by simp)]
@[simp] theorem cb12 : callB Tryz.prog 12 = true := by kernel_rfl
@[simp] theorem cb17 : callB Tryz.prog 17 = true := by kernel_rfl
@[simp] theorem cb22 : callB Tryz.prog 22 = true := by kernel_rfl
@[simp] theorem cb26 : callB Tryz.prog 26 = true := by kernel_rfl
@[simp] theorem cb27 : callB Tryz.prog 27 = true := by kernel_rfl
@[simp] theorem cb36 : callB Tryz.prog 36 = true := by kernel_rfl
@[simp] theorem cb28 : callB Tryz.prog 28 = true := by kernel_rfl
@[simp] theorem cb32 : callB Tryz.prog 32 = true := by kernel_rfl
@[simp] theorem cb37 : callB Tryz.prog 37 = true := by kernel_rfl

theorem short_len {s : Bs} (h : short1 s = true) : s.length ≤ 20100 := by
  simp only [short1, Bool.not_eq_true', Bool.or_eq_false_iff, decide_eq_false_iff_not] at h
  omega
theorem few_text {l : List Tok} (h : few l = true) : ∀ t ∈ l, t.text.length ≤ 40 := by
  simp only [few, Bool.and_eq_true, decide_eq_true_eq, List.all_eq_true] at h
  rw [List.take_of_length_le (by omega)] at h
  exact h.1
end Go.L01
