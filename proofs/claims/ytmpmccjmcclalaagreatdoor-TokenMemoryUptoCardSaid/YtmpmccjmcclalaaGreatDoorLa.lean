/- Texts of mine for the claims about layer 1 (token), joined: L01La. -/
import Derived.Test.YtmpmccjmcclalaaGreatDoorJaz
import Derived.Test.YtmpmccjmcclalaaGreatDoorJat
set_option linter.all false
set_option linter.unusedSimpArgs false
set_option linter.unusedVariables false
/- Layer 1: the laws: what they share. -/
namespace Go.L01
open Go Go.Eng Go.RowKit Go.Proofs
set_option maxRecDepth 100000
set_option maxHeartbeats 2000000

/-! ### Statements under guards, one at a time -/
def goV (b : Bool) (o : Option Value) (d : Nat) (K : Env → World → Prop) (ρ : Env) (w : World) : Prop := if b then onV o (fun v => K (upd ρ d v) w) else K (upd ρ d undef) w
def goE (P : Program) (Q : Ks) (b : Bool) (d : Option Nat) (op : Op) (ty : TypeId) (K : Env → World → Prop) (ρ : Env) (w : World) : Prop := if b then effW P Q d op ty K ρ w else K (updO ρ d undef) w
section
variable {P : Program} {Q : Ks} {K : Env → World → Prop} {ρ : Env} {w : World} {r : List St}
theorem wa2 {g : Option (Nat × Bool)} {d : Nat} {e : Ex} : wps P Q (.asg g d e :: r) K ρ w = goV (gd ρ g) (e.ev ρ w) d (wps P Q r K) ρ w := rfl
theorem we2 {g : Option (Nat × Bool)} {d : Option Nat} {op : Op} {ty : TypeId} : wps P Q (.eff g d op ty :: r) K ρ w = goE P Q (gd ρ g) d op ty (wps P Q r K) ρ w := rfl
@[simp] theorem goV_t {d : Nat} {v : Value} : goV true (some v) d K ρ w = K (upd ρ d v) w := rfl
@[simp] theorem goV_f {o : Option Value} {d : Nat} : goV false o d K ρ w = K (upd ρ d undef) w := rfl
@[simp] theorem goE_t {d : Option Nat} {op : Op} {ty : TypeId} : goE P Q true d op ty K ρ w = effW P Q d op ty K ρ w := rfl
@[simp] theorem goE_f {d : Option Nat} {op : Op} {ty : TypeId} : goE P Q false d op ty K ρ w = K (updO ρ d undef) w := rfl
end
/-- What stands in slots that are not asked for any more is forgotten. -/
theorem callK_gen {Q : Ks} {d : Option Nat} {K : Env → World → Prop} {ρ : Env} {e : Ending} {w : World} (keep : List Nat) (h : ∀ ρ2 : Env, (∀ i ∈ keep, ρ2 i = ρ i) → callK Q d K ρ2 e w) : callK Q d K ρ e w := h ρ fun _ _ => rfl
def okR (w : World) : Ending → World → Prop := fun e w' => e = .returned (.bool true) ∧ Ext w w'
theorem slt_lit {W : World} {B : Nat} {l : List Bs} (hb : Blk W B (l.map encT).toArray 9) (hn : l.length ≤ 1000) : SlT W (.slice (some ⟨B, 0, none⟩) l.length l.length) l := by
  refine Own.sl (base := 0) (.inr ⟨B, 0, l.length, l.length, (l.map encT).toArray, rfl, Nat.zero_le _, hb.heap, by simp, Nat.le_refl _, ?_, ?_, ?_⟩) (by omega)
  · simp only [maxLen]; omega
  · simp
  · simp only [List.drop_zero]
    rw [List.take_of_length_le (by simp)]
@[simp] theorem cb12 : callB Tryz.prog 12 = true := by kernel_rfl
@[simp] theorem cb17 : callB Tryz.prog 17 = true := by kernel_rfl
@[simp] theorem cb22 : callB Tryz.prog 22 = true := by kernel_rfl
@[simp] theorem cb26 : callB Tryz.prog 26 = true := by kernel_rfl
@[simp] theorem cb27 : callB Tryz.prog 27 = true := by kernel_rfl
@[simp] theorem cb36 : callB Tryz.prog 36 = true := by kernel_rfl
@[simp] theorem cb28 : callB Tryz.prog 28 = true := by kernel_rfl
@[simp] theorem cb32 : callB Tryz.prog 32 = true := by kernel_rfl
@[simp] theorem cb37 : callB Tryz.prog 37 = true := by kernel_rfl

theorem short_len {s : Bs} (h : short1 s = true) : s.length ≤ 20100 := by
  simp only [short1, Bool.not_eq_true', Bool.or_eq_false_iff, decide_eq_false_iff_not] at h
  omega
theorem few_text {l : List Tok} (h : few l = true) : ∀ t ∈ l, t.text.length ≤ 40 := by
  simp only [few, Bool.and_eq_true, decide_eq_true_eq, List.all_eq_true] at h
  rw [List.take_of_length_le (by omega)] at h
  exact h.1
end Go.L01
