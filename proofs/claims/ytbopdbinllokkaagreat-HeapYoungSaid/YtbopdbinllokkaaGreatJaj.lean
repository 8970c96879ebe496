/- Texts of mine for the claims about layer 17 (heap), joined: EngK. -/
import Derived.Test.YtbopdbinllokkaaGreatJai
set_option linter.all false
set_option linter.unusedSimpArgs false
set_option linter.unusedVariables false
namespace Go.Eng
open Go.RowKit
@[simp] theorem oc_slice (a : Option Addr) (n c : Nat) : (Value.slice a n c).oneCell = true := rfl
@[simp] theorem oc_string (s : ByteArray) : (Value.string s).oneCell = true := rfl
@[simp] theorem oc_int (k : IntKind) (n : Int) : (Value.int k n).oneCell = true := rfl
@[simp] theorem oc_bool (b : Bool) : (Value.bool b).oneCell = true := rfl
@[simp] theorem oc_pointer (a : Option Addr) : (Value.pointer a).oneCell = true := rfl
@[simp] theorem ownBlock_lit (B o n c : Nat) : (Value.slice (some ⟨B, o, none⟩) n c).ownBlock = some B := rfl
@[simp] theorem ownBlock_nil (n c : Nat) : (Value.slice none n c).ownBlock = none := rfl
theorem Own.isl {base e sz : Nat} {w : World} {v : Value} {xs : List Value} (h : Own base e sz w v xs) : isSl v = true := by
  rcases h with ⟨rfl, _⟩ | ⟨g, off, n', cap, cur, rfl, hb, hg, hl, hc, _⟩
  · rfl
  · simp [isSl, hc]
section
variable {P : Program} {Q : Ks} {d : Option Nat} {ty : TypeId} {K : Env → World → Prop} {ρ : Env} {w : World}
theorem eff_storeN {t : TypeId} {p x : Operand} {B : Nat} {cs : Array Value} {T : TypeId} (hp : evE ρ p = .pointer (some ⟨B, 0, none⟩)) (hb : Blk w B cs T) (hsz : (evE ρ x).cells.size = cs.size) (h1 : ∀ v ∈ (evE ρ x).cells.toList, v.oneCell = true)
    (hs : sizeIs P t cs.size = true) (h : ∀ W, Only B w W → Blk W B (evE ρ x).cells T → K (updO ρ d undef) W) : effW P Q d (.store t p x) ty K ρ w := by
  show sizeIs P t (evE ρ x).cells.size = true ∧ ptrK (evE ρ p) _
  rw [hp, hsz]
  refine ⟨hs, ?_⟩
  show storesW ⟨B, 0, none⟩ _ 0 _ w
  refine storesW_blk _ 0 w cs hb (by rw [Array.length_toList, hsz]; omega) h1 fun W' hO hB' => ?_
  refine h W' hO ?_
  have : (cs.toList.take 0 ++ (evE ρ x).cells.toList ++ cs.toList.drop (0 + (evE ρ x).cells.toList.length)).toArray = (evE ρ x).cells := by
    have hd : List.drop (0 + (evE ρ x).cells.toList.length) cs.toList = [] := List.drop_eq_nil_of_le (by rw [Array.length_toList, Array.length_toList, hsz]; omega)
    rw [hd]; simp
  rw [this] at hB'
  exact hB'
theorem row_blk {B : Nat} {cs : Array Value} {T : TypeId} (hb : Blk w B cs T) : rowAt w ⟨B, 0, none⟩ 0 cs.size = some cs.toList := by
  have := rowAt_of (w := w) (a := ⟨B, 0, none⟩) (l := cs.toList) (i := 0) fun j hj => by
    rw [add_lit, hb.cell]
    have hj' : j < cs.size := by simpa using hj
    simp [hj']
  simpa using this
theorem isSl_one {v : Value} (h : isSl v = true) : v.oneCell = true := by
  rcases isSl_cases h with ⟨b, o, n, c, rfl, _⟩ | rfl | ⟨b, o, s, rfl⟩ <;> rfl
end
end Go.Eng
