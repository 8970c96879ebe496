/- Texts of mine for the claims about layer 1 (token), joined: EngJ. -/
import Derived.Test.YtmpmccjmcclalaaGreatDoorJai
set_option linter.all false
set_option linter.unusedSimpArgs false
set_option linter.unusedVariables false
/- Stores into slices and variables of the call's own. -/
namespace Go.Eng
open Go.RowKit
section
variable {P : Program} {Q : Ks} {d : Option Nat} {ty : TypeId} {K : Env → World → Prop} {ρ : Env} {w : World}

theorem only_grownBy {B : Nat} {w W : World} (h : Only B w W) : w.grownBy W (some B) :=
  ⟨h.os, h.tape, h.output, by rw [h.size]; exact Nat.le_refl _, fun k _ hne => h.block k (by simpa using hne)⟩

/-- A store into a slice of the call's own. -/
theorem eff_storeOwn {t : TypeId} {p x : Operand} {e : Nat} {sv : Value} {xs : List Value} {W0 : World} {i : Nat} (hE : Ext W0 w) (hown : Own W0.heap.size e 1 w sv xs) (hi : i < xs.length) (hp : evE ρ p = .pointer (some (slAddr sv i)))
    (hx : (evE ρ x).cells = #[evE ρ x]) (h1 : (evE ρ x).oneCell = true) (hs : sizeIs P t 1 = true) (h : ∀ W, Ext W0 W → Own W0.heap.size e 1 W sv (xs.set i (evE ρ x)) → w.grownBy W sv.ownBlock → K (updO ρ d undef) W) : effW P Q d (.store t p x) ty K ρ w := by
  rcases hown with ⟨rfl, rfl⟩ | ⟨g, off, n, cap, cur, rfl, hb, hg, hn, hnc, hm, hcs, ht⟩
  · simp at hi
  · have hb0 : Blk w g cur e := ⟨hg⟩
    simp only [slAddr, add_lit] at hp
    refine eff_store1 (B := g) (i := off + i) hp hb0 (by omega) hx h1 hs fun W hO hB => ?_
    refine h W (hO.ext hE hb) (.inr ⟨g, off, n, cap, _, rfl, hb, hB.heap, by simpa using hn, hnc, hm, by simpa using hcs, ?_⟩) (by simpa [Value.ownBlock] using only_grownBy hO)
    rw [Array.toList_set, ← ht, ← List.set_drop, List.take_set]
end
end Go.Eng
