/- Texts of mine for the claims about layer 1 (token), joined: L01C. -/
import Derived.Test.YtmpmccjmcclalaaGreatDoorJav
set_option linter.all false
set_option linter.unusedSimpArgs false
set_option linter.unusedVariables false
/- Layer 1: contracts: the words and the signs. -/
namespace Go.L01
open Go Go.Eng Go.RowKit Go.Proofs
set_option maxRecDepth 100000
set_option maxHeartbeats 2000000

/-- New memory that holds these texts. -/
def NewT (w w' : World) (v : Value) (l : List Bs) : Prop := Own w.heap.size 9 1 w' v (l.map encT) ∧ Ext w w'
theorem NewT.sl {w w' : World} {v : Value} {l : List Bs} (h : NewT w w' v l) (hl : l.length < 4611686018427387904) : SlT w' v l := h.1.sl hl
theorem si25 : sliceInfo Tryz.prog 25 = some (9, 1) := by kernel_rfl
theorem wordsL_len : wordsL.length = 46 := rfl
theorem signsL_len : signsL.length = 21 := rfl

theorem flds_words : Lib.fields [97, 110, 100, 32, 97, 114, 114, 97, 121, 32, 98, 101, 103, 105, 110, 32, 98, 111, 111, 108, 32, 98, 114, 101, 97, 107, 32, 99, 108, 117, 115, 116, 101, 114, 32, 100, 111, 32, 100, 111, 119, 110, 32, 101, 108, 115, 101, 32, 101, 108, 115, 101, 105, 102, 32, 101, 110, 100, 32, 101, 120, 99, 101, 112, 116, 32, 102, 97, 108, 115, 101, 32, 102, 111, 114, 32, 104, 97, 115, 32, 105, 102, 32, 105, 110, 32, 105, 110, 116, 32, 105, 115, 32, 105, 116, 101, 114, 32, 109, 111, 100, 32, 110, 105, 108, 32, 110, 111, 116, 32, 110, 117, 108, 108, 32, 111, 110, 101, 111, 102, 32, 111, 114, 32, 111, 116, 104, 101, 114, 115, 32, 112, 114, 111, 99, 32, 112, 117, 116, 32, 114, 101, 99, 111, 114, 100, 32, 114, 101, 112, 32, 114, 101, 116, 117, 114, 110, 32, 114, 101, 116, 117, 114, 110, 115, 32, 115, 105, 103, 110, 97, 108, 32, 115, 105, 103, 110, 97, 108, 115, 32, 116, 97, 103, 32, 116, 97, 103, 99, 97, 115, 101, 32, 116, 104, 101, 110, 32, 116, 114, 117, 101, 32, 117, 112, 32, 118, 97, 114, 32, 119, 104, 101, 110, 32, 119, 104, 101, 114, 101, 32, 119, 104, 105, 108, 101, 32, 121, 105, 101, 108, 100, 32, 121, 105, 101, 108, 100, 115] = wordsL := by kernel_rfl
theorem flds_signs : Lib.fields [36, 32, 40, 32, 41, 32, 42, 32, 43, 32, 44, 32, 45, 32, 46, 32, 47, 32, 58, 32, 58, 61, 32, 59, 32, 60, 32, 60, 61, 32, 61, 32, 63, 32, 91, 32, 93, 32, 95, 32, 123, 32, 125] = signsL := by kernel_rfl

theorem new_fields {w : World} (hG : G w) (s : Bs) (l : List Bs) (hl : l.length ≤ maxLen) (hs : s.length < 4294967281) (ha : s.all (fun b => decide (b.toNat < 128)) = true) (hf : Lib.fields s = l) :
    Calls Tryz.prog 46 #[.string (mkS s)] w fun e w' => ∃ v, e = .returned v ∧ NewT w w' v l := by
  refine (Tryz.fields (mkS s) w hs (fun j b hj => ?_) hG.sp).mono ?_
  · have := List.all_eq_true.1 ha b (List.mem_of_getElem? hj)
    simpa using this
  · rintro _ _ ⟨rfl, rfl⟩
    have hf' : Lib.fields (mkS s).data.toList = l := hf
    rw [hf']
    refine ⟨_, rfl, ?_, ext_alloc _ _⟩
    exact Own.lit (cs := l.map encT) (blk_alloc w _ 9) (by simp) (Nat.le_refl _) hl

theorem t_words {w : World} (hG : G w) : Calls Tryz.prog 18 #[] w fun e w' => ∃ v, e = .returned v ∧ NewT w w' v wordsL := by
  refine ir18_calls fun ρ => ?_
  simp [ir18]
  refine (new_fields hG _ wordsL (by decide) (by decide) (by decide) flds_words).mono ?_
  rintro _ w1 ⟨v, rfl, h⟩
  simp [h]
theorem r_words {w : World} : Calls Tryz.prog 19 #[] w fun e w' => ∃ v, e = .returned v ∧ NewT w w' v wordsL := by
  refine ir19_calls fun ρ => ?_
  simp [ir19]
  refine eff_lit si25 (by decide) (by decide) (by simp [Value.cells]) fun B W hB hE hb _ => ?_
  simp [Value.cells] at hb ⊢
  exact ⟨Own.lit (cs := wordsL.map encT) hb rfl hB (by decide), hE⟩
theorem r_signs {w : World} : Calls Tryz.prog 21 #[] w fun e w' => ∃ v, e = .returned v ∧ NewT w w' v signsL := by
  refine ir21_calls fun ρ => ?_
  simp [ir21]
  refine eff_lit si25 (by decide) (by decide) (by simp [Value.cells]) fun B W hB hE hb _ => ?_
  simp [Value.cells] at hb ⊢
  exact ⟨Own.lit (cs := signsL.map encT) hb rfl hB (by decide), hE⟩

theorem sorted_signs : (signsL.mergeSort fun x y => decide (x ≤ y)) = signsL := List.mergeSort_of_pairwise (by decide)
theorem t_sortSigns {w : World} {base : Nat} {v : Value} (hO : Own base 9 1 w v (signsL.map encT)) (hbase : base ≤ w.heap.size) :
    Calls Tryz.prog 47 #[v] w fun e w' => e = .returned (.tuple #[]) ∧ Own base 9 1 w' v (signsL.map encT) ∧ Below base w w' := by
  rcases hO with ⟨rfl, hks⟩ | ⟨g, off, n, cap, cur, rfl, hb, hg, hn, hnc, hm, hcs, ht⟩
  · cases hks
  · have hn' : n = signsL.length := by simp at hn; omega
    have hsl := Own.sl (enc := encT) (xs := signsL) (.inr ⟨g, off, n, cap, cur, rfl, hb, hg, hn, hnc, hm, hcs, ht⟩ : Own base 9 1 w _ _) (by decide)
    have hgl : g < w.heap.size := (Array.getElem?_eq_some_iff.1 hg).1
    have hH : Sort.Holds encStr w g off signsL.toArray := by
      intro j hj
      have hj' : j < signsL.length := by simpa using hj
      have := hsl.cell j hj'
      simp only [slAddr, add_lit] at this
      refine ⟨?_, by simp [World.frozen?, hg]⟩
      rw [this]
      simp [hj']
      rfl
    have hc := Tryz.sort_some g off cap signsL w hH hgl (by decide)
    rw [← hn', sorted_signs] at hc
    refine hc.mono ?_
    rintro _ _ ⟨rfl, m, os, rfl⟩
    have hheap : (Sort.grow (Sort.putRow encStr (Sort.ahead w m) g off signsL.toArray) os).heap[g]? = some (.cells (Sort.putCells encStr off signsL.toArray cur) 9 (0, 0)) := by
      rw [Sort.heap_grow_old _ _ (by simpa [Sort.putRow, Sort.mapBlock] using hgl)]
      simp [Sort.putRow, Sort.mapBlock, Sort.ahead, Array.getElem?_modify, hg, Sort.onCells]
    refine ⟨rfl, .inr ⟨g, off, n, cap, _, rfl, hb, hheap, hn, hnc, hm, by simpa [Sort.putCells] using hcs, ?_⟩, ?_⟩
    · rw [← ht]
      refine List.ext_getElem? fun i => ?_
      simp only [List.getElem?_take, List.getElem?_drop]
      split
      · rename_i hi
        have hi2 : i < signsL.length := by omega
        have hsz : off + i < cur.size := by omega
        have hcell := hsl.cell i hi2
        simp only [slAddr, add_lit, World.cell?, hg] at hcell
        simp [hsz] at hcell
        simp only [Array.getElem?_toList]
        simp [Sort.putCells, hsz, hi2]
        rw [hcell]; rfl
      · rfl
    · refine ⟨rfl, rfl, rfl, by simp [Sort.grow, Sort.putRow, Sort.mapBlock, Sort.ahead], fun k hk => ?_⟩
      rw [Sort.heap_grow_old _ _ (by simp [Sort.putRow, Sort.mapBlock, Sort.ahead]; omega)]
      have : g ≠ k := by omega
      simp [Sort.putRow, Sort.mapBlock, Sort.ahead, Array.getElem?_modify, this]
theorem t_signs {w : World} (hG : G w) : Calls Tryz.prog 20 #[] w fun e w' => ∃ v, e = .returned v ∧ NewT w w' v signsL := by
  refine ir20_calls fun ρ => ?_
  simp [ir20]
  refine (new_fields hG _ signsL (by decide) (by decide) (by decide) flds_signs).mono ?_
  rintro _ w1 ⟨v, rfl, h1, h2⟩
  simp
  refine (t_sortSigns h1 h2.size).mono ?_
  rintro _ w2 ⟨rfl, h3, h4⟩
  simp
  exact ⟨h3, ext_of_below h2 h4⟩
end Go.L01
