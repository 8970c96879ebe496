/- Texts of mine for the claims about layer 16 (link), joined: L16H. -/
import Derived.Test.YtaipjaclgkjhdaaDoorJav
import Derived.Test.YtaipjaclgkjhdaaDoorJaw
import Derived.Test.YtaipjaclgkjhdaaDoorJaj
set_option linter.all false
set_option linter.unusedSimpArgs false
set_option linter.unusedVariables false
/- Layer 16: contracts of the reference: Reached, Missing. -/
namespace Go.L16
open Go Go.Eng Go.RowKit Go.Proofs
set_option maxRecDepth 10000

noncomputable def reachedL (l : List Obj) (roots : List ByteArray) : List ByteArray := Classical.epsilon fun R => IsReached l roots R
theorem reachedL_eq {l : List Obj} {roots R : List ByteArray} (h : IsReached l roots R) : reachedL l roots = R := (Classical.epsilon_spec ⟨R, h⟩ : IsReached l roots (reachedL l roots)).uniq h
noncomputable def missingL (l : List Obj) (roots : List ByteArray) : List ByteArray := (reachedL l roots).filter fun s => decide (idxO l s < 0)
/-- What Reached and Missing answer. -/
noncomputable def reachedA (l : List Obj) (roots : List ByteArray) : List ByteArray := if askedE l roots = 0 then reachedL l roots else []
noncomputable def missingA (l : List Obj) (roots : List ByteArray) : List ByteArray := if askedE l roots = 0 then missingL l roots else []

theorem asked_ok {l : List Obj} {roots : List ByteArray} (h : askedE l roots = 0) : LibOk l ∧ roots.length ≤ 60 := by
  unfold askedE at h
  split at h
  · simp at h
  · rename_i hc
    refine ⟨libOk_of h, ?_⟩
    rcases Nat.lt_or_ge 60 roots.length with h60 | h60
    · exact absurd ⟨h, h60⟩ hc
    · exact h60

theorem cb69 : callB Tryd.prog 69 = true := by kernel_rfl
theorem cb65 : callB Tryd.prog 65 = true := by kernel_rfl
theorem cb35 : callB Tryd.prog 35 = true := by kernel_rfl
theorem cb37 : callB Tryd.prog 37 = true := by kernel_rfl

theorem ref_Reached {w : World} {v u : Value} {l : List Obj} {roots : List ByteArray} (hl : SlO w v l) (hr : SlS w u roots) :
    Calls Tryd.prog 35 #[v, u] w fun e w' => ∃ x, e = .returned (.tuple #[x, .int .i64 (askedE l roots)]) ∧ SlS w' x (reachedA l roots) ∧ (askedE l roots = 0 → IsReached l roots (reachedL l roots)) ∧ Ext w w' := by
  refine ir35_calls fun ρ h0 h1 => ?_
  simp [ir35, h0, h1, cb69]
  refine (ref_asked hl hr).mono ?_
  rintro _ w1 ⟨rfl, hw1⟩
  by_cases ha : askedE l roots = 0
  · obtain ⟨hok, h60⟩ := asked_ok ha
    simp [ha, ir35_k0, h0, h1, cb65]
    refine (ref_reached (hl.ext hw1) (hr.ext hw1) hok h60).mono ?_
    rintro _ w2 ⟨x, R, rfl, hx, hR, _, hw2⟩
    simp [reachedA, ha, reachedL_eq hR]
    exact ⟨hx, hR, hw1.trans' hw2⟩
  · simp [ha, reachedA]
    exact ⟨⟨Sl.nil _ _, by simp⟩, hw1⟩

theorem ref_Missing {w : World} {v u : Value} {l : List Obj} {roots : List ByteArray} (hl : SlO w v l) (hr : SlS w u roots) :
    Calls Tryd.prog 37 #[v, u] w fun e w' => ∃ x, e = .returned (.tuple #[x, .int .i64 (askedE l roots)]) ∧ SlS w' x (missingA l roots) ∧ (askedE l roots = 0 → IsReached l roots (reachedL l roots)) ∧ Ext w w' := by
  refine ir37_calls fun ρ h0 h1 => ?_
  simp [ir37, h0, h1, cb35]
  refine (ref_Reached hl hr).mono ?_
  rintro _ w1 ⟨x, rfl, hx, hR, hw1⟩
  by_cases ha : askedE l roots = 0
  · obtain ⟨hok, h60⟩ := asked_ok ha
    have hR := hR ha
    have hRl : (reachedL l roots).length ≤ 120060 := Nat.le_trans (nodup_le _ _ hR.1.nodup fun x hx => reach_all ((hR.2 x).1 hx)) (allNames_len hok h60)
    simp only [reachedA, ha, if_true] at hx
    simp [ha, ir37_k4]
    generalize reachedL l roots = R at *
    refine loopC 9 R.length (fun k ρ' w' => Ext w1 w' ∧ ρ' 0 = v ∧ ρ' 6 = x ∧ Own w1.heap.size 9 1 w' (ρ' 8) (((R.take k).filter fun s => decide (idxO l s < 0)).map Value.string)) (by simp) ⟨ext_refl _, by simp [h0], by simp, by simp; exact Own.nil _ _ _ _⟩ ?_
    rintro k ρ' w' hk h9 ⟨hE, h0, h6, hO⟩
    have hx' := hx.ext hE
    have hfl := List.length_filter_le (fun s => decide (idxO l s < 0)) (R.take k)
    rw [List.length_take] at hfl
    by_cases hlt : k < R.length
    · have htk : (R.take (k + 1)).filter (fun s => decide (idxO l s < 0)) = (R.take k).filter (fun s => decide (idxO l s < 0)) ++ if idxO l R[k] < 0 then [R[k]] else [] := by
        rw [List.take_succ_eq_append_getElem hlt, List.filter_append]
        congr 1
        by_cases hi : idxO l R[k] < 0 <;> simp [hi]
      simp [ir37_l2, ir37_k1, h0, h6, h9, hx'.1.is, hx'.1.len, hlt, hx'.1.cell k hlt, cb66]
      refine (ref_find _ (hl.ext (hw1.trans' hE))).mono ?_
      rintro _ _ ⟨rfl, rfl⟩
      by_cases hi : idxO l R[k] < 0
      · simp [hi, h6, h9, hx'.1.is, hx'.1.len, hlt, hx'.1.cell k hlt]
        refine eff_lit si22 (by decide) (by decide) (by simp [Value.cells]) fun B W hB hE1 hb _ => ?_
        simp [Value.cells] at hb
        simp
        refine eff_append ri22 (hE.trans' hE1) (by rfl) (by rfl) (by simpa using hO.ext hE1) (by simpa using hb.cells (n := 1) (by simp)) (by simp [Value.oneCell']) (by simp; omega) (by simp; omega) fun u2 W2 hE2 ho2 _ _ => ?_
        simp [ir37_k0, h9, hlt, h0, h6, i64w (n := (k : Int) + 1) (by omega)]
        refine ⟨hE2, ?_⟩
        rw [htk, if_pos hi]
        simpa using ho2
      · simp [hi, ir37_k0, h9, hlt, h0, h6, i64w (n := (k : Int) + 1) (by omega)]
        refine ⟨hE, ?_⟩
        rw [htk, if_neg hi]
        simpa using hO
    · have hk' : k = R.length := by omega
      subst hk'
      simp [ir37_l2, ir37_k3, h0, h6, h9, hx'.1.is, hx'.1.len]
      rw [List.take_length] at hO hfl
      have : missingA l roots = R.filter fun s => decide (idxO l s < 0) := by rw [missingA, if_pos ha, missingL, reachedL_eq hR]
      rw [this]
      exact ⟨⟨hO.sl (by omega), fun s hs => hx.2 s (List.mem_filter.1 hs).1⟩, hR, hw1.trans' hE⟩
  · simp [ha, missingA]
    exact ⟨⟨Sl.nil _ _, by simp⟩, hw1⟩
end Go.L16
