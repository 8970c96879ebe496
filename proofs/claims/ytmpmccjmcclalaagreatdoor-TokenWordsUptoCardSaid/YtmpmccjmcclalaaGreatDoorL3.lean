/- Texts of mine for the claims about layer 1 (token), joined: L01L3. -/
import Derived.Test.YtmpmccjmcclalaaGreatDoorLa
set_option linter.all false
set_option linter.unusedSimpArgs false
set_option linter.unusedVariables false
/- Layer 1: the law of words. -/
namespace Go.L01
open Go Go.Eng Go.RowKit Go.Proofs
set_option maxRecDepth 100000
set_option maxHeartbeats 2000000

theorem law3 {w : World} (hG : G w) (s : Bs) : Calls Tryz.prog 3 #[.string (mkS s)] w (okR w) := by
  refine ir3_calls fun ρ h0 => ?_
  simp (maxSteps := 2000000) -implicitDefEqProofs [ir3]
  refine (l_read hG).mono ?_
  rintro _ W1 ⟨rfl, hE1⟩
  by_cases h100 : 100 < s.length
  · have h100' : (100 : Int) < s.length := by omega
    simp (maxSteps := 2000000) -implicitDefEqProofs [h0, h100, h100', okR]
    exact hE1
  have h100' : ¬ (100 : Int) < s.length := by omega
  simp (maxSteps := 2000000) -implicitDefEqProofs [h0, h100, h100']
  refine (t_isName (hG.ext hE1) s).mono ?_
  rintro _ W2 ⟨rfl, hE2⟩
  simp (maxSteps := 2000000) -implicitDefEqProofs [h0]
  refine (r_isName s).mono ?_
  rintro _ W3 ⟨rfl, hE3⟩
  have h3 := (hE1.trans' hE2).trans' hE3
  simp (maxSteps := 2000000) -implicitDefEqProofs [h0]
  refine (t_isWord (hG.ext h3) s).mono ?_
  rintro _ W4 ⟨rfl, hE4⟩
  simp (maxSteps := 2000000) -implicitDefEqProofs [h0]
  refine (r_isWord s).mono ?_
  rintro _ W5 ⟨rfl, hE5⟩
  have h5 := (h3.trans' hE4).trans' hE5
  simp (maxSteps := 2000000) -implicitDefEqProofs
  refine (t_words (hG.ext h5)).mono ?_
  rintro _ W6 ⟨v6, rfl, hn6⟩
  have h6 := h5.trans' hn6.2
  have hs6 := hn6.sl (by rw [show wordsL.length = 46 from rfl]; decide)
  simp (maxSteps := 2000000) -implicitDefEqProofs
  refine r_words.mono ?_
  rintro _ W7 ⟨v7, rfl, hn7⟩
  have h7 := h6.trans' hn7.2
  have hs7 := hn7.sl (by rw [show wordsL.length = 46 from rfl]; decide)
  simp (maxSteps := 2000000) -implicitDefEqProofs
  refine (r_SameStrings (hs6.ext hn7.2) hs7).mono ?_
  rintro _ W8 ⟨rfl, hE8⟩
  have h8 := h7.trans' hE8
  simp (maxSteps := 2000000) -implicitDefEqProofs
  refine (t_signs (hG.ext h8)).mono ?_
  rintro _ W9 ⟨v9, rfl, hn9⟩
  have h9 := h8.trans' hn9.2
  have hs9 := hn9.sl (by rw [show signsL.length = 21 from rfl]; decide)
  simp (maxSteps := 2000000) -implicitDefEqProofs
  refine r_signs.mono ?_
  rintro _ W10 ⟨v10, rfl, hn10⟩
  have h10 := h9.trans' hn10.2
  have hs10 := hn10.sl (by rw [show signsL.length = 21 from rfl]; decide)
  simp (maxSteps := 2000000) -implicitDefEqProofs
  refine (r_SameStrings (hs9.ext hn10.2) hs10).mono ?_
  rintro _ W11 ⟨rfl, hE11⟩
  simp (maxSteps := 2000000) -implicitDefEqProofs [okR]
  exact h10.trans' hE11

end Go.L01
