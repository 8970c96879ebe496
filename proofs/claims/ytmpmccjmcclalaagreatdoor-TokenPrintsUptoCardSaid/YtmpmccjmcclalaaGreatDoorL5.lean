/- Texts of mine for the claims about layer 1 (token), joined: L01L5. -/
import Derived.Test.YtmpmccjmcclalaaGreatDoorLa
set_option linter.all false
set_option linter.unusedSimpArgs false
set_option linter.unusedVariables false
/- Layer 1: the law of printed tokens. -/
namespace Go.L01
open Go Go.Eng Go.RowKit Go.Proofs
set_option maxRecDepth 100000
set_option maxHeartbeats 2000000

theorem law5 {w : World} (hG : G w) {v : Value} {l : List Tok} (hl : SlK w v l) (a b : Tok) : Calls Tryz.prog 5 #[v, encK a, encK b] w (okR w) := by
  refine ir5_calls fun ρ h0 h1 h2 => ?_
  simp -implicitDefEqProofs [ir5]
  refine eff_box fun B4 W1 hB4 hE1 hb4 _ => ?_
  simp -implicitDefEqProofs [h1, encK, Value.cells] at hb4 ⊢
  refine eff_box fun B5 W2 hB5 hE2 hb5 _ => ?_
  simp -implicitDefEqProofs [h0, h2, encK, Value.cells] at hb5 ⊢
  have hE12 := hE1.trans' hE2
  have hb42 := hb4.ext hE2
  refine (l_few (hl.ext hE12)).mono ?_
  rintro _ _ ⟨rfl, rfl⟩
  cases hf : few l with
  | false =>
    simp -implicitDefEqProofs [hf]
    refine (l_read (hG.ext hE12)).mono ?_
    rintro _ W3 ⟨rfl, hE3⟩
    simp -implicitDefEqProofs [okR]
    exact hE12.trans' hE3
  | true =>
    have hx : ∀ t ∈ l, t.text.length ≤ 281474976710656 := fun t ht => by have := few_text hf t ht; omega
    simp -implicitDefEqProofs [hf, hb42.cell, hb5.cell]
    refine eff_lit si28 (by decide) (by decide) (by simp [Value.cells]) fun B6 W3 hB6 hE3 hb6 _ => ?_
    simp -implicitDefEqProofs [Value.cells] at hb6 ⊢
    have hK : SlK W3 (.slice (some ⟨B6, 0, none⟩) 2 2) [a, b] := slk_lit (ts := [a, b]) hb6 (by simp)
    have hE13 := hE12.trans' hE3
    refine (l_few hK).mono ?_
    rintro _ _ ⟨rfl, rfl⟩
    cases hf2 : few [a, b] with
    | false =>
      simp -implicitDefEqProofs [hf2]
      refine (l_read (hG.ext hE13)).mono ?_
      rintro _ W4 ⟨rfl, hE4⟩
      simp -implicitDefEqProofs [okR]
      exact hE13.trans' hE4
    | true =>
      have ha := few_text hf2 a (by simp)
      have hb := few_text hf2 b (by simp)
      simp -implicitDefEqProofs [hf2, ir5_k0, h0]
      refine (t_Check (hG.ext hE13) (hl.ext hE13) hx).mono ?_
      rintro _ W4 ⟨rfl, hE4⟩
      have g4 := hE13.trans' hE4
      simp -implicitDefEqProofs [h0]
      refine (r_Check (hl.ext g4) hx).mono ?_
      rintro _ W5 ⟨rfl, hE5⟩
      have g5 := g4.trans' hE5
      simp -implicitDefEqProofs [h0]
      refine (t_Print (hG.ext g5) (hl.ext g5) hx).mono ?_
      rintro _ W6 ⟨rfl, hE6⟩
      have g6 := g5.trans' hE6
      simp -implicitDefEqProofs [h0]
      refine (r_Print (hl.ext g6) hx).mono ?_
      rintro _ W7 ⟨rfl, hE7⟩
      have g7 := g6.trans' hE7
      have hE37 := ((hE4.trans' hE5).trans' hE6).trans' hE7
      have k4 := (hb42.ext hE3).ext hE37
      have k5 := (hb5.ext hE3).ext hE37
      simp -implicitDefEqProofs [k4.cell, k5.cell]
      refine (t_Apart (hG.ext g7) a b (by omega) (by omega)).mono ?_
      rintro _ W8 ⟨rfl, hE8⟩
      have g8 := g7.trans' hE8
      simp -implicitDefEqProofs [(k4.ext hE8).cell, (k5.ext hE8).cell]
      refine (r_Apart a b (by omega) (by omega)).mono ?_
      rintro _ W9 ⟨rfl, hE9⟩
      have g9 := g8.trans' hE9
      simp -implicitDefEqProofs
      refine (l_read (hG.ext g9)).mono ?_
      rintro _ W10 ⟨rfl, hE10⟩
      simp -implicitDefEqProofs [okR]
      exact g9.trans' hE10
end Go.L01
