/- Texts of mine for the claims about layer 1 (token), joined: L01L9. -/
import Derived.Test.YtmpmccjmcclalaaGreatDoorLa
set_option linter.all false
set_option linter.unusedSimpArgs false
set_option linter.unusedVariables false
/- Layer 1: the law of two tokens side by side. -/
namespace Go.L01
open Go Go.Eng Go.RowKit Go.Proofs
set_option maxRecDepth 100000
set_option maxHeartbeats 2000000

theorem check_two (a b : Tok) (ha : a.line = 1) (hb : b.line = 1) : (check [a, b]).2 = if rights a b then 0 else 1 := by
  cases hra : right a.kind a.text with
  | false =>
    have h0 : badT [a, b] 0 = 1 := by
      rw [badT_of (by simp) (by omega)]
      simp [hra]
    rw [check_at (k := 0) (by simp) (by simp) (by rw [h0]; decide)]
    simp [h0, rights, hra]
  | true =>
    have h0 : badT [a, b] 0 = 0 := by
      rw [badT_of (by simp) (by omega)]
      simp [hra, ha]
    cases hrb : right b.kind b.text with
    | false =>
      have h1 : badT [a, b] 1 = 1 := by
        rw [badT_of (by simp) (by omega)]
        simp [hrb]
      rw [check_at (k := 1) (by simp) (fun i hi => by
        have : i = 0 := by omega
        subst this; exact h0) (by rw [h1]; decide)]
      simp [h1, rights, hra, hrb]
    | true =>
      have h1 : badT [a, b] 1 = 0 := by
        rw [badT_of (by simp) (by omega)]
        simp [hrb, ha, hb]
      rw [check_none fun i hi => by
        have : i = 0 ∨ i = 1 := by simp at hi; omega
        rcases this with rfl | rfl
        · exact h0
        · exact h1]
      simp [rights, hra, hrb]
theorem law9 {w : World} (hG : G w) (a0 b0 : Tok) : Calls Tryz.prog 9 #[encK a0, encK b0] w (okR w) := by
  refine ir9_calls fun ρ h0 h1 => ?_
  simp -implicitDefEqProofs [ir9]
  refine eff_box fun B W hB hE hbk _ => ?_
  simp -implicitDefEqProofs [h0, encK, Value.cells] at hbk ⊢
  refine eff_box fun B2 W2 hB2 hE2 hbk2 _ => ?_
  simp -implicitDefEqProofs [h1, encK, Value.cells] at hbk2 ⊢
  have hb1 := hbk.ext hE2
  have hE12 := hE.trans' hE2
  have hlt := hbk.lt
  refine eff_store1 (B := B) (i := 2) (by simp) hb1 (by simp) rfl rfl sz3 fun W5 hO5 hb5 => ?_
  simp -implicitDefEqProofs at hb5 ⊢
  refine eff_store1 (B := B2) (i := 2) (by simp) (hO5.blk hbk2 (by omega)) (by simp) rfl rfl sz3 fun W6 hO6 hb6 => ?_
  simp at hb6
  have hb56 := hO6.blk hb5 (by omega)
  have g6 : Ext w W6 := hO6.ext (hO5.ext hE12 hB) (by have := hE.size; omega)
  obtain ⟨a, haa⟩ : ∃ a : Tok, a = ⟨a0.kind, a0.text, 1⟩ := ⟨_, rfl⟩
  obtain ⟨b, hbb⟩ : ∃ b : Tok, b = ⟨b0.kind, b0.text, 1⟩ := ⟨_, rfl⟩
  have hal : a.line = 1 := by rw [haa]
  have hbl : b.line = 1 := by rw [hbb]
  replace hb56 : Blk W6 B #[.int .u8 (a.kind : Int), .string (mkS a.text), .int .i64 a.line] 38 := by rw [haa]; exact hb56
  replace hb6 : Blk W6 B2 #[.int .u8 (b.kind : Int), .string (mkS b.text), .int .i64 b.line] 38 := by rw [hbb]; exact hb6
  simp -implicitDefEqProofs [hb56.cell, hb6.cell]
  refine eff_lit si28 (by decide) (by decide) (by simp [Value.cells]) fun B7 W7 hB7 hE7 hb7 _ => ?_
  simp -implicitDefEqProofs [Value.cells] at hb7 ⊢
  have hK7 : SlK W7 (.slice (some ⟨B7, 0, none⟩) 2 2) [a, b] := slk_lit (ts := [a, b]) hb7 (by simp)
  have g7 := g6.trans' hE7
  have ka := hb56.ext hE7
  have kb := hb6.ext hE7
  refine (l_few hK7).mono ?_
  rintro _ _ ⟨rfl, rfl⟩
  cases hf2 : few [a, b] with
  | false =>
    simp -implicitDefEqProofs [hf2]
    refine (l_read (hG.ext g7)).mono ?_
    rintro _ W4 ⟨rfl, hE4⟩
    simp -implicitDefEqProofs [okR]
    exact g7.trans' hE4
  | true =>
    have ha := few_text hf2 a (by simp)
    have hb := few_text hf2 b (by simp)
    simp -implicitDefEqProofs [hf2, ir9_k1, ka.cell, kb.cell]
    refine (t_Apart (hG.ext g7) a b (by omega) (by omega)).mono ?_
    rintro _ W8 ⟨rfl, hE8⟩
    have g8 := g7.trans' hE8
    simp -implicitDefEqProofs
    refine (t_Check (hG.ext g8) (hK7.ext hE8) (by
      intro t ht
      simp at ht
      rcases ht with rfl | rfl <;> omega)).mono ?_
    rintro _ W9 ⟨rfl, hE9⟩
    have g9 := g8.trans' hE9
    have hc2 := check_two a b hal hbl
    have hE79 := hE8.trans' hE9
    have ka9 := ka.ext hE79
    have kb9 := kb.ext hE79
    have hK9 := hK7.ext hE79
    cases hrt : rights a b with
    | false =>
      rw [hrt] at hc2
      simp only [Bool.false_eq_true, if_false] at hc2
      simp -implicitDefEqProofs [hc2]
      refine (l_read (hG.ext g9)).mono ?_
      rintro _ W10 ⟨rfl, hE10⟩
      simp -implicitDefEqProofs [okR]
      exact g9.trans' hE10
    | true =>
      rw [hrt] at hc2
      simp only [if_true] at hc2
      have hrr := hrt
      simp only [rights, Bool.and_eq_true] at hrr
      have hap := apart_eq hrt
      have hbl2 := scan_spaced hrr.1 hrr.2
      have m1 : a.text.length + b.text.length ≤ maxLen := by simp only [maxLen]; omega
      have m2 : a.text.length + 1 ≤ maxLen := by simp only [maxLen]; omega
      have m3 : a.text.length + 1 + b.text.length ≤ maxLen := by simp only [maxLen]; omega
      simp -implicitDefEqProofs [hc2, ir9_k0, ka9.cell, kb9.cell, mkS_app, m1]
      refine (t_Scan (hG.ext g9) (a.text ++ b.text) (by simp; omega)).mono ?_
      rintro _ W10 ⟨v10, rfl, ho10, hE10⟩
      have hk10 := SlK.own ho10 (by have := (scan_le (a.text ++ b.text)).1; omega)
      rw [fV]
      simp -implicitDefEqProofs
      refine eff_alloc z31 fun B11 W11 hB11 hE11 hb11 _ => ?_
      simp -implicitDefEqProofs
      refine eff_storeN (B := B11) (by simp) hb11 (by simp [Value.cells]) (by simp [Value.cells]) (by simpa [Value.cells] using sz31) fun W12 hO12 hb12 => ?_
      simp -implicitDefEqProofs [Value.cells] at hb12 ⊢
      have hE1012 : Ext W10 W12 := hO12.ext hE11 hB11
      have hE912 := hE10.trans' hE1012
      have g12 := g9.trans' hE912
      simp -implicitDefEqProofs [(ka9.ext hE912).cell, (kb9.ext hE912).cell, mk32, mkS_app, m2, m3]
      have e3 : a.text ++ 32 :: b.text = a.text ++ [32] ++ b.text := by simp
      rw [e3]
      refine (t_Scan (hG.ext g12) (a.text ++ [32] ++ b.text) (by simp; omega)).mono ?_
      rintro _ W13 ⟨v13, rfl, ho13, hE13⟩
      have hk13 := SlK.own ho13 (by have := (scan_le (a.text ++ [32] ++ b.text)).1; omega)
      rw [fV, hbl2]
      rw [hbl2] at hk13
      simp only [Res.toks, Res.err, Res.at] at hk13 ⊢
      simp -implicitDefEqProofs
      refine eff_alloc z31 fun B14 W14 hB14 hE14 hb14 _ => ?_
      simp -implicitDefEqProofs
      refine eff_storeN (B := B14) (by simp) hb14 (by simp [Value.cells]) (by simp [Value.cells]) (by simpa [Value.cells] using sz31) fun W15 hO15 hb15 => ?_
      simp -implicitDefEqProofs [Value.cells] at hb15 ⊢
      have hE1315 : Ext W13 W15 := hO15.ext hE14 hB14
      have hE1215 := hE13.trans' hE1315
      have g15 := g12.trans' hE1215
      refine (l_read (hG.ext g15)).mono ?_
      rintro _ W16 ⟨rfl, hE16⟩
      have g16 := g15.trans' hE16
      refine callK_gen [5, 6, 10, 11, 12, 13] fun ρ2 hρ => ?_
      have p5 := hρ 5 (by simp)
      have p6 := hρ 6 (by simp)
      have p10 := hρ 10 (by simp)
      have p11 := hρ 11 (by simp)
      have p12 := hρ 12 (by simp)
      have p13 := hρ 13 (by simp)
      simp -implicitDefEqProofs at p5 p6 p10 p11 p12 p13
      clear hρ
      have kf := (hb12.ext hE1215).ext hE16
      have kh := hb15.ext hE16
      have kl := ((hk10.ext hE1012).ext hE1215).ext hE16
      have km := (hk13.ext hE1315).ext hE16
      have kb := ((hK9.ext hE912).ext hE1215).ext hE16
      have hab : [a, b] = [⟨a.kind, a.text, 1⟩, ⟨b.kind, b.text, 1⟩] := by rw [haa, hbb]
      generalize hsc : scan (a.text ++ b.text) = sc at *
      simp -implicitDefEqProofs [-wps_asg, -wps_eff, wa2, we2, kf.cell, bu31z, p6, p11]
      refine eff_neqT (xs := #[.int .i64 sc.err, .int .i64 sc.at]) (ys := #[.int .i64 0, .int .i64 0]) (by simp) (by simp) g31 (eqFault _ _ 0 0 _) ?_
      have hok := scan_ok (a.text ++ b.text)
      rw [hsc] at hok
      rcases hok with ⟨ts, cs, rfl⟩ | ⟨e, x, rfl, he⟩
      · simp only [Res.toks, Res.err, Res.at] at *
        simp -implicitDefEqProofs [-wps_asg, -wps_eff, wa2, we2, p5, p10]
        refine (r_Same kl kb).mono ?_
        rintro _ W17 ⟨rfl, hE17⟩
        have hap2 : apart a b = !decide (ts = [a, b]) := by
          rw [hap, hab]
          simp only [decide_true, Bool.true_and]
          exact congrArg _ (decide_eq_decide.2 Iff.rfl)
        simp -implicitDefEqProofs [-wps_asg, -wps_eff, wa2, we2, hap2, (kh.ext hE17).cell, bu31z, p6, p13, hrt]
        refine eff_eqlT (xs := #[.int .i64 0, .int .i64 0]) (ys := #[.int .i64 0, .int .i64 0]) (by simp) (by simp) g31 (eqFault 0 0 0 0 _) ?_
        simp -implicitDefEqProofs [-wps_asg, -wps_eff, wa2, we2, p5, p12]
        refine (r_Same (km.ext hE17) (kb.ext hE17)).mono ?_
        rintro _ W18 ⟨rfl, hE18⟩
        simp -implicitDefEqProofs [-wps_asg, -wps_eff, wa2, we2, okR, ← hab]
        exact (g16.trans' hE17).trans' hE18
      · simp only [Res.toks, Res.err, Res.at] at *
        have hap2 : apart a b = true := by rw [hap]; simp [he]
        simp -implicitDefEqProofs [-wps_asg, -wps_eff, wa2, we2, he, hap2, kh.cell, bu31z, p6, p13, hrt]
        refine eff_eqlT (xs := #[.int .i64 0, .int .i64 0]) (ys := #[.int .i64 0, .int .i64 0]) (by simp) (by simp) g31 (eqFault 0 0 0 0 _) ?_
        simp -implicitDefEqProofs [-wps_asg, -wps_eff, wa2, we2, p5, p12]
        refine (r_Same km kb).mono ?_
        rintro _ W18 ⟨rfl, hE18⟩
        simp -implicitDefEqProofs [-wps_asg, -wps_eff, wa2, we2, okR, ← hab]
        exact g16.trans' hE18
end Go.L01
