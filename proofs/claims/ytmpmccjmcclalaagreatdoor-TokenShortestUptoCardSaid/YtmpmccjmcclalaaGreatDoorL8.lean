/- Texts of mine for the claims about layer 1 (token), joined: L01L8. -/
import Derived.Test.YtmpmccjmcclalaaGreatDoorLa
set_option linter.all false
set_option linter.unusedSimpArgs false
set_option linter.unusedVariables false
/- Layer 1: the law of the shortest text. -/
namespace Go.L01
open Go Go.Eng Go.RowKit Go.Proofs
set_option maxRecDepth 100000
set_option maxHeartbeats 2000000

theorem scan_at8 {src : Bs} {ts : List Tok} {cs : List Bs} (h : scan src = .ok ts cs) : src.length ≤ 20000 ∧ scanAt src 1 = .ok ts cs := by
  unfold scan at h
  split at h
  · cases h
  · exact ⟨by omega, h⟩
theorem tight_facts {src : Bs} {ts : List Tok} {cs : List Bs} (h : scan src = .ok ts cs) : (tightL ts).length ≤ src.length ∧ scan (tightL ts) = .ok (ts.map one1) [] ∧ ts.map kt = (ts.map one1).map kt := by
  obtain ⟨h1, h2⟩ := scan_at8 h
  have h3 := (tight_least src 1 ts cs h2).1
  have hrt := scan_right src
  rw [h] at hrt
  refine ⟨h3, ?_, ?_⟩
  · unfold scan
    rw [if_neg (by omega)]
    exact tight_scan ts hrt
  · rw [List.map_map]; rfl
theorem tight_other {other : Bs} {ts tc : List Tok} {cs : List Bs} (h : scan other = .ok tc cs) (he : ts.map kt = tc.map kt) : (tightL ts).length ≤ other.length := by
  rw [tight_kt ts tc he]
  exact (tight_least other 1 tc cs (scan_at8 h).2).1
theorem law8_tail {w W : World} (hG : G W) (hE : Ext w W) (other : Bs) (hsh : short1 other = true) {ts : List Tok} {va : Value} (hka : SlK W va ts) (ρ : Env) (h1 : ρ 1 = .string (mkS other)) (h5 : ρ 5 = va) (h7 : ρ 7 = .string (mkS (tightL ts))) : ir8_k3.wp ⟨Tryz.prog, 115, ir8_V, []⟩ (retK [.tmp 4] (okR w)) (ksOf [.tmp 4] (okR w)) ρ W := by
  have hlen := short_len hsh
  simp -implicitDefEqProofs [ir8_k3, h1]
  refine (t_Scan hG other (by omega)).mono ?_
  rintro _ W1 ⟨v1, rfl, ho1, hE1⟩
  have hk1 := SlK.own ho1 (by have := (scan_le other).1; omega)
  rw [fV]
  simp -implicitDefEqProofs
  refine eff_alloc z31 fun B2 W2 hB2 hE2 hb2 _ => ?_
  simp -implicitDefEqProofs
  refine eff_storeN (B := B2) (by simp) hb2 (by simp [Value.cells]) (by simp [Value.cells]) (by simpa [Value.cells] using sz31) fun W3 hO3 hb3 => ?_
  simp -implicitDefEqProofs [Value.cells] at hb3 ⊢
  have hE13 : Ext W1 W3 := hO3.ext hE2 hB2
  have hE3 := hE1.trans' hE13
  have g3 := hE.trans' hE3
  refine (l_read (hG.ext hE3)).mono ?_
  rintro _ W4 ⟨rfl, hE4⟩
  have g4 := g3.trans' hE4
  have hk4 := (hk1.ext hE13).ext hE4
  have hka4 := hka.ext (hE3.trans' hE4)
  simp -implicitDefEqProofs [(hb3.ext hE4).cell, bu31z]
  refine eff_neqT (xs := #[.int .i64 (scan other).err, .int .i64 (scan other).at]) (ys := #[.int .i64 0, .int .i64 0]) (by simp) (by simp) g31 (eqFault _ _ 0 0 _) ?_
  rcases scan_ok other with ⟨tc, cs, hx⟩ | ⟨e, x, hx, he⟩
  · rw [hx] at hk4 ⊢
    simp only [Res.toks, Res.err, Res.at] at hk4 ⊢
    simp -implicitDefEqProofs [h5]
    refine (r_Alike hka4 hk4).mono ?_
    rintro _ W5 ⟨rfl, hE5⟩
    have g5 := g4.trans' hE5
    by_cases hal : ts.map kt = tc.map kt
    · have := tight_other hx hal
      have hI : ((tightL ts).length : Int) ≤ other.length := by omega
      simp -implicitDefEqProofs [hal, h1, h7, okR, this]
      exact g5
    · simp -implicitDefEqProofs [hal, h1, h7, okR]
      exact g5
  · rw [hx]
    simp only [Res.err, Res.at]
    simp -implicitDefEqProofs [he, h1, h7, okR]
    exact g4
theorem law8 {w : World} (hG : G w) (src other : Bs) : Calls Tryz.prog 8 #[.string (mkS src), .string (mkS other)] w (okR w) := by
  refine ir8_calls fun ρ h0 h1 => ?_
  simp -implicitDefEqProofs [ir8, h0, h1]
  refine eff_lit si25 (by decide) (by decide) (by simp [Value.cells]) fun B W hB hE hb _ => ?_
  simp -implicitDefEqProofs [Value.cells] at hb ⊢
  have hsl : SlT W (.slice (some ⟨B, 0, none⟩) 2 2) [src, other] := slt_lit (l := [src, other]) hb (by simp)
  refine (l_short hsl).mono ?_
  rintro _ _ ⟨rfl, rfl⟩
  cases hshh : [src, other].all short1 with
  | false =>
    simp -implicitDefEqProofs
    refine (l_read (hG.ext hE)).mono ?_
    rintro _ W1 ⟨rfl, hE1⟩
    simp -implicitDefEqProofs [okR]
    exact hE.trans' hE1
  | true =>
    have hsh : short1 src = true ∧ short1 other = true := by simpa using hshh
    have hlen := short_len hsh.1
    simp -implicitDefEqProofs [ir8_k7, h0]
    refine (t_Scan (hG.ext hE) src (by omega)).mono ?_
    rintro _ W1 ⟨v1, rfl, ho1, hE1⟩
    have hk1 := SlK.own ho1 (by have := (scan_le src).1; omega)
    rw [fV]
    simp -implicitDefEqProofs
    refine eff_alloc z31 fun B2 W2 hB2 hE2 hb2 _ => ?_
    simp -implicitDefEqProofs
    refine eff_storeN (B := B2) (by simp) hb2 (by simp [Value.cells]) (by simp [Value.cells]) (by simpa [Value.cells] using sz31) fun W3 hO3 hb3 => ?_
    simp -implicitDefEqProofs [Value.cells, h0] at hb3 ⊢
    have hE13 : Ext W1 W3 := hO3.ext hE2 hB2
    have g3 := (hE.trans' hE1).trans' hE13
    have hk3 := hk1.ext hE13
    refine (t_Tight (hG.ext g3) src (by omega)).mono ?_
    rintro _ W4 ⟨rfl, hE4⟩
    rw [fV]
    simp -implicitDefEqProofs
    refine eff_alloc z31 fun B5 W5 hB5 hE5 hb5 _ => ?_
    simp -implicitDefEqProofs
    refine eff_storeN (B := B5) (by simp) hb5 (by simp [Value.cells]) (by simp [Value.cells]) (by simpa [Value.cells] using sz31) fun W6 hO6 hb6 => ?_
    simp -implicitDefEqProofs [Value.cells] at hb6 ⊢
    have hE46 : Ext W4 W6 := hO6.ext hE5 hB5
    have hE36 := hE4.trans' hE46
    have g6 := g3.trans' hE36
    have hb36 := hb3.ext hE36
    have hk6 := hk3.ext hE36
    simp -implicitDefEqProofs [hb36.cell, hb6.cell]
    refine eff_neqT (xs := #[.int .i64 (scan src).err, .int .i64 (scan src).at]) (ys := #[.int .i64 (scan src).err, .int .i64 (scan src).at]) (by simp) (by simp) g31 (eqFault _ _ _ _ _) ?_
    simp -implicitDefEqProofs [ir8_k6, hb36.cell, bu31z]
    refine eff_neqT (xs := #[.int .i64 (scan src).err, .int .i64 (scan src).at]) (ys := #[.int .i64 0, .int .i64 0]) (by simp) (by simp) g31 (eqFault _ _ 0 0 _) ?_
    rcases scan_ok src with ⟨ts, cs, hx⟩ | ⟨e, x, hx, he⟩
    · obtain ⟨q1, q2, q3⟩ := tight_facts hx
      have q1I : ((tightL ts).length : Int) ≤ src.length := by omega
      rw [hx] at hk6 ⊢
      simp only [Res.toks, Res.err, Res.at] at hk6 ⊢
      simp -implicitDefEqProofs [ir8_k5]
      refine (t_Scan (hG.ext g6) (tightL ts) (by omega)).mono ?_
      rintro _ W7 ⟨v7, rfl, ho7, hE7⟩
      have hk7 := SlK.own ho7 (by have := (scan_le (tightL ts)).1; omega)
      rw [fV]
      rw [q2] at hk7 ⊢
      simp only [Res.toks, Res.err, Res.at] at hk7 ⊢
      simp -implicitDefEqProofs
      refine eff_alloc z31 fun B8 W8 hB8 hE8 hb8 _ => ?_
      simp -implicitDefEqProofs
      refine eff_storeN (B := B8) (by simp) hb8 (by simp [Value.cells]) (by simp [Value.cells]) (by simpa [Value.cells] using sz31) fun W9 hO9 hb9 => ?_
      simp -implicitDefEqProofs [Value.cells] at hb9 ⊢
      have hE79 : Ext W7 W9 := hO9.ext hE8 hB8
      have hE69 := hE7.trans' hE79
      have g9 := g6.trans' hE69
      have hk9 := hk7.ext hE79
      refine (t_Tight (hG.ext g9) (tightL ts) (by omega)).mono ?_
      rintro _ W10 ⟨rfl, hE10⟩
      rw [fV]
      rw [q2]
      simp only [Res.toks, Res.err, Res.at, tight_one]
      simp -implicitDefEqProofs
      refine eff_alloc z31 fun B11 W11 hB11 hE11 hb11 _ => ?_
      simp -implicitDefEqProofs
      refine eff_storeN (B := B11) (by simp) hb11 (by simp [Value.cells]) (by simp [Value.cells]) (by simpa [Value.cells] using sz31) fun W12 hO12 hb12 => ?_
      simp -implicitDefEqProofs [Value.cells] at hb12 ⊢
      have hE1012 : Ext W10 W12 := hO12.ext hE11 hB11
      have hE912 := hE10.trans' hE1012
      have g12 := g9.trans' hE912
      have hb912 := hb9.ext hE912
      have hk12 := hk9.ext hE912
      have hka12 := (hk6.ext hE69).ext hE912
      simp -implicitDefEqProofs [hb912.cell, bu31z]
      refine eff_neqT (xs := #[.int .i64 0, .int .i64 0]) (ys := #[.int .i64 0, .int .i64 0]) (by simp) (by simp) g31 (eqFault 0 0 0 0 _) ?_
      simp -implicitDefEqProofs [hb912.cell, hb12.cell]
      refine eff_neqT (xs := #[.int .i64 0, .int .i64 0]) (ys := #[.int .i64 0, .int .i64 0]) (by simp) (by simp) g31 (eqFault 0 0 0 0 _) ?_
      simp -implicitDefEqProofs
      refine (r_Alike hka12 hk12).mono ?_
      rintro _ W13 ⟨rfl, hE13'⟩
      have g13 := g12.trans' hE13'
      have hk13 := hk12.ext hE13'
      have hka13 := hka12.ext hE13'
      have q1' : ¬ ((src.length : Int) < (tightL ts).length) := by omega
      have q1n : ¬ (src.length < (tightL ts).length) := by omega
      rw [show decide (ts.map kt = (ts.map one1).map kt) = true from decide_eq_true q3]
      simp -implicitDefEqProofs [h0, q1', q1n, ir8_k4]
      have hbd := hk13.bd
      simp only [List.length_map] at hbd
      refine loopC 13 ts.length (fun k ρ' w' => w' = W13 ∧ ρ' 1 = .string (mkS other) ∧ ρ' 5 = v1 ∧ ρ' 7 = .string (mkS (tightL ts)) ∧ ρ' 9 = v7) (by simp) ⟨rfl, by simp [h1], by simp, by simp, by simp⟩ ?_
      rintro k ρ' w' hk h13 ⟨rfl, p1, p5, p7, p9⟩
      by_cases hlt : k < ts.length
      · obtain ⟨c0, c1, c2⟩ := hk13.cell k (by simpa using hlt)
        simp only [List.getElem_map, one1] at c2
        simp -implicitDefEqProofs [ir8_l2, ir8_k1, ir8_k0, h13, p9, hk13.is, hk13.len, hlt, c2, i64w (n := (k : Int) + 1) (by omega), p1, p5, p7]
      · have hk' : k = ts.length := by omega
        subst hk'
        simp -implicitDefEqProofs [ir8_l2, h13, p9, hk13.is, hk13.len]
        exact law8_tail (hG.ext g13) g13 other hsh.2 hka13 _ (by simp [p1]) (by simp [p5]) (by simp [p7])
    · rw [hx] at hk6 ⊢
      simp only [Res.toks, Res.err, Res.at] at hk6 ⊢
      simp -implicitDefEqProofs [he]
      refine (l_read (hG.ext g6)).mono ?_
      rintro _ W7 ⟨rfl, hE7⟩
      simp -implicitDefEqProofs [okR, tightL, mk0]
      exact g6.trans' hE7
end Go.L01
