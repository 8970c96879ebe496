/- Texts of mine for the claims about layer 1 (token), joined: L01L4. -/
import Derived.Test.YtmpmccjmcclalaaGreatDoorLa
set_option linter.all false
set_option linter.unusedSimpArgs false
set_option linter.unusedVariables false
/- Layer 1: the laws of scans and of the tight text. -/
namespace Go.L01
open Go Go.Eng Go.RowKit Go.Proofs
set_option maxRecDepth 100000
set_option maxHeartbeats 2000000

theorem law4 {w : World} (hG : G w) (src : Bs) : Calls Tryz.prog 4 #[.string (mkS src)] w (okR w) := by
  refine ir4_calls fun ρ h0 => ?_
  simp -implicitDefEqProofs [ir4, h0]
  refine eff_lit si25 (by decide) (by decide) (by simp [Value.cells]) fun B W hB hE hb _ => ?_
  simp -implicitDefEqProofs [Value.cells] at hb ⊢
  have hsl : SlT W (.slice (some ⟨B, 0, none⟩) 1 1) [src] := slt_lit (l := [src]) hb (by simp)
  refine (l_short hsl).mono ?_
  rintro _ _ ⟨rfl, rfl⟩
  cases hsh : short1 src with
  | false =>
    simp -implicitDefEqProofs [hsh]
    refine (l_read (hG.ext hE)).mono ?_
    rintro _ W1 ⟨rfl, hE1⟩
    simp -implicitDefEqProofs [okR]
    exact hE.trans' hE1
  | true =>
    have hlen := short_len hsh
    have hK : ∀ ts : List Tok, ts.length ≤ 20000 → ts.length < 1537228672809129301 := fun ts h => by omega
    have hC : ∀ ts : List Bs, ts.length ≤ 20000 → ts.length < 4611686018427387904 := fun ts h => by omega
    simp -implicitDefEqProofs [hsh, ir4_k0, h0]
    refine (t_Scan (hG.ext hE) src (by omega)).mono ?_
    rintro _ W1 ⟨v1, rfl, ho1, hE1⟩
    have hk1 := SlK.own ho1 (hK _ (scan_le src).1)
    have hw1 := hE.trans' hE1
    rw [fV]
    simp -implicitDefEqProofs
    refine eff_alloc z31 fun B2 W2 hB2 hE2 hb2 _ => ?_
    simp -implicitDefEqProofs
    refine eff_storeN (B := B2) (by simp) hb2 (by simp [Value.cells]) (by simp [Value.cells]) (by simpa [Value.cells] using sz31) fun W3 hO3 hb3 => ?_
    simp -implicitDefEqProofs [Value.cells, h0] at hb3 ⊢
    have hE13 : Ext W1 W3 := hO3.ext hE2 hB2
    have hw3 := hw1.trans' hE13
    refine (r_Scan src (by omega)).mono ?_
    rintro _ W4 ⟨v4, rfl, ho4, hE4⟩
    have hk4 := SlK.own ho4 (hK _ (scan_le src).1)
    rw [fV]
    simp -implicitDefEqProofs
    refine eff_alloc z31 fun B5 W5 hB5 hE5 hb5 _ => ?_
    simp -implicitDefEqProofs
    refine eff_storeN (B := B5) (by simp) hb5 (by simp [Value.cells]) (by simp [Value.cells]) (by simpa [Value.cells] using sz31) fun W6 hO6 hb6 => ?_
    simp -implicitDefEqProofs [Value.cells, h0] at hb6 ⊢
    have hE46 : Ext W4 W6 := hO6.ext hE5 hB5
    have hE36 := hE4.trans' hE46
    have hw6 := hw3.trans' hE36
    refine (t_Comments (hG.ext hw6) src (by omega)).mono ?_
    rintro _ W7 ⟨v7, rfl, ho7, hE7⟩
    have hk7 : SlT W7 v7 (scan src).coms := ho7.sl (hC _ (scan_le src).2)
    rw [fV]
    simp -implicitDefEqProofs
    refine eff_alloc z31 fun B8 W8 hB8 hE8 hb8 _ => ?_
    simp -implicitDefEqProofs
    refine eff_storeN (B := B8) (by simp) hb8 (by simp [Value.cells]) (by simp [Value.cells]) (by simpa [Value.cells] using sz31) fun W9 hO9 hb9 => ?_
    simp -implicitDefEqProofs [Value.cells, h0] at hb9 ⊢
    have hE79 : Ext W7 W9 := hO9.ext hE8 hB8
    have hE69 := hE7.trans' hE79
    have hw9 := hw6.trans' hE69
    refine (r_Comments src (by omega)).mono ?_
    rintro _ W10 ⟨v10, rfl, ho10, hE10⟩
    have hk10 : SlT W10 v10 (scan src).coms := ho10.sl (hC _ (scan_le src).2)
    rw [fV]
    simp -implicitDefEqProofs
    refine eff_alloc z31 fun B11 W11 hB11 hE11 hb11 _ => ?_
    simp -implicitDefEqProofs
    refine eff_storeN (B := B11) (by simp) hb11 (by simp [Value.cells]) (by simp [Value.cells]) (by simpa [Value.cells] using sz31) fun W12 hO12 hb12 => ?_
    simp -implicitDefEqProofs [Value.cells, h0] at hb12 ⊢
    have hE1012 : Ext W10 W12 := hO12.ext hE11 hB11
    have hE912 := hE10.trans' hE1012
    have hw12 := hw9.trans' hE912
    refine (l_read (hG.ext hw12)).mono ?_
    rintro _ W13 ⟨rfl, hE13'⟩
    have hE9 := hE912.trans' hE13'
    have hE6 := hE69.trans' hE9
    have hE3 := hE36.trans' hE6
    simp -implicitDefEqProofs
    refine (r_Same (hk1.ext (hE13.trans' hE3)) (hk4.ext (hE46.trans' hE6))).mono ?_
    rintro _ W14 ⟨rfl, hE14⟩
    simp -implicitDefEqProofs [((hb3.ext hE3).ext hE14).cell, ((hb6.ext hE6).ext hE14).cell]
    refine eff_eqlT (xs := #[.int .i64 (scan src).err, .int .i64 (scan src).at]) (ys := #[.int .i64 (scan src).err, .int .i64 (scan src).at]) (by simp) (by simp) g31 (eqFault _ _ _ _ _) ?_
    simp -implicitDefEqProofs
    refine (r_SameStrings ((hk7.ext (hE79.trans' hE9)).ext hE14) ((hk10.ext (hE1012.trans' hE13')).ext hE14)).mono ?_
    rintro _ W15 ⟨rfl, hE15⟩
    simp -implicitDefEqProofs [(((hb9.ext hE9).ext hE14).ext hE15).cell, (((hb12.ext hE13').ext hE14).ext hE15).cell]
    refine eff_eqlT (xs := #[.int .i64 (scan src).err, .int .i64 (scan src).at]) (ys := #[.int .i64 (scan src).err, .int .i64 (scan src).at]) (by simp) (by simp) g31 (eqFault _ _ _ _ _) ?_
    simp -implicitDefEqProofs [okR]
    exact ((hw12.trans' hE13').trans' hE14).trans' hE15

theorem law6 {w : World} (hG : G w) (src : Bs) : Calls Tryz.prog 6 #[.string (mkS src)] w (okR w) := by
  refine ir6_calls fun ρ h0 => ?_
  simp -implicitDefEqProofs [ir6, h0]
  refine eff_lit si25 (by decide) (by decide) (by simp [Value.cells]) fun B W hB hE hb _ => ?_
  simp -implicitDefEqProofs [Value.cells] at hb ⊢
  have hsl : SlT W (.slice (some ⟨B, 0, none⟩) 1 1) [src] := slt_lit (l := [src]) hb (by simp)
  refine (l_short hsl).mono ?_
  rintro _ _ ⟨rfl, rfl⟩
  cases hsh : short1 src with
  | false =>
    simp -implicitDefEqProofs [hsh]
    refine (l_read (hG.ext hE)).mono ?_
    rintro _ W1 ⟨rfl, hE1⟩
    simp -implicitDefEqProofs [okR]
    exact hE.trans' hE1
  | true =>
    have hlen := short_len hsh
    simp -implicitDefEqProofs [hsh, ir6_k0, h0]
    refine (t_Tight (hG.ext hE) src (by omega)).mono ?_
    rintro _ W1 ⟨rfl, hE1⟩
    have hw1 := hE.trans' hE1
    rw [fV]
    simp -implicitDefEqProofs
    refine eff_alloc z31 fun B2 W2 hB2 hE2 hb2 _ => ?_
    simp -implicitDefEqProofs
    refine eff_storeN (B := B2) (by simp) hb2 (by simp [Value.cells]) (by simp [Value.cells]) (by simpa [Value.cells] using sz31) fun W3 hO3 hb3 => ?_
    simp -implicitDefEqProofs [Value.cells, h0] at hb3 ⊢
    have hE13 : Ext W1 W3 := hO3.ext hE2 hB2
    have hw3 := hw1.trans' hE13
    refine (r_Tight src (by omega)).mono ?_
    rintro _ W4 ⟨rfl, hE4⟩
    rw [fV]
    simp -implicitDefEqProofs
    refine eff_alloc z31 fun B5 W5 hB5 hE5 hb5 _ => ?_
    simp -implicitDefEqProofs
    refine eff_storeN (B := B5) (by simp) hb5 (by simp [Value.cells]) (by simp [Value.cells]) (by simpa [Value.cells] using sz31) fun W6 hO6 hb6 => ?_
    simp -implicitDefEqProofs [Value.cells, h0] at hb6 ⊢
    have hE46 : Ext W4 W6 := hO6.ext hE5 hB5
    have hE36 := hE4.trans' hE46
    have hw6 := hw3.trans' hE36
    refine (l_read (hG.ext hw6)).mono ?_
    rintro _ W7 ⟨rfl, hE7⟩
    simp -implicitDefEqProofs [((hb3.ext hE36).ext hE7).cell, (hb6.ext hE7).cell]
    refine eff_eqlT (xs := #[.int .i64 (scan src).err, .int .i64 (scan src).at]) (ys := #[.int .i64 (scan src).err, .int .i64 (scan src).at]) (by simp) (by simp) g31 (eqFault _ _ _ _ _) ?_
    simp -implicitDefEqProofs [okR]
    exact hw6.trans' hE7
end Go.L01
