/- Texts of mine for the claims about layer 1 (token), joined: L01L11. -/
import Derived.Test.YtmpmccjmcclalaaGreatDoorLa
set_option linter.all false
set_option linter.unusedSimpArgs false
set_option linter.unusedVariables false
/- Layer 1: the law that what is returned is new memory. -/
namespace Go.L01
open Go Go.Eng Go.RowKit Go.Proofs
set_option maxRecDepth 100000
set_option maxHeartbeats 2000000

/-! ### Slices into which the call may write -/
def Room (base e sz n : Nat) (w : World) (v : Value) : Prop := (v = .slice none 0 0 ∧ n = 0) ∨ ∃ g off cap cur, v = .slice (some ⟨g, off, none⟩) n cap ∧ base ≤ g ∧ Blk w g cur e ∧ n ≤ cap ∧ off + n * sz ≤ cur.size
theorem Room.own {base e sz n : Nat} {w : World} {v : Value} {xs : List Value} (h : Own base e sz w v xs) (hn : xs.length = n * sz) (hsz : 0 < sz) : Room base e sz n w v := by
  rcases h with ⟨rfl, rfl⟩ | ⟨g, off, n', cap, cur, rfl, hb, hg, hl, hc, _, hs, _⟩
  · refine .inl ⟨rfl, ?_⟩
    have : n * sz = 0 := by simpa using hn.symm
    rcases Nat.mul_eq_zero.1 this with h | h <;> omega
  · have : n' = n := Nat.eq_of_mul_eq_mul_right hsz (hl.symm.trans hn)
    subst this
    refine .inr ⟨g, off, cap, cur, rfl, hb, ⟨hg⟩, hc, ?_⟩
    have := Nat.mul_le_mul_right sz hc
    omega
theorem Room.ext {base e sz n : Nat} {w w' : World} {v : Value} (h : Room base e sz n w v) (hE : Ext w w') : Room base e sz n w' v := by
  rcases h with h | ⟨g, off, cap, cur, rfl, hb, hg, r⟩
  · exact .inl h
  · exact .inr ⟨g, off, cap, cur, rfl, hb, hg.ext hE, r⟩
theorem Room.is {base e sz n : Nat} {w : World} {v : Value} (h : Room base e sz n w v) : isSl v = true ∧ slLen v = n := by
  rcases h with ⟨rfl, rfl⟩ | ⟨g, off, cap, cur, rfl, hb, hg, hc, r⟩
  · exact ⟨rfl, rfl⟩
  · exact ⟨by simp [isSl, hc], rfl⟩
theorem Room.only {base e sz n g : Nat} {w w' : World} {v : Value} (h : Room base e sz n w v) (hO : Only g w w') (hne : v.ownBlock ≠ some g) : Room base e sz n w' v := by
  rcases h with h | ⟨g', off, cap, cur, rfl, hb, hg, r⟩
  · exact .inl h
  · exact .inr ⟨g', off, cap, cur, rfl, hb, hO.blk hg (fun e => hne (by rw [e]; rfl)), r⟩
theorem storesW_shift (B o : Nat) {K : World → Prop} : ∀ (vs : List Value) (j : Nat) (w : World), storesW ⟨B, o, none⟩ vs j K w = storesW ⟨B, 0, none⟩ vs (o + j) K w
  | [], _, _ => rfl
  | v :: vs, j, w => by
    simp only [storesW, add_lit, Nat.zero_add]
    rw [storesW_shift B o vs]
    rfl
theorem eff_storeRoom {P : Program} {Q : Ks} {d : Option Nat} {ty : TypeId} {K : Env → World → Prop} {ρ : Env} {w : World} {t : TypeId} {p x : Operand} {base e sz n i : Nat} {v : Value} (h : Room base e sz n w v) (hi : i < n) (hp : evE ρ p = .pointer (some (slAddr v (i * sz)))) (hsz : (evE ρ x).cells.size = sz) (h1 : ∀ c ∈ (evE ρ x).cells.toList, c.oneCell = true) (hs : sizeIs P t sz = true)
    (hk : ∀ W g, v.ownBlock = some g → base ≤ g → Only g w W → Room base e sz n W v → K (updO ρ d undef) W) : effW P Q d (.store t p x) ty K ρ w := by
  rcases h with ⟨rfl, rfl⟩ | ⟨g, off, cap, cur, rfl, hb, hg, hc, hsi⟩
  · omega
  · show sizeIs P t (evE ρ x).cells.size = true ∧ ptrK (evE ρ p) _
    rw [hp, hsz]
    refine ⟨hs, ?_⟩
    show storesW ⟨g, off + i * sz, none⟩ _ 0 _ w
    rw [storesW_shift]
    have hle : (i + 1) * sz ≤ n * sz := Nat.mul_le_mul_right sz (by omega)
    rw [Nat.add_mul] at hle
    have hlen : (evE ρ x).cells.toList.length = sz := by rw [Array.length_toList, hsz]
    refine storesW_blk _ _ w cur hg (by rw [hlen]; omega) h1 fun W hO hB => ?_
    refine hk W g rfl hb hO (.inr ⟨g, off, cap, _, rfl, hb, hB, hc, ?_⟩)
    simp only [List.size_toArray, List.length_append, List.length_take, List.length_drop, hlen, Array.length_toList]
    omega
theorem bu38z : Tryz.prog.built 38 [] = some #[.int .u8 0, .string (mkS []), .int .i64 0] := by kernel_rfl

/-- The rest of the law, behind the three loops. -/
theorem law11_tail {w W : World} (hG : G W) (hE : Ext w W) (src : Bs) (hsh : short1 src = true) (ρ : Env) (h0 : ρ 0 = .string (mkS src)) : ir11_k9.wp ⟨Tryz.prog, 80, ir11_V, []⟩ (retK [.tmp 2] (okR w)) (ksOf [.tmp 2] (okR w)) ρ W := by
  have hlen := short_len hsh
  simp -implicitDefEqProofs [ir11_k9, h0]
  refine (t_Scan hG src (by omega)).mono ?_
  rintro _ W1 ⟨v1, rfl, ho1, hE1⟩
  have hk1 := SlK.own ho1 (by have := (scan_le src).1; omega)
  rw [fV]
  simp -implicitDefEqProofs
  refine eff_alloc z31 fun B2 W2 hB2 hE2 hb2 _ => ?_
  simp -implicitDefEqProofs
  refine eff_storeN (B := B2) (by simp) hb2 (by simp [Value.cells]) (by simp [Value.cells]) (by simpa [Value.cells] using sz31) fun W3 hO3 hb3 => ?_
  simp -implicitDefEqProofs [Value.cells, h0] at hb3 ⊢
  have hE13 : Ext W1 W3 := hO3.ext hE2 hB2
  have hE3 := hE1.trans' hE13
  refine (r_Scan src (by omega)).mono ?_
  rintro _ W4 ⟨v4, rfl, ho4, hE4⟩
  have hk4 := SlK.own ho4 (by have := (scan_le src).1; omega)
  rw [fV]
  simp -implicitDefEqProofs
  refine eff_alloc z31 fun B5 W5 hB5 hE5 hb5 _ => ?_
  simp -implicitDefEqProofs
  refine eff_storeN (B := B5) (by simp) hb5 (by simp [Value.cells]) (by simp [Value.cells]) (by simpa [Value.cells] using sz31) fun W6 hO6 hb6 => ?_
  simp -implicitDefEqProofs [Value.cells] at hb6 ⊢
  have hE46 : Ext W4 W6 := hO6.ext hE5 hB5
  have hE36 := hE4.trans' hE46
  have hE06 := hE3.trans' hE36
  have g6 := hE.trans' hE06
  have k1 := (hk1.ext hE13).ext hE36
  have k4 := hk4.ext hE46
  refine (l_read (hG.ext hE06)).mono ?_
  rintro _ W7 ⟨rfl, hE7⟩
  have g7 := g6.trans' hE7
  have hG7 := hG.ext (hE06.trans' hE7)
  refine callK_gen [10, 12] fun ρ2 hρ => ?_
  have p10 := hρ 10 (by simp)
  have p12 := hρ 12 (by simp)
  simp -implicitDefEqProofs at p10 p12
  clear hρ
  simp -implicitDefEqProofs [-wps_asg, -wps_eff, wa2, we2]
  refine (t_words hG7).mono ?_
  rintro _ W8 ⟨v8, rfl, hn8⟩
  have hs8 := hn8.sl (by rw [show wordsL.length = 46 from rfl]; decide)
  simp -implicitDefEqProofs [-wps_asg, -wps_eff, wa2, we2]
  refine r_words.mono ?_
  rintro _ W9 ⟨v9, rfl, hn9⟩
  have hs9 := hn9.sl (by rw [show wordsL.length = 46 from rfl]; decide)
  simp -implicitDefEqProofs [-wps_asg, -wps_eff, wa2, we2]
  refine (r_SameStrings (hs8.ext hn9.2) hs9).mono ?_
  rintro _ W10 ⟨rfl, hE10⟩
  have hE710 := (hn8.2.trans' hn9.2).trans' hE10
  simp -implicitDefEqProofs [-wps_asg, -wps_eff, wa2, we2]
  refine (t_signs (hG7.ext hE710)).mono ?_
  rintro _ W11 ⟨v11, rfl, hn11⟩
  have hs11 := hn11.sl (by rw [show signsL.length = 21 from rfl]; decide)
  simp -implicitDefEqProofs [-wps_asg, -wps_eff, wa2, we2]
  refine r_signs.mono ?_
  rintro _ W12 ⟨v12, rfl, hn12⟩
  have hs12 := hn12.sl (by rw [show signsL.length = 21 from rfl]; decide)
  simp -implicitDefEqProofs [-wps_asg, -wps_eff, wa2, we2]
  refine (r_SameStrings (hs11.ext hn12.2) hs12).mono ?_
  rintro _ W13 ⟨rfl, hE13'⟩
  have hE713 := ((hE710.trans' hn11.2).trans' hn12.2).trans' hE13'
  simp -implicitDefEqProofs [-wps_asg, -wps_eff, wa2, we2, p10, p12]
  refine (r_Same ((k1.ext hE7).ext hE713) ((k4.ext hE7).ext hE713)).mono ?_
  rintro _ W14 ⟨rfl, hE14⟩
  simp -implicitDefEqProofs [-wps_asg, -wps_eff, wa2, we2, okR]
  exact (g7.trans' hE713).trans' hE14

structure M11 (w : World) (src : Bs) (m b3 b4 b5 : Nat) (v3 v4 v5 : Value) (ρ : Env) (w' : World) : Prop where
  ext : Ext w w'
  r3 : Room b3 9 1 46 w' v3
  r4 : Room b4 9 1 21 w' v4
  r5 : Room b5 38 3 m w' v5
  p0 : ρ 0 = .string (mkS src)
  p3 : ρ 3 = v3
  p4 : ρ 4 = v4
  p5 : ρ 5 = v5
theorem law11 {w : World} (hG : G w) (src : Bs) : Calls Tryz.prog 11 #[.string (mkS src)] w (okR w) := by
  refine ir11_calls fun ρ h0 => ?_
  simp -implicitDefEqProofs [ir11, h0]
  refine eff_lit si25 (by decide) (by decide) (by simp [Value.cells]) fun B W hB hE hb _ => ?_
  simp -implicitDefEqProofs [Value.cells] at hb ⊢
  have hsl : SlT W (.slice (some ⟨B, 0, none⟩) 1 1) [src] := slt_lit (l := [src]) hb (by simp)
  refine (l_short hsl).mono ?_
  rintro _ W ⟨rfl, rfl⟩
  cases hsh : short1 src with
  | false =>
    simp -implicitDefEqProofs [hsh]
    refine (l_read (hG.ext hE)).mono ?_
    rintro _ W1 ⟨rfl, hE1⟩
    simp -implicitDefEqProofs [okR]
    exact hE.trans' hE1
  | true =>
    have hlen := short_len hsh
    simp -implicitDefEqProofs [hsh, ir11_k12]
    refine (t_words (hG.ext hE)).mono ?_
    rintro _ W1 ⟨v3, rfl, hn1⟩
    have g1 := hE.trans' hn1.2
    simp -implicitDefEqProofs
    refine (t_signs (hG.ext g1)).mono ?_
    rintro _ W2 ⟨v4, rfl, hn2⟩
    have g2 := g1.trans' hn2.2
    simp -implicitDefEqProofs [h0]
    refine (t_Scan (hG.ext g2) src (by omega)).mono ?_
    rintro _ W3 ⟨v5, rfl, ho3, hE3⟩
    have g3 := g2.trans' hE3
    rw [fV]
    simp -implicitDefEqProofs
    refine eff_alloc z31 fun B4 W4 hB4 hE4 hb4 _ => ?_
    simp -implicitDefEqProofs
    refine eff_storeN (B := B4) (by simp) hb4 (by simp [Value.cells]) (by simp [Value.cells]) (by simpa [Value.cells] using sz31) fun W5 hO5 hb5 => ?_
    simp -implicitDefEqProofs [ir11_k11, ir11_k10]
    have hE35 : Ext W3 W5 := hO5.ext hE4 hB4
    have g5 := g3.trans' hE35
    have z0 := hE.size
    have z1 := hn1.2.size
    have z2 := hn2.2.size
    have z3 := hE3.size
    have r3 : Room W.heap.size 9 1 46 W1 v3 := Room.own hn1.1 (by rw [List.length_map]; rfl) (by decide)
    have r4 : Room W1.heap.size 9 1 21 W2 v4 := Room.own hn2.1 (by rw [List.length_map]; rfl) (by decide)
    have r5 : Room W2.heap.size 38 3 (scan src).toks.length W3 v5 := Room.own ho3 (toksV_len _) (by decide)
    have a3 := hn1.1.blk
    have a4 := hn2.1.blk
    have a5 := ho3.blk
    have hGx : ∀ {W'}, Ext w W' → G W' := fun h => hG.ext h
    have hM : M11 w src (scan src).toks.length W.heap.size W1.heap.size W2.heap.size v3 v4 v5 (fun i => if i = 0 then .string (mkS src) else if i = 3 then v3 else if i = 4 then v4 else v5) W5 :=
      ⟨g5, ((r3.ext hn2.2).ext hE3).ext hE35, (r4.ext hE3).ext hE35, r5.ext hE35, rfl, rfl, rfl, rfl⟩
    generalize hm : (scan src).toks.length = m at *
    have hmb : m ≤ 20000 := by rw [← hm]; exact (scan_le src).1
    refine loopC 7 46 (fun k ρ' w' => M11 w src m W.heap.size W1.heap.size W2.heap.size v3 v4 v5 ρ' w') (by simp) ⟨hM.ext, hM.r3, hM.r4, hM.r5, by simp [h0], by simp, by simp, by simp⟩ ?_
    rintro k ρ' w' hk h7 ⟨hE', s3, s4, s5, p0, p3, p4, p5⟩
    by_cases hlt : k < 46
    · have hltI : (k : Int) < 46 := by omega
      simp -implicitDefEqProofs [ir11_l2, ir11_k1, h7, p3, s3.is, hlt, hltI]
      refine eff_storeRoom s3 hlt (by simp [p3]) (by simp [Value.cells]) (by simp [Value.cells]) sz9 fun W6 g hg hbg hO s3' => ?_
      simp -implicitDefEqProofs [ir11_k0, h7, i64w (n := (k : Int) + 1) (by omega)]
      have hx := a3 g hg
      exact ⟨hO.ext hE' (by omega), s3', s4.only hO (fun e => by have := (a4 g e).1; omega), s5.only hO (fun e => by have := (a5 g e).1; omega), by simp [p0], by simp [p3], by simp [p4], by simp [p5]⟩
    · have hk' : k = 46 := by omega
      subst hk'
      simp -implicitDefEqProofs [ir11_l2, h7, p3, s3.is]
      refine loopC 8 21 (fun k ρ' w' => M11 w src m W.heap.size W1.heap.size W2.heap.size v3 v4 v5 ρ' w') (by simp) ⟨hE', s3, s4, s5, by simp [p0], by simp [p3], by simp [p4], by simp [p5]⟩ ?_
      rintro k ρ2 w2 hk h8 ⟨hE', s3, s4, s5, p0, p3, p4, p5⟩
      by_cases hlt : k < 21
      · have hltI : (k : Int) < 21 := by omega
        simp -implicitDefEqProofs [ir11_l5, ir11_k4, h8, p4, s4.is, hlt, hltI]
        refine eff_storeRoom s4 hlt (by simp [p4]) (by simp [Value.cells]) (by simp [Value.cells]) sz9 fun W6 g hg hbg hO s4' => ?_
        simp -implicitDefEqProofs [ir11_k3, h8, i64w (n := (k : Int) + 1) (by omega)]
        have hx := a4 g hg
        exact ⟨hO.ext hE' (by omega), s3.only hO (fun e => by have := (a3 g e).2; omega), s4', s5.only hO (fun e => by have := (a5 g e).1; omega), by simp [p0], by simp [p3], by simp [p4], by simp [p5]⟩
      · have hk' : k = 21 := by omega
        subst hk'
        simp -implicitDefEqProofs [ir11_l5, h8, p4, s4.is]
        refine loopC 9 m (fun k ρ' w' => M11 w src m W.heap.size W1.heap.size W2.heap.size v3 v4 v5 ρ' w') (by simp) ⟨hE', s3, s4, s5, by simp [p0], by simp [p3], by simp [p4], by simp [p5]⟩ ?_
        rintro k ρ3 w3 hk h9 ⟨hE', s3, s4, s5, p0, p3, p4, p5⟩
        by_cases hlt : k < m
        · simp -implicitDefEqProofs [ir11_l8, ir11_k7, h9, p5, s5.is, hlt, bu38z]
          refine eff_storeRoom s5 hlt (by simp) (by simp [Value.cells]) (by simp [Value.cells]) sz38 fun W6 g hg hbg hO s5' => ?_
          simp -implicitDefEqProofs [ir11_k6, h9, i64w (n := (k : Int) + 1) (by omega)]
          have hx := a5 g hg
          exact ⟨hO.ext hE' (by omega), s3.only hO (fun e => by have := (a3 g e).2; omega), s4.only hO (fun e => by have := (a4 g e).2; omega), s5', by simp [p0], by simp [p3], by simp [p4], by simp [p5]⟩
        · have hk' : k = m := by omega
          subst hk'
          simp -implicitDefEqProofs [ir11_l8, h9, p5, s5.is]
          exact law11_tail (hGx hE') hE' src hsh _ (by simp [p0])
end Go.L01
