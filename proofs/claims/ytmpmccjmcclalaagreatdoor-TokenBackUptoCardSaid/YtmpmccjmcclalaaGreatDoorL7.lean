/- Texts of mine for the claims about layer 1 (token), joined: L01L7. -/
import Derived.Test.YtmpmccjmcclalaaGreatDoorLa
set_option linter.all false
set_option linter.unusedSimpArgs false
set_option linter.unusedVariables false
/- Layer 1: the law that what is printed is read again. -/
namespace Go.L01
open Go Go.Eng Go.RowKit Go.Proofs
set_option maxRecDepth 100000
set_option maxHeartbeats 2000000

theorem prE_zero {l : List Tok} (h : prE l = 0) : (check l).2 = 0 ∧ (printL l).length ≤ 20000 ∧ prS l = printL l ∧ scan (prS l) = .ok l [] := by
  have h' := h
  unfold prE at h'
  have h1 : (check l).2 = 0 := by
    apply Classical.byContradiction
    intro hn
    rw [if_neg hn] at h'; exact hn h'
  rw [if_pos h1] at h'
  have h2 : (printL l).length ≤ 20000 := by
    apply Classical.byContradiction
    intro hn
    rw [if_pos (by omega)] at h'; cases h'
  have h3 : prS l = printL l := by unfold prS; rw [if_pos h]
  exact ⟨h1, h2, h3, by rw [h3]; exact print_scanL h1 h2⟩
theorem scan_at {src : Bs} {ts : List Tok} {cs : List Bs} (h : scan src = .ok ts cs) : src.length ≤ 20000 ∧ scanAt src 1 = .ok ts cs := by
  unfold scan at h
  split at h
  · cases h
  · exact ⟨by omega, h⟩
theorem scan_check {src : Bs} {ts : List Tok} {cs : List Bs} (hs : short1 src = true) (h : scan src = .ok ts cs) : check ts = (0, 0) := by
  obtain ⟨h1, h2⟩ := scan_at h
  simp only [short1, Bool.not_eq_true', Bool.or_eq_false_iff, Bool.and_eq_false_iff, decide_eq_false_iff_not] at hs
  have h3 := srt_scan src 1
  rw [h2] at h3
  have h4 := (scan_le src).1
  rw [h] at h4
  refine check_srt h3.1 (fun t ht => ?_) h4
  have := h3.2 t ht
  omega
theorem law7_tail {w W : World} (hG : G W) (hE : Ext w W) (src : Bs) (hsh : short1 src = true) (ρ : Env) (h1 : ρ 1 = .string (mkS src)) : ir7_k2.wp ⟨Tryz.prog, 104, ir7_V, []⟩ (retK [.tmp 4] (okR w)) (ksOf [.tmp 4] (okR w)) ρ W := by
  have hlen := short_len hsh
  simp -implicitDefEqProofs [ir7_k2, h1]
  refine (t_Scan hG src (by omega)).mono ?_
  rintro _ W1 ⟨v1, rfl, ho1, hE1⟩
  have hk1 := SlK.own ho1 (by have := (scan_le src).1; omega)
  rw [fV]
  simp -implicitDefEqProofs
  refine eff_alloc z31 fun B2 W2 hB2 hE2 hb2 _ => ?_
  simp -implicitDefEqProofs
  refine eff_storeN (B := B2) (by simp) hb2 (by simp [Value.cells]) (by simp [Value.cells]) (by simpa [Value.cells] using sz31) fun W3 hO3 hb3 => ?_
  simp -implicitDefEqProofs [Value.cells] at hb3 ⊢
  have hE13 : Ext W1 W3 := hO3.ext hE2 hB2
  have hE3 := hE1.trans' hE13
  have g3 := hE.trans' hE3
  have hk3 := hk1.ext hE13
  simp -implicitDefEqProofs [hb3.cell, bu31z]
  refine eff_neqT (xs := #[.int .i64 (scan src).err, .int .i64 (scan src).at]) (ys := #[.int .i64 0, .int .i64 0]) (by simp) (by simp) g31 (eqFault _ _ 0 0 _) ?_
  rcases scan_ok src with ⟨ts, cs, hx⟩ | ⟨e, x, hx, he⟩
  · have hck := scan_check hsh hx
    rw [hx] at hk3 ⊢
    simp only [Res.toks, Res.err, Res.at] at hk3 ⊢
    have hrt := scan_right src
    rw [hx] at hrt
    simp only [Res.toks] at hrt
    have hxx : ∀ t ∈ ts, t.text.length ≤ 281474976710656 := fun t ht => by have := right_len (hrt t ht); omega
    simp -implicitDefEqProofs [ir7_k1]
    refine (t_Print (hG.ext hE3) hk3 hxx).mono ?_
    rintro _ W4 ⟨rfl, hE4⟩
    have g4 := g3.trans' hE4
    have hpe : prE ts = 0 ∨ prE ts = 2 := by
      unfold prE
      rw [hck, if_pos rfl]
      split
      · exact .inr rfl
      · exact .inl rfl
    rcases hpe with hpe | hpe
    · obtain ⟨q1, q2, q3, q4⟩ := prE_zero hpe
      simp -implicitDefEqProofs [hpe, ir7_k0]
      refine (t_Scan (hG.ext (hE3.trans' hE4)) (prS ts) (by rw [q3]; omega)).mono ?_
      rintro _ W5 ⟨v5, rfl, ho5, hE5⟩
      have hk5 := SlK.own ho5 (by have := (scan_le (prS ts)).1; omega)
      rw [fV]
      rw [q4] at hk5 ⊢
      simp only [Res.toks, Res.err, Res.at] at hk5 ⊢
      simp -implicitDefEqProofs
      refine eff_alloc z31 fun B6 W6 hB6 hE6 hb6 _ => ?_
      simp -implicitDefEqProofs
      refine eff_storeN (B := B6) (by simp) hb6 (by simp [Value.cells]) (by simp [Value.cells]) (by simpa [Value.cells] using sz31) fun W7 hO7 hb7 => ?_
      simp -implicitDefEqProofs [Value.cells] at hb7 ⊢
      have hE57 : Ext W5 W7 := hO7.ext hE6 hB6
      have hk7 := hk5.ext hE57
      have hE47 := hE5.trans' hE57
      have hG7 := hG.ext ((hE3.trans' hE4).trans' hE47)
      have g7 := g4.trans' hE47
      refine (t_Print hG7 hk7 hxx).mono ?_
      rintro _ W8 ⟨rfl, hE8⟩
      simp -implicitDefEqProofs [hpe]
      refine (l_read (hG7.ext hE8)).mono ?_
      rintro _ W9 ⟨rfl, hE9⟩
      have hE79 := hE8.trans' hE9
      have g9 := g7.trans' hE79
      simp -implicitDefEqProofs [(hb7.ext hE79).cell, bu31z]
      refine eff_eqlT (xs := #[.int .i64 0, .int .i64 0]) (ys := #[.int .i64 0, .int .i64 0]) (by simp) (by simp) g31 (eqFault 0 0 0 0 _) ?_
      simp -implicitDefEqProofs
      refine (r_Same ((hk3.ext hE4).ext (hE47.trans' hE79)) (hk7.ext hE79)).mono ?_
      rintro _ W10 ⟨rfl, hE10⟩
      simp -implicitDefEqProofs [okR]
      exact g9.trans' hE10
    · simp -implicitDefEqProofs [hpe]
      refine (l_read (hG.ext (hE3.trans' hE4))).mono ?_
      rintro _ W5 ⟨rfl, hE5⟩
      simp -implicitDefEqProofs [okR]
      exact g4.trans' hE5
  · rw [hx] at hk3 ⊢
    simp only [Res.toks, Res.err, Res.at] at hk3 ⊢
    simp -implicitDefEqProofs [he]
    refine (l_read (hG.ext hE3)).mono ?_
    rintro _ W5 ⟨rfl, hE5⟩
    have hk5 := hk3.ext hE5
    simp -implicitDefEqProofs [okR, hk5.is, hk5.len]
    exact g3.trans' hE5
theorem law7 {w : World} (hG : G w) {v : Value} {l : List Tok} (hl : SlK w v l) (src : Bs) : Calls Tryz.prog 7 #[v, .string (mkS src)] w (okR w) := by
  refine ir7_calls fun ρ h0 h1 => ?_
  simp -implicitDefEqProofs [ir7, h0]
  refine (l_few hl).mono ?_
  rintro _ _ ⟨rfl, rfl⟩
  cases hf : few l with
  | false =>
    simp -implicitDefEqProofs [hf]
    refine (l_read hG).mono ?_
    rintro _ W1 ⟨rfl, hE1⟩
    simp -implicitDefEqProofs [okR]
    exact hE1
  | true =>
    have hx : ∀ t ∈ l, t.text.length ≤ 281474976710656 := fun t ht => by have := few_text hf t ht; omega
    simp -implicitDefEqProofs [hf, h1]
    refine eff_lit si25 (by decide) (by decide) (by simp [Value.cells]) fun B W hB hE hb _ => ?_
    simp -implicitDefEqProofs [Value.cells] at hb ⊢
    have hsl : SlT W (.slice (some ⟨B, 0, none⟩) 1 1) [src] := slt_lit (l := [src]) hb (by simp)
    refine (l_short hsl).mono ?_
    rintro _ _ ⟨rfl, rfl⟩
    cases hsh : short1 src with
    | false =>
      simp -implicitDefEqProofs [hsh]
      refine (l_read (hG.ext hE)).mono ?_
      rintro _ W1 ⟨rfl, hE1⟩
      simp -implicitDefEqProofs [okR]
      exact hE.trans' hE1
    | true =>
      simp -implicitDefEqProofs [hsh, ir7_k3, h0]
      refine (t_Print (hG.ext hE) (hl.ext hE) hx).mono ?_
      rintro _ W1 ⟨rfl, hE1⟩
      have g1 := hE.trans' hE1
      by_cases hpe : prE l = 0
      · obtain ⟨q1, q2, q3, q4⟩ := prE_zero hpe
        simp -implicitDefEqProofs [hpe]
        refine (t_Scan (hG.ext g1) (prS l) (by rw [q3]; omega)).mono ?_
        rintro _ W5 ⟨v5, rfl, ho5, hE5⟩
        have hk5 := SlK.own ho5 (by have := (scan_le (prS l)).1; omega)
        rw [fV]
        rw [q4] at hk5 ⊢
        simp only [Res.toks, Res.err, Res.at] at hk5 ⊢
        simp -implicitDefEqProofs
        refine eff_alloc z31 fun B6 W6 hB6 hE6 hb6 _ => ?_
        simp -implicitDefEqProofs
        refine eff_storeN (B := B6) (by simp) hb6 (by simp [Value.cells]) (by simp [Value.cells]) (by simpa [Value.cells] using sz31) fun W7 hO7 hb7 => ?_
        simp -implicitDefEqProofs [Value.cells] at hb7 ⊢
        have hE57 : Ext W5 W7 := hO7.ext hE6 hB6
        have hk7 := hk5.ext hE57
        have g7 := g1.trans' (hE5.trans' hE57)
        simp -implicitDefEqProofs [hb7.cell, bu31z]
        refine eff_neqT (xs := #[.int .i64 0, .int .i64 0]) (ys := #[.int .i64 0, .int .i64 0]) (by simp) (by simp) g31 (eqFault 0 0 0 0 _) ?_
        simp -implicitDefEqProofs [h0]
        refine (r_Same hk7 (hl.ext g7)).mono ?_
        rintro _ W8 ⟨rfl, hE8⟩
        simp -implicitDefEqProofs
        exact law7_tail (hG.ext (g7.trans' hE8)) (g7.trans' hE8) src hsh _ (by simp [h1])
      · simp -implicitDefEqProofs [hpe]
        exact law7_tail (hG.ext g1) g1 src hsh _ (by simp [h1])
end Go.L01
