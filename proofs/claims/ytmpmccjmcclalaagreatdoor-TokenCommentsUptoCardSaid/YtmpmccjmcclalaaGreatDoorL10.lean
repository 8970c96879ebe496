/- Texts of mine for the claims about layer 1 (token), joined: L01L10. -/
import Derived.Test.YtmpmccjmcclalaaGreatDoorLa
set_option linter.all false
set_option linter.unusedSimpArgs false
set_option linter.unusedVariables false
/- Layer 1: the law of comments, and of a text behind another. -/
namespace Go.L01
open Go Go.Eng Go.RowKit Go.Proofs
set_option maxRecDepth 100000
set_option maxHeartbeats 2000000

theorem SlK.pre {w : World} {v : Value} {ts : List Tok} (h : SlK w v ts) {n : Nat} (hn : n ≤ ts.length) : n ≤ slCap v ∧ SlK w (slSub v 3 0 n (slCap v)) (ts.take n) := by
  have hc : n ≤ slCap v := by
    have h1 := h.is
    have h2 := h.len
    match v, h1, h2 with
    | .slice (some ⟨_, _, none⟩) n' c, h1, h2 => simp only [isSl, decide_eq_true_eq] at h1; simp only [slLen] at h2; show n ≤ c; omega
    | .slice (some ⟨_, _, some _⟩) 0 0, h1, h2 => simp only [slLen] at h2; show n ≤ 0; omega
    | .slice none 0 0, h1, h2 => simp only [slLen] at h2; show n ≤ 0; omega
  have hl : (ts.take n).length = n := by simp; omega
  refine ⟨hc, isSl_sub h.is 3 0 n _ (by omega) hc (Nat.le_refl _), by rw [slLen_sub _ _ _ _ h.is, hl]; omega, by have := h.bd; omega, fun i hi => ?_⟩
  rw [hl] at hi
  obtain ⟨c0, c1, c2⟩ := h.cell i (by omega)
  simp only [List.getElem_take]
  refine ⟨?_, ?_, ?_⟩
  · rw [slAddr_sub 3 0 n _ _ h.is (by omega) (by omega), ← c0]; congr 2; omega
  · rw [slAddr_sub 3 0 n _ _ h.is (by omega) (by omega), ← c1]; congr 2; omega
  · rw [slAddr_sub 3 0 n _ _ h.is (by omega) (by omega), ← c2]; congr 2; omega
def shT (d : Int) (t : Tok) : Tok := ⟨t.kind, t.text, t.line + d⟩

theorem law10_loop {w W : World} (hG : G W) (hE : Ext w W) {ta td : List Tok} {v15 v17 va : Value} {n : Nat} (h15 : SlK W v15 (ta ++ td.map (shT (n + 1)))) (h17 : SlK W v17 td) (ha : isSl va = true) (hal : slLen va = ta.length) (hn : n ≤ 2000)
    (hb : ∀ t ∈ td, 0 ≤ t.line ∧ t.line ≤ 20000) (ρ : Env) (p5 : ρ 5 = va) (p7 : ρ 7 = .int .i64 (n : Int)) (p15 : ρ 15 = v15) (p17 : ρ 17 = v17) : ir10_k9.wp ⟨Tryz.prog, 178, ir10_V, []⟩ (retK [.tmp 4] (okR w)) (ksOf [.tmp 4] (okR w)) ρ W := by
  simp -implicitDefEqProofs [ir10_k9]
  have hbd := h15.bd
  simp only [List.length_append, List.length_map] at hbd
  refine loopC 19 td.length (fun k ρ' w' => Ext W w' ∧ ρ' 5 = va ∧ ρ' 7 = .int .i64 (n : Int) ∧ ρ' 15 = v15 ∧ ρ' 17 = v17) (by simp) ⟨ext_refl _, by simp [p5], by simp [p7], by simp [p15], by simp [p17]⟩ ?_
  rintro k ρ' w' hk h19 ⟨hE', q5, q7, q15, q17⟩
  have k17 := h17.ext hE'
  by_cases hlt : k < td.length
  · obtain ⟨c0, c1, c2⟩ := k17.cell k hlt
    have hbk := hb _ (List.getElem_mem hlt)
    simp -implicitDefEqProofs [ir10_l7, ir10_k6, h19, q17, k17.is, k17.len, hlt, c0, c1, c2]
    refine eff_alloc z38 fun B W2 hB hE2 hb2 _ => ?_
    simp -implicitDefEqProofs
    refine eff_storeN (B := B) (by simp) hb2 (by simp [Value.cells]) (by simp [Value.cells]) (by simpa [Value.cells] using sz38) fun W3 hO3 hb3 => ?_
    simp -implicitDefEqProofs [Value.cells] at hb3
    simp -implicitDefEqProofs [hb3.cell, q7, i64w (n := td[k].line + (n : Int)) (by omega), i64w (n := td[k].line + (n : Int) + 1) (by omega)]
    refine eff_store1 (B := B) (i := 2) (by simp) hb3 (by simp) rfl rfl sz3 fun W4 hO4 hb4 => ?_
    simp -implicitDefEqProofs at hb4 ⊢
    have hE4 : Ext w' W4 := hO4.ext (hO3.ext hE2 hB) (by omega)
    have k15 := h15.ext (hE'.trans' hE4)
    obtain ⟨d0, d1, d2⟩ := k15.cell (ta.length + k) (by simp; omega)
    have hget : (ta ++ td.map (shT (n + 1)))[ta.length + k]'(by simp; omega) = shT (n + 1) td[k] := by
      rw [List.getElem_append_right (by omega)]; simp
    rw [hget] at d0 d1 d2
    have f4 : ∀ W5, Ext W4 W5 → ∀ i, W5.cell? ⟨B, i, none⟩ = #[Value.int .u8 (td[k].kind : Int), .string (mkS td[k].text), .int .i64 (td[k].line + (n : Int) + 1)][i]? := fun W5 h => (hb4.ext h).cell
    have e0 : ∀ W5, Ext W4 W5 → W5.cell? (slAddr v15 ((ta.length + k) * 3)) = some (.int .u8 (td[k].kind : Int)) := fun W5 h => h.cell d0
    have e1 : ∀ W5, Ext W4 W5 → W5.cell? (slAddr v15 ((ta.length + k) * 3 + 1)) = some (.string (mkS td[k].text)) := fun W5 h => h.cell d1
    have e2 : ∀ W5, Ext W4 W5 → W5.cell? (slAddr v15 ((ta.length + k) * 3 + 2)) = some (.int .i64 (td[k].line + ((n : Int) + 1))) := fun W5 h => h.cell d2
    have hwI : IntKind.i64.wrap ((ta.length : Int) + (k : Int)) = (ta.length : Int) + (k : Int) := by rw [i64w (by omega)]
    have hnn : 0 ≤ (ta.length : Int) + (k : Int) := by omega
    have hto : ((ta.length : Int) + (k : Int)).toNat = ta.length + k := by omega
    have hltI : ta.length + k < ta.length + td.length := by omega
    have hltI2 : ((ta.length + k : Nat) : Int) < ((ta.length + td.length : Nat) : Int) := by omega
    have hll : slLen v15 = ta.length + td.length := by rw [k15.len]; simp
    refine raw_ord ir10_o33_ok (Ext W4) fun W5 hE5 _ => ⟨hE5, ?_⟩
    simp (maxSteps := 2000000) +contextual -implicitDefEqProofs [ir10_o33, q15, q5, ha, hal, h19, hwI, k15.is, hll, hltI, hltI2, hnn, hto, hlt, e0, e1, e2, f4, hE5]
    refine eff_neqT (xs := #[.int .u8 (td[k].kind : Int), .string (mkS td[k].text), .int .i64 (td[k].line + ((n : Int) + 1))]) (ys := #[.int .u8 (td[k].kind : Int), .string (mkS td[k].text), .int .i64 (td[k].line + (n : Int) + 1)]) (by simp) (by simp) g38 (eqTok ⟨td[k].kind, td[k].text, td[k].line + ((n : Int) + 1)⟩ ⟨td[k].kind, td[k].text, td[k].line + (n : Int) + 1⟩ _) ?_
    have he : (⟨td[k].kind, td[k].text, td[k].line + ((n : Int) + 1)⟩ : Tok) = ⟨td[k].kind, td[k].text, td[k].line + (n : Int) + 1⟩ := by congr 1; omega
    simp -implicitDefEqProofs [he, ir10_k4, ir10_k5, h19, i64w (n := (k : Int) + 1) (by omega), q5, q7, q15, q17]
    exact (hE'.trans' hE4).trans' hE5
  · have hk' : k = td.length := by omega
    subst hk'
    simp -implicitDefEqProofs [ir10_l7, h19, q17, k17.is, k17.len, ir10_k8]
    refine (l_read (hG.ext hE')).mono ?_
    rintro _ W2 ⟨rfl, hE2⟩
    simp -implicitDefEqProofs [okR]
    exact (hE.trans' hE').trans' hE2

/-- The text with another one behind it. -/
theorem law10_both {w W : World} (hG : G W) (hE : Ext w W) {one two : Bs} (h1 : one.length ≤ 1500) (h2 : two.length ≤ 1500) {ta : List Tok} {ca : List Bs} (hx : scan one = .ok ta ca) {va : Value} (hka : SlK W va ta)
    (ρ : Env) (p0 : ρ 0 = .string (mkS one)) (p1 : ρ 1 = .string (mkS two)) (p5 : ρ 5 = va) (p7 : ρ 7 = .int .i64 (lineN one : Int)) : ir10_k11.wp ⟨Tryz.prog, 178, ir10_V, []⟩ (retK [.tmp 4] (okR w)) (ksOf [.tmp 4] (okR w)) ρ W := by
  have m1 : one.length + 1 ≤ maxLen := by simp only [maxLen]; omega
  have m2 : one.length + 1 + two.length ≤ maxLen := by simp only [maxLen]; omega
  have hlin : lineN one ≤ 1500 := by
    have : lineN one ≤ one.length := by unfold lineN; exact List.length_filter_le _ _
    omega
  have hx1 : scanAt one 1 = .ok ta ca := by rw [← scanAt_short (by omega)]; exact hx
  have hall : scan (one ++ 10 :: two) = ((scan two).shift ((lineN one : Int) + 1)).add ta ca := by
    rw [scanAt_short (by simp only [List.length_append, List.length_cons]; omega), scan_behind two one 1 ta ca hx1, scanAt_short (s := two) (by omega), ← scan_shift]
    congr 2
  simp -implicitDefEqProofs [ir10_k11, p0, p1, mk10, mkS_app, m1, m2]
  refine (t_Scan hG (one ++ 10 :: two) (by simp; omega)).mono ?_
  rintro _ W1 ⟨v1, rfl, ho1, hE1⟩
  have hk1 := SlK.own ho1 (by have := (scan_le (one ++ 10 :: two)).1; omega)
  rw [fV]
  simp -implicitDefEqProofs
  refine eff_alloc z31 fun B2 W2 hB2 hE2 hb2 _ => ?_
  simp -implicitDefEqProofs
  refine eff_storeN (B := B2) (by simp) hb2 (by simp [Value.cells]) (by simp [Value.cells]) (by simpa [Value.cells] using sz31) fun W3 hO3 hb3 => ?_
  simp -implicitDefEqProofs [Value.cells, p1] at hb3 ⊢
  have hE13 : Ext W1 W3 := hO3.ext hE2 hB2
  have hE3 := hE1.trans' hE13
  refine (t_Scan (hG.ext hE3) two (by omega)).mono ?_
  rintro _ W4 ⟨v4, rfl, ho4, hE4⟩
  have hk4 := SlK.own ho4 (by have := (scan_le two).1; omega)
  rw [fV]
  simp -implicitDefEqProofs
  refine eff_alloc z31 fun B5 W5 hB5 hE5 hb5 _ => ?_
  simp -implicitDefEqProofs
  refine eff_storeN (B := B5) (by simp) hb5 (by simp [Value.cells]) (by simp [Value.cells]) (by simpa [Value.cells] using sz31) fun W6 hO6 hb6 => ?_
  simp -implicitDefEqProofs [Value.cells] at hb6 ⊢
  have hE46 : Ext W4 W6 := hO6.ext hE5 hB5
  have hE36 := hE4.trans' hE46
  have hE06 := hE3.trans' hE36
  have g6 := hE.trans' hE06
  have b3 := hb3.ext hE36
  have k15 := (hk1.ext hE13).ext hE36
  have k17 := hk4.ext hE46
  simp -implicitDefEqProofs [hb6.cell, bu31z]
  refine eff_neqT (xs := #[.int .i64 (scan two).err, .int .i64 (scan two).at]) (ys := #[.int .i64 0, .int .i64 0]) (by simp) (by simp) g31 (eqFault _ _ 0 0 _) ?_
  have hs2 := srt_scan two 1
  rw [← scanAt_short (by omega)] at hs2
  rcases scan_ok two with ⟨td, cd, hy⟩ | ⟨e, x, hy, he⟩
  · rw [hy] at hall k17 hb6 hs2 ⊢
    rw [hall] at k15 b3
    simp only [Res.shift, Res.add, Res.toks, Res.err, Res.at] at k15 b3 k17 hb6 hs2 ⊢
    have k15' : SlK W6 v1 (ta ++ td.map (shT ((lineN one : Nat) + 1))) := k15
    have hpre := k15'.pre (n := ta.length) (by simp)
    have ka6 := hka.ext hE06
    have hll : slLen v1 = ta.length + td.length := by rw [k15'.len]; simp
    have hwI : IntKind.i64.wrap ((ta.length : Int) + (td.length : Int)) = (ta.length : Int) + (td.length : Int) := by
      have := k15'.bd
      simp at this
      rw [i64w (by omega)]
    have hcap : ((ta.length : Nat) : Int) ≤ ((slCap v1 : Nat) : Int) := by have := hpre.1; omega
    have htk : (ta ++ td.map (shT ((lineN one : Nat) + 1))).take ta.length = ta := List.take_left
    rw [htk] at hpre
    simp -implicitDefEqProofs [ir10_k10, b3.cell, hb6.cell]
    refine eff_neqT (xs := #[.int .i64 0, .int .i64 0]) (ys := #[.int .i64 0, .int .i64 0]) (by simp) (by simp) g31 (eqFault 0 0 0 0 _) ?_
    simp -implicitDefEqProofs [k15'.is, hll, p5, ka6.is, ka6.len, k17.is, k17.len, hwI, hcap, hpre.1]
    refine (r_Same hpre.2 ka6).mono ?_
    rintro _ W7 ⟨rfl, hE7⟩
    simp -implicitDefEqProofs
    refine law10_loop (hG.ext (hE06.trans' hE7)) (g6.trans' hE7) (k15'.ext hE7) (k17.ext hE7) ka6.is ka6.len (by omega) (fun t ht => ?_) _ (by simp [p5]) (by simp [p7]) (by simp) (by simp)
    have a1 := (hs2.1.right t ht).2
    have a2 := hs2.2 t ht
    omega
  · rw [hy] at hall k17 hb6 hs2 ⊢
    rw [hall] at k15 b3
    simp only [Res.shift, Res.add, Res.toks, Res.err, Res.at] at k15 b3 k17 hb6 hs2 ⊢
    have hxb : 0 ≤ x ∧ x ≤ 2000 := by
      have key : ∀ (s : Bs) (l : Int), ∀ e x, scanAt s l = .bad e x → l ≤ x ∧ x ≤ l + s.length := by
        intro s l
        refine scan_cases (P := fun s l => ∀ e x, scanAt s l = .bad e x → l ≤ x ∧ x ≤ l + s.length) ?_ ?_ ?_ ?_ ?_ ?_ s l
        · intro l e x h; rw [scanAt_nil] at h; cases h
        · intro r l ih e x h; rw [scanAt_nl] at h; have := ih e x h; simp only [List.length_cons]; omega
        · intro c r l hc ih e x h; rw [scanAt_sp r l hc] at h; have := ih e x h; simp only [List.length_cons]; omega
        · intro a r l ha hr ih e x h
          rw [scanAt_com l ha hr] at h
          cases hx : scanAt r l with
          | ok ts cs => rw [hx] at h; cases h
          | bad e' x' => rw [hx] at h; cases h; have := ih _ _ hx; simp only [List.length_append, List.length_cons]; omega
        · intro c r l h1 h2 h3 h4 he e x h; rw [scanAt_err l h1 h2 h3 h4 he] at h; cases h; exact ⟨Int.le_refl _, by omega⟩
        · intro k s r l hr hf ih e x h
          rw [scanAt_tok (first_alone hr).1 hf (right_bytes hr)] at h
          cases hx : scanAt r l with
          | ok ts cs => rw [hx] at h; cases h
          | bad e' x' => rw [hx] at h; cases h; have := ih _ _ hx; simp only [List.length_append]; omega
      have hy1 := hy
      rw [scanAt_short (by omega)] at hy1
      have := key two 1 e x hy1
      omega
    simp -implicitDefEqProofs [he]
    refine (l_read (hG.ext hE06)).mono ?_
    rintro _ W7 ⟨rfl, hE7⟩
    have k157 := k15.ext hE7
    simp -implicitDefEqProofs [-wps_asg, -wps_eff, wa2, we2, (b3.ext hE7).cell, (hb6.ext hE7).cell, p7, i64w (n := x + (lineN one : Int)) (by omega), i64w (n := x + (lineN one : Int) + 1) (by omega), bu31]
    refine eff_eqlT (xs := #[.int .i64 e, .int .i64 (x + ((lineN one : Int) + 1))]) (ys := #[.int .i64 e, .int .i64 (x + (lineN one : Int) + 1)]) (by simp) (by simp) g31 (eqFault _ _ _ _ _) ?_
    have hxe : x + ((lineN one : Int) + 1) = x + (lineN one : Int) + 1 := by omega
    simp -implicitDefEqProofs [-wps_asg, -wps_eff, wa2, we2, hxe, k157.is, k157.len, okR]
    exact g6.trans' hE7

/-- The text without its comments. -/
theorem law10_bare {w W : World} (hG : G W) (hE : Ext w W) {one two : Bs} (h1 : one.length ≤ 1500) (h2 : two.length ≤ 1500) {ta : List Tok} {ca : List Bs} (hx : scan one = .ok ta ca) {va : Value} (hka : SlK W va ta) {B6 : Nat} (hb6 : Blk W B6 #[.int .i64 0, .int .i64 0] 31)
    (ρ : Env) (p0 : ρ 0 = .string (mkS one)) (p1 : ρ 1 = .string (mkS two)) (p5 : ρ 5 = va) (p6 : ρ 6 = .pointer (some ⟨B6, 0, none⟩)) (p7 : ρ 7 = .int .i64 (lineN one : Int)) (p8 : ρ 8 = .string (mkS (bareF false one))) :
    ir10_k12.wp ⟨Tryz.prog, 178, ir10_V, []⟩ (retK [.tmp 4] (okR w)) (ksOf [.tmp 4] (okR w)) ρ W := by
  have hbl := bare_le one false
  have hx1 : scanAt one 1 = .ok ta ca := by rw [← scanAt_short (by omega)]; exact hx
  have hsb : scan (bareF false one) = .ok ta [] := by rw [scanAt_short (by omega)]; exact bare_scan one 1 ta ca hx1
  simp -implicitDefEqProofs [ir10_k12, p8]
  refine (t_Scan hG (bareF false one) (by omega)).mono ?_
  rintro _ W1 ⟨v1, rfl, ho1, hE1⟩
  have hk1 := SlK.own ho1 (by have := (scan_le (bareF false one)).1; omega)
  rw [fV]
  rw [hsb] at hk1 ⊢
  simp only [Res.toks, Res.err, Res.at] at hk1 ⊢
  simp -implicitDefEqProofs
  refine eff_alloc z31 fun B2 W2 hB2 hE2 hb2 _ => ?_
  simp -implicitDefEqProofs
  refine eff_storeN (B := B2) (by simp) hb2 (by simp [Value.cells]) (by simp [Value.cells]) (by simpa [Value.cells] using sz31) fun W3 hO3 hb3 => ?_
  simp -implicitDefEqProofs [Value.cells, p8] at hb3 ⊢
  have hE13 : Ext W1 W3 := hO3.ext hE2 hB2
  have hE3 := hE1.trans' hE13
  refine (t_Comments (hG.ext hE3) (bareF false one) (by omega)).mono ?_
  rintro _ W4 ⟨v4, rfl, ho4, hE4⟩
  rw [fV]
  rw [hsb] at ho4 ⊢
  simp only [Res.coms, Res.err, Res.at] at ho4 ⊢
  have hk4 : SlT W4 v4 [] := Own.sl (by simpa using ho4) (by simp)
  simp -implicitDefEqProofs
  refine eff_alloc z31 fun B5 W5 hB5 hE5 hb5 _ => ?_
  simp -implicitDefEqProofs
  refine eff_storeN (B := B5) (by simp) hb5 (by simp [Value.cells]) (by simp [Value.cells]) (by simpa [Value.cells] using sz31) fun W6 hO6 hb56 => ?_
  simp -implicitDefEqProofs [Value.cells] at hb56 ⊢
  have hE46 : Ext W4 W6 := hO6.ext hE5 hB5
  have hE36 := hE4.trans' hE46
  have hE06 := hE3.trans' hE36
  have g6 := hE.trans' hE06
  have b6 := hb6.ext hE06
  have k4 := hk4.ext hE46
  simp -implicitDefEqProofs [-wps_asg, -wps_eff, wa2, we2, (hb3.ext hE36).cell, p6, b6.cell]
  refine eff_neqT (xs := #[.int .i64 0, .int .i64 0]) (ys := #[.int .i64 0, .int .i64 0]) (by simp) (by simp) g31 (eqFault 0 0 0 0 _) ?_
  simp -implicitDefEqProofs [-wps_asg, -wps_eff, wa2, we2, hb56.cell, p6, b6.cell]
  refine eff_neqT (xs := #[.int .i64 0, .int .i64 0]) (ys := #[.int .i64 0, .int .i64 0]) (by simp) (by simp) g31 (eqFault 0 0 0 0 _) ?_
  simp -implicitDefEqProofs [-wps_asg, -wps_eff, wa2, we2, k4.is, k4.len, p5]
  refine (r_Same (hka.ext hE06) ((hk1.ext hE13).ext hE36)).mono ?_
  rintro _ W7 ⟨rfl, hE7⟩
  simp -implicitDefEqProofs [-wps_asg, -wps_eff, wa2, we2]
  exact law10_both (hG.ext (hE06.trans' hE7)) (g6.trans' hE7) h1 h2 hx ((hka.ext hE06).ext hE7) _ (by simp [p0]) (by simp [p1]) (by simp [p5]) (by simp [p7])

theorem cut1 (s : Bs) {k : Nat} (hk : k < s.length) : (mkS s).extract k (k + 1) = mkS [s[k]] := by
  apply ByteArray.ext
  rw [ByteArray.data_extract]
  apply Array.ext'
  simp only [mkS, Array.toList_extract, List.extract_eq_take_drop]
  rw [show k + 1 - k = 1 by omega, List.drop_eq_getElem_cons hk]
  rfl
theorem mkS_at (b : Bs) (i : Nat) (h : i < (mkS b).size) : (mkS b)[i] = b[i]'(by simpa using h) := by
  rfl
theorem bareF_cons (o : Bool) (c : UInt8) (r : Bs) : bareF o (c :: r) = if c = 10 then 10 :: bareF false r else if o || decide (c = 37) then bareF true r else c :: bareF false r := by rw [bareF]
def L10I (W : World) (one two : Bs) (v1 : Value) (B2 : Nat) (k : Nat) (ρ' : Env) (w' : World) : Prop :=
  w' = W ∧ (∃ (n : Nat) (acc : Bs) (o : Bool), ρ' 7 = .int .i64 (n : Int) ∧ ρ' 8 = .string (mkS acc) ∧ ρ' 9 = .bool o ∧ n ≤ k ∧ acc.length ≤ k ∧ lineN one = n + lineN (one.drop k) ∧ bareF false one = acc ++ bareF o (one.drop k)) ∧ ρ' 0 = .string (mkS one) ∧ ρ' 1 = .string (mkS two) ∧ ρ' 5 = v1 ∧ ρ' 6 = .pointer (some ⟨B2, 0, none⟩)
theorem law10 {w : World} (hG : G w) (one two : Bs) : Calls Tryz.prog 10 #[.string (mkS one), .string (mkS two)] w (okR w) := by
  refine ir10_calls fun ρ p0 p1 => ?_
  by_cases hb1 : 1500 < one.length
  · have hb1' : (1500 : Int) < one.length := by omega
    simp -implicitDefEqProofs [ir10, p0, p1, hb1, hb1']
    refine (l_read hG).mono ?_
    rintro _ W1 ⟨rfl, hE1⟩
    simp -implicitDefEqProofs [okR]
    exact hE1
  have hb1' : ¬ (1500 : Int) < one.length := by omega
  by_cases hb2 : 1500 < two.length
  · have hb2' : (1500 : Int) < two.length := by omega
    simp -implicitDefEqProofs [ir10, p0, p1, hb1, hb1', hb2, hb2']
    refine (l_read hG).mono ?_
    rintro _ W1 ⟨rfl, hE1⟩
    simp -implicitDefEqProofs [okR]
    exact hE1
  have hb2' : ¬ (1500 : Int) < two.length := by omega
  simp -implicitDefEqProofs [ir10, ir10_k14, p0, p1, hb1, hb1', hb2, hb2']
  refine (t_Scan hG one (by omega)).mono ?_
  rintro _ W1 ⟨v1, rfl, ho1, hE1⟩
  have hk1 := SlK.own ho1 (by have := (scan_le one).1; omega)
  rw [fV]
  simp -implicitDefEqProofs
  refine eff_alloc z31 fun B2 W2 hB2 hE2 hb2 _ => ?_
  simp -implicitDefEqProofs
  refine eff_storeN (B := B2) (by simp) hb2 (by simp [Value.cells]) (by simp [Value.cells]) (by simpa [Value.cells] using sz31) fun W hO3 hb3 => ?_
  simp -implicitDefEqProofs [Value.cells] at hb3 ⊢
  have hE13 : Ext W1 W := hO3.ext hE2 hB2
  have g3 := hE1.trans' hE13
  have hk3 := hk1.ext hE13
  simp -implicitDefEqProofs [hb3.cell, bu31z]
  refine eff_neqT (xs := #[.int .i64 (scan one).err, .int .i64 (scan one).at]) (ys := #[.int .i64 0, .int .i64 0]) (by simp) (by simp) g31 (eqFault _ _ 0 0 _) ?_
  rcases scan_ok one with ⟨ta, ca, hx⟩ | ⟨e, x, hx, he⟩
  · rw [hx] at hk3 hb3 ⊢
    simp only [Res.toks, Res.err, Res.at] at hk3 hb3 ⊢
    simp -implicitDefEqProofs [ir10_k13]
    refine loopC 10 one.length (fun k ρ' w' => L10I W one two v1 B2 k ρ' w') (by simp)
      ⟨rfl, ⟨0, [], false, by simp, by simp [mk0], by simp, Nat.le_refl _, Nat.le_refl _, by simp, by simp⟩, by simp [p0], by simp [p1], by simp, by simp⟩ ?_
    rintro k ρ' w' hk h10 ⟨rfl, ⟨n, acc, o, q7, q8, q9, hn, ha, hl, hbr⟩, q0, q1, q5, q6⟩
    by_cases hlt : k < one.length
    · have hd : one.drop k = one[k] :: one.drop (k + 1) := List.drop_eq_getElem_cons hlt
      have hg : (mkS one)[k]'(by simpa using hlt) = one[k] := mkS_at one k _
      have hkkI : (k : Int) ≤ (k : Int) + 1 := by omega
      rw [hd] at hl hbr
      rw [bareF_cons] at hbr
      have hkw := i64w (n := (k : Int) + 1) (by omega)
      have hnw := i64w (n := (n : Int) + 1) (by omega)
      have m1 : acc.length + 1 ≤ maxLen := by simp only [maxLen]; omega
      have hk1I : ((k : Int) + 1).toNat = k + 1 := by omega
      have hszI : (k : Int) + 1 ≤ (one.length : Int) := by omega
      have hkk : k ≤ k + 1 := by omega
      have hcut := cut1 one hlt
      by_cases c10 : one[k] = 10
      · rw [if_pos c10] at hbr
        have hlc : lineN (one[k] :: one.drop (k + 1)) = lineN (one.drop (k + 1)) + 1 := by rw [c10]; simp [lineN]
        rw [hlc] at hl
        rw [c10] at hg hcut
        simp -implicitDefEqProofs [ir10_l3, ir10_k2, ir10_k1, ir10_k0, h10, q0, q7, q8, q9, hlt, hg, hnw, hkw, hk1I, hkkI, hszI, hcut, mkS_app, m1]
        exact ⟨rfl, ⟨n + 1, acc ++ [10], false, by simp, by simp, by simp, by omega, by simp; omega, by omega, by simpa using hbr⟩, by simp [q0], by simp [q1], by simp [q5], by simp [q6]⟩
      · rw [if_neg c10] at hbr
        have hlc : lineN (one[k] :: one.drop (k + 1)) = lineN (one.drop (k + 1)) := by unfold lineN; rw [List.filter_cons_of_neg (by simpa using c10)]
        rw [hlc] at hl
        have c10I : ¬ ((one[k].toNat : Int) = 10) := fun h => c10 (by apply UInt8.toNat_inj.1; show one[k].toNat = 10; omega)
        cases o with
        | true =>
          simp at hbr
          simp -implicitDefEqProofs [ir10_l3, ir10_k2, ir10_k1, ir10_k0, h10, q0, q7, q8, q9, hlt, hg, c10I, hkw]
          exact ⟨rfl, ⟨n, acc, true, by simp [q7], by simp [q8], by simp [q9], by omega, by omega, hl, hbr⟩, by simp [q0], by simp [q1], by simp [q5], by simp [q6]⟩
        | false =>
          by_cases c37 : one[k] = 37
          · have c37I : (one[k].toNat : Int) = 37 := by rw [c37]; rfl
            simp [c37] at hbr
            simp -implicitDefEqProofs [ir10_l3, ir10_k2, ir10_k1, ir10_k0, h10, q0, q7, q8, q9, hlt, hg, c10I, c37I, hkw]
            exact ⟨rfl, ⟨n, acc, true, by simp [q7], by simp [q8], by simp [q9], by omega, by omega, hl, hbr⟩, by simp [q0], by simp [q1], by simp [q5], by simp [q6]⟩
          · have c37I : ¬ ((one[k].toNat : Int) = 37) := fun h => c37 (by apply UInt8.toNat_inj.1; show one[k].toNat = 37; omega)
            simp [c37] at hbr
            simp -implicitDefEqProofs [ir10_l3, ir10_k2, ir10_k1, ir10_k0, h10, q0, q7, q8, q9, hlt, hg, c10I, c37I, hkw, hk1I, hkkI, hszI, hcut, mkS_app, m1]
            exact ⟨rfl, ⟨n, acc ++ [one[k]], false, by simp [q7], by simp, by simpa using c37I, by omega, by simp; omega, hl, by simpa using hbr⟩, by simp [q0], by simp [q1], by simp [q5], by simp [q6]⟩
    · have hk' : k = one.length := by omega
      subst hk'
      simp [bareF, lineN] at hl hbr
      have hln : lineN one = n := by simpa [lineN] using hl
      simp -implicitDefEqProofs [ir10_l3, h10, q0]
      exact law10_bare (hG.ext g3) g3 (by omega) (by omega) hx hk3 hb3 _ q0 q1 q5 q6 (by rw [hln]; exact q7) (by rw [hbr]; exact q8)
  · rw [hx]
    simp only [Res.err, Res.at]
    simp -implicitDefEqProofs [he]
    refine (l_read (hG.ext g3)).mono ?_
    rintro _ W4 ⟨rfl, hE4⟩
    simp -implicitDefEqProofs [okR]
    exact g3.trans' hE4
end Go.L01
