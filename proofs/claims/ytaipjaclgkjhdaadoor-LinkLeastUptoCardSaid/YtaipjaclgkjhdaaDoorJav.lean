/- Texts of mine for the claims about layer 16 (link), joined: L16A, L16B, L16C, L16D, L16E, L16F, L16R, L16G. -/
import Derived.Test.YtaipjaclgkjhdaaDoorJar
import Derived.Test.YtaipjaclgkjhdaaDoorJas
set_option linter.all false
set_option linter.unusedSimpArgs false
set_option linter.unusedVariables false
/- Layer 16: contracts of the reference's leaves. -/
namespace Go.L16
open Go Go.Eng Go.RowKit Go.Proofs

theorem cb54 : callB Tryd.prog 54 = true := by kernel_rfl

theorem isName_step (s : ByteArray) (k : Nat) (hlt : k < s.size) (h : (s.data.toList.take k).all nameByte = true) (h1 : 33 ≤ s[k].toNat) (h2 : s[k].toNat ≤ 126) : (s.data.toList.take (k+1)).all nameByte = true := by
  have : s.data.toList.take (k+1) = s.data.toList.take k ++ [s[k]] := by
    rw [List.take_succ_eq_append_getElem (by simpa using hlt)]; rfl
  rw [this]; simp_all [nameByte]
theorem isName_no (s : ByteArray) (k : Nat) (hlt : k < s.size) (h1 : s[k].toNat < 33 ∨ 126 < s[k].toNat) : isName s = false := by
  have hm : s[k] ∈ s.data.toList := by
    have : s.data.toList[k]'(by simpa using hlt) = s[k] := rfl
    rw [← this]; exact List.getElem_mem _
  have : (s.data.toList.all nameByte) = false := by
    rw [List.all_eq_false]
    exact ⟨s[k], hm, by simp [nameByte]; omega⟩
  simp [isName, this]

theorem ref_isName (s : ByteArray) (w : World) (hs : s.size ≤ maxLen) :
    Calls Tryd.prog 54 #[.string s] w fun e w' => e = .returned (.bool (isName s)) ∧ w = w' := by
  unfold maxLen at hs
  refine ir54_calls fun ρ h0 => ?_
  simp [ir54]
  refine loopC 3 s.size (fun k ρ' w' => w' = w ∧ ρ' 0 = .string s ∧ (s.data.toList.take k).all nameByte = true) (by simp) ⟨rfl, by simp [h0], by simp⟩ ?_
  rintro k ρ' w' hk h3 ⟨rfl, h0, hall⟩
  by_cases hlt : k < s.size
  · simp [ir54_l2, ir54_k1, ir54_k0, h3, h0, hlt, i64w (n := (k : Int) + 1) (by omega)]
    by_cases hc : s[k].toNat < 33 ∨ 126 < s[k].toNat
    · have hc' : (s[k].toNat : Int) < 33 ∨ 126 < (s[k].toNat : Int) := by omega
      simp [hc', isName_no s k hlt hc]
    · have hc' : ¬ ((s[k].toNat : Int) < 33 ∨ 126 < (s[k].toNat : Int)) := by omega
      rw [if_neg hc']
      simpa using isName_step s k hlt hall (by omega) (by omega)
  · have : k = s.size := by omega
    subst this
    rw [List.take_of_length_le (by simp)] at hall
    have hn : isName s = (decide (1 ≤ (s.size : Int)) && decide ((s.size : Int) ≤ 120)) := by
      unfold isName; rw [hall, Bool.eq_iff_iff]; simp; omega
    simp [ir54_l2, ir54_k3, h3, h0, hn]

theorem idx_at {l : List ByteArray} {s : ByteArray} {k : Nat} (hk : k < l.length) (h : ∀ j (hj : j < l.length), j < k → l[j] ≠ s) (hs : l[k] = s) : idx l s = k := by
  have h1 : l.findIdx (fun x => decide (x = s)) = k := by
    rw [List.findIdx_eq hk]
    exact ⟨by simp [hs], fun j hj => by simpa using h j (by omega) hj⟩
  unfold idx
  rw [h1, if_pos hk]
theorem idx_no {l : List ByteArray} {s : ByteArray} (h : ∀ j (hj : j < l.length), l[j] ≠ s) : idx l s = -1 := by
  have h1 : ¬ l.findIdx (fun x => decide (x = s)) < l.length := fun hlt => by
    have := List.findIdx_getElem (w := hlt)
    simp only [decide_eq_true_eq] at this
    exact h _ hlt this
  unfold idx
  rw [if_neg h1]

theorem ref_index {w : World} {v : Value} {l : List ByteArray} (s : ByteArray) (hl : Sl Value.string w v l) :
    Calls Tryd.prog 51 #[v, .string s] w fun e w' => e = .returned (.int .i64 (idx l s)) ∧ w = w' := by
  have hbd := hl.bd
  refine ir51_calls fun ρ h0 h1 => ?_
  simp [ir51]
  refine loopC 5 l.length (fun k ρ' w' => w' = w ∧ ρ' 0 = v ∧ ρ' 1 = .string s ∧ ∀ j (hj : j < l.length), j < k → l[j] ≠ s) (by simp) ⟨rfl, by simp [h0], by simp [h1], by simp⟩ ?_
  rintro k ρ' w' hk h5 ⟨rfl, h0, h1, hall⟩
  by_cases hlt : k < l.length
  · simp [ir51_l2, ir51_k1, ir51_k0, h5, h0, h1, hl.is, hl.len, hl.cell k hlt, hlt, i64w (n := (k : Int) + 1) (by omega)]
    by_cases hc : l[k] = s
    · rw [if_pos hc, idx_at hlt hall hc]
    · rw [if_neg hc]
      intro j hj hjk
      by_cases h : j = k
      · subst h; exact hc
      · exact hall j hj (by omega)
  · simp [ir51_l2, ir51_k3, h5, h0, hlt, hl.is, hl.len]
    rw [idx_no fun j hj => hall j hj (by omega)]

/-! ### Equality of lists -/
theorem ref_SameStrings {w : World} {v u : Value} {l m : List ByteArray} (hl : Sl Value.string w v l) (hm : Sl Value.string w u m) :
    Calls Tryd.prog 40 #[v, u] w fun e w' => e = .returned (.bool (decide (l = m))) ∧ Ext w w' := by
  have hbd := hl.bd
  refine ir40_calls fun ρ h0 h1 => ?_
  by_cases hlen : l.length = m.length
  · simp [ir40, h0, h1, hl.is, hm.is, hl.len, hm.len, hlen, ir40_k5]
    refine loopC 5 l.length (fun k ρ' w' => Ext w w' ∧ ρ' 0 = v ∧ ρ' 1 = u ∧ ∀ j (hj : j < l.length) (hj' : j < m.length), j < k → l[j] = m[j]) (by simp) ⟨ext_refl w, by simp [h0], by simp [h1], by simp⟩ ?_
    rintro k ρ' w' hk h5 ⟨hE, h0, h1, hall⟩
    have hl' := hl.ext hE
    have hm' := hm.ext hE
    by_cases hlt : k < l.length
    · have hlt' : k < m.length := by omega
      simp [ir40_l3, ir40_k2, ir40_k1, ir40_k0, h5, h0, h1, hl.is, hm.is, hl.len, hm.len, hl'.cell k hlt, hm'.cell k hlt', hlt, hlt', i64w (n := (k : Int) + 1) (by omega)]
      intro w2 hw2
      by_cases hc : l[k] = m[k]
      · rw [if_pos hc]
        refine ⟨hE.trans' hw2, fun j hj hj' hjk => ?_⟩
        by_cases h : j = k
        · subst h; exact hc
        · exact hall j hj hj' (by omega)
      · rw [if_neg hc]
        exact ⟨fun e => hc (by subst e; rfl), hE.trans' hw2⟩
    · simp [ir40_l3, ir40_k4, h5, h0, hlt, hl.is, hl.len]
      exact ⟨List.ext_getElem hlen fun j hj hj' => hall j hj hj' (by omega), hE⟩
  · have hne : l ≠ m := fun e => hlen (by rw [e])
    simp [ir40, h0, h1, hl.is, hm.is, hl.len, hm.len, hlen, hne]
    exact ext_refl w

theorem ref_SameInts {w : World} {v u : Value} {l m : List Int} (hl : Sl encI w v l) (hm : Sl encI w u m) :
    Calls Tryd.prog 32 #[v, u] w fun e w' => e = .returned (.bool (decide (l = m))) ∧ Ext w w' := by
  have hbd := hl.bd
  refine ir32_calls fun ρ h0 h1 => ?_
  by_cases hlen : l.length = m.length
  · simp [ir32, h0, h1, hl.is, hm.is, hl.len, hm.len, hlen, ir32_k5]
    refine loopC 5 l.length (fun k ρ' w' => Ext w w' ∧ ρ' 0 = v ∧ ρ' 1 = u ∧ ∀ j (hj : j < l.length) (hj' : j < m.length), j < k → l[j] = m[j]) (by simp) ⟨ext_refl w, by simp [h0], by simp [h1], by simp⟩ ?_
    rintro k ρ' w' hk h5 ⟨hE, h0, h1, hall⟩
    have hl' := hl.ext hE
    have hm' := hm.ext hE
    by_cases hlt : k < l.length
    · have hlt' : k < m.length := by omega
      simp [ir32_l3, ir32_k2, ir32_k1, ir32_k0, h5, h0, h1, hl.is, hm.is, hl.len, hm.len, hl'.cell k hlt, hm'.cell k hlt', encI, hlt, hlt', i64w (n := (k : Int) + 1) (by omega)]
      intro w2 hw2
      by_cases hc : l[k] = m[k]
      · rw [if_pos hc]
        refine ⟨hE.trans' hw2, fun j hj hj' hjk => ?_⟩
        by_cases h : j = k
        · subst h; exact hc
        · exact hall j hj hj' (by omega)
      · rw [if_neg hc]
        exact ⟨fun e => hc (by subst e; rfl), hE.trans' hw2⟩
    · simp [ir32_l3, ir32_k4, h5, h0, hlt, hl.is, hl.len]
      exact ⟨List.ext_getElem hlen fun j hj hj' => hall j hj hj' (by omega), hE⟩
  · have hne : l ≠ m := fun e => hlen (by rw [e])
    simp [ir32, h0, h1, hl.is, hm.is, hl.len, hm.len, hlen, hne]
    exact ext_refl w

theorem ref_SameBytes {w : World} {v u : Value} {l m : List UInt8} (hl : Sl encB w v l) (hm : Sl encB w u m) :
    Calls Tryd.prog 21 #[v, u] w fun e w' => e = .returned (.bool (decide (l = m))) ∧ w = w' := by
  refine ir21_calls fun ρ h0 h1 => ?_
  simp [ir21, h0, h1, b2s_of hl, b2s_of hm, mkS_inj]

theorem cb40 : callB Tryd.prog 40 = true := by kernel_rfl
theorem cb32 : callB Tryd.prog 32 = true := by kernel_rfl
theorem cb21 : callB Tryd.prog 21 = true := by kernel_rfl

theorem ref_Same {w : World} {a b c a' b' c' : Value} {i j : Img} (hi : ImgC w a b c i) (hj : ImgC w a' b' c' j) :
    Calls Tryd.prog 26 #[.agg #[a, b, c], .agg #[a', b', c']] w fun e w' => e = .returned (.bool (decide (i = j))) ∧ Ext w w' := by
  refine ir26_calls fun ρ h0 h1 => ?_
  simp [ir26, h0, h1]
  refine eff_box fun B W hB hE hb _ => ?_
  simp [h0, h1, Value.cells] at hb ⊢
  refine eff_box fun B' W' hB' hE' hb' _ => ?_
  simp [h0, h1, Value.cells] at hb' ⊢
  have hc := hb.ext hE'
  have hE := hE.trans' hE'
  have hi' := hi.ext hE
  have hj' := hj.ext hE
  simp [cb40, hc.cell, hb'.cell]
  refine (ref_SameStrings hi'.names.1 hj'.names.1).mono ?_
  rintro _ w1 ⟨rfl, hw1⟩
  by_cases hn : i.names = j.names
  · simp [hn, (hc.ext hw1).cell, (hb'.ext hw1).cell, cb32]
    refine (ref_SameInts (hi'.starts.1.ext hw1) (hj'.starts.1.ext hw1)).mono ?_
    rintro _ w2 ⟨rfl, hw2⟩
    have hw12 := hw1.trans' hw2
    by_cases hs : i.starts = j.starts
    · simp [hs, (hc.ext hw12).cell, (hb'.ext hw12).cell, cb21]
      refine (ref_SameBytes (hi'.code.ext hw12) (hj'.code.ext hw12)).mono ?_
      rintro _ w3 ⟨rfl, rfl⟩
      refine ⟨?_, hE.trans' hw12⟩
      cases i; cases j; simp_all [tupled]
    · simp [hs]
      refine ⟨?_, hE.trans' hw12⟩
      rintro rfl; exact hs rfl
  · simp [hn]
    refine ⟨?_, hE.trans' hw1⟩
    rintro rfl; exact hn rfl
end Go.L16
/- Layer 16: contracts of the reference: images. -/
namespace Go.L16
open Go Go.Eng Go.RowKit Go.Proofs

theorem law_short {w : World} {v : Value} {l : List ByteArray} (hl : SlS w v l) :
    Calls Tryd.prog 28 #[v] w fun e w' => e = .returned (.bool (short l)) ∧ w = w' := by
  have hbd := hl.1.bd
  refine ir28_calls fun ρ h0 => ?_
  simp [ir28]
  refine loopC 3 l.length (fun k ρ' w' => w' = w ∧ ρ' 0 = v ∧ ∀ j (hj : j < l.length), j < k → l[j].size ≤ 130) (by simp) ⟨rfl, by simp [h0], by simp⟩ ?_
  rintro k ρ' w' hk h3 ⟨rfl, h0, hall⟩
  by_cases hlt : k < l.length
  · simp [ir28_l2, ir28_k1, ir28_k0, h3, h0, hl.1.is, hl.1.len, hl.1.cell k hlt, hlt, i64w (n := (k : Int) + 1) (by omega)]
    by_cases hc : 130 < l[k].size
    · have hc' : (130 : Int) < (l[k].size : Int) := by omega
      rw [if_pos hc']
      unfold short
      have : l.all (fun s => decide (s.size ≤ 130)) = false := by
        rw [List.all_eq_false]; exact ⟨l[k], List.getElem_mem _, by simp; omega⟩
      simp [this]
    · have hc' : ¬ (130 : Int) < (l[k].size : Int) := by omega
      rw [if_neg hc']
      intro j hj hjk
      by_cases h : j = k
      · subst h; omega
      · exact hall j hj (by omega)
  · have ha : l.all (fun s => decide (s.size ≤ 130)) = true := by
      rw [List.all_eq_true]
      intro s hs
      obtain ⟨j, hj, rfl⟩ := List.getElem_of_mem hs
      simpa using hall j hj (by omega)
    have hs : short l = (decide ((l.length : Int) ≤ 12) || (decide (60 < (l.length : Int)) && decide ((l.length : Int) ≤ 62))) := by
      unfold short; rw [ha, Bool.eq_iff_iff]; simp; omega
    simp [ir28_l2, ir28_k3, h3, h0, hlt, hl.1.is, hl.1.len, hs]

theorem cb28 : callB Tryd.prog 28 = true := by kernel_rfl

theorem law_small {w : World} {a b c : Value} {i : Img} (hi : ImgC w a b c i) :
    Calls Tryd.prog 13 #[.agg #[a, b, c]] w fun e w' => e = .returned (.bool (small i)) ∧ Ext w w' := by
  refine ir13_calls fun ρ h0 => ?_
  simp [ir13, h0]
  refine eff_box fun B W hB hE hb _ => ?_
  simp [h0, Value.cells] at hb ⊢
  have hi' := hi.ext hE
  simp [cb28, hb.cell]
  refine (law_short hi'.names).mono ?_
  rintro _ w1 ⟨rfl, rfl⟩
  have hsm : small i = (short i.names && decide ((i.starts.length : Int) ≤ 62) && decide ((i.code.length : Int) ≤ 800)) := by
    have e1 : decide (i.starts.length ≤ 62) = decide ((i.starts.length : Int) ≤ 62) := by rw [decide_eq_decide]; omega
    have e2 : decide (i.code.length ≤ 800) = decide ((i.code.length : Int) ≤ 800) := by rw [decide_eq_decide]; omega
    unfold small; rw [e1, e2]
  simp [hb.cell, hi'.starts.1.is, hi'.starts.1.len, hi'.code.is, hi'.code.len, hsm]
  exact hE

theorem checkImage_bad {i : Img} {k : Nat} (hk : k < i.names.length) (h : badAt i k = true) : checkImage i = 162 := by
  have : (List.range i.names.length).all (fun k => !badAt i k) = false := by
    rw [List.all_eq_false]; exact ⟨k, by simpa using hk, by simp [h]⟩
  simp [checkImage, this]

theorem ref_CheckImage {w : World} {a b c : Value} {i : Img} (hi : ImgC w a b c i) :
    Calls Tryd.prog 20 #[.agg #[a, b, c]] w fun e w' => e = .returned (.int .i64 (checkImage i)) ∧ Ext w w' := by
  have hbd := hi.names.1.bd
  refine ir20_calls fun ρ h0 => ?_
  simp [ir20, h0]
  refine eff_box fun B W hB hE hb _ => ?_
  simp [h0, Value.cells] at hb ⊢
  simp [hb.cell, hi.names.1.is, hi.names.1.len, hi.starts.1.is, hi.starts.1.len, hi.code.is, hi.code.len]
  by_cases hsh : ((60 < (i.names.length : Int) ∨ ¬i.starts.length = i.names.length) ∨ 1200000 < (i.code.length : Int)) ∨ i.names = [] ∧ 0 < i.code.length
  · rw [if_pos hsh]
    have : imgShape i = false := by
      unfold imgShape; simp
      rw [← List.length_eq_zero_iff] at hsh
      simp only [← List.length_eq_zero_iff]
      omega
    exact ⟨by simp [checkImage, this], hE⟩
  · rw [if_neg hsh]
    have hS : imgShape i = true := by
      unfold imgShape; simp
      rw [← List.length_eq_zero_iff] at hsh
      simp only [← List.length_eq_zero_iff]
      omega
    have hlen : i.starts.length = i.names.length := by
      apply Classical.byContradiction; intro h; exact hsh (.inl (.inl (.inr h)))
    simp [ir20_k5]
    refine loopC 3 i.names.length (fun k ρ' w' => Ext W w' ∧ ρ' 1 = .pointer (some ⟨B, 0, none⟩) ∧ ∀ j, j < k → badAt i j = false) (by simp) ⟨ext_refl W, by simp, by simp⟩ ?_
    rintro k ρ' w' hk h3 ⟨hE1, h1, hall⟩
    have hi' := hi.ext (hE.trans' hE1)
    have hz := (hb.ext hE1).cell
    by_cases hlt : k < i.names.length
    · have hlts : k < i.starts.length := by omega
      have hsz : i.names[k].size ≤ maxLen := hi.names.2 _ (List.getElem_mem _)
      simp [ir20_l3, ir20_k2, h3, h1, hz, hi'.names.1.is, hi'.names.1.len, hi'.names.1.cell k hlt, hlt, cb54]
      refine ⟨.bool (isName i.names[k]), fun w2 hw2 => (ref_isName _ w2 hsz).mono ?_, ?_⟩
      · rintro _ _ ⟨rfl, rfl⟩; exact ⟨rfl, hw2⟩
      · by_cases hk0 : k = 0
        · subst hk0
          simp [h3, h1, hz, hi'.names.1.is, hi'.names.1.len, hi'.starts.1.is, hi'.starts.1.len, hi'.names.1.cell 0 hlt, hi'.starts.1.cell 0 hlts, hi'.code.is, hi'.code.len, hlt, hlts, encI]
          intro w2 hw2
          simp [ir20_k0, ir20_k1, h3, h1]
          have hb : badAt i 0 = (!isName i.names[0] || decide (i.starts[0] ≠ 0) || decide ((i.code.length : Int) < i.starts[0])) := by
            simp [badAt, hlt, hlts]
          by_cases hbad : badAt i 0 = true
          · rw [if_pos (by rw [hb] at hbad; simpa using hbad)]
            exact ⟨by rw [checkImage_bad hlt hbad], (hE.trans' hE1).trans' hw2⟩
          · rw [if_neg (by rw [hb] at hbad; simpa using hbad)]
            exact ⟨by decide, hE1.trans' hw2, by simpa using hbad⟩
        · have hk1 : k - 1 < i.names.length := by omega
          have hk1s : k - 1 < i.starts.length := by omega
          have e1 : ((k : Int) - 1) = ((k - 1 : Nat) : Int) := by omega
          simp [h3, h1, hz, hi'.names.1.is, hi'.names.1.len, hi'.starts.1.is, hi'.starts.1.len, hi'.names.1.cell k hlt, hi'.starts.1.cell k hlts, hi'.code.is, hi'.code.len, hlt, hlts, encI, hk0, i64w (n := (k : Int) - 1) (by omega)]
          simp [e1, hk1, hk1s, (show (1 : Int) ≤ k by omega), hi'.names.1.cell (k-1) hk1, hi'.starts.1.cell (k-1) hk1s, encI, Nat.pos_of_ne_zero hk0]
          intro w2 hw2
          simp [ir20_k0, ir20_k1, h3, h1, i64w (n := (k : Int) + 1) (by omega)]
          have hb : badAt i k = (!isName i.names[k] || !ltS i.names[k-1] i.names[k] || decide (i.starts[k] < i.starts[k-1]) || decide ((i.code.length : Int) < i.starts[k])) := by
            simp [badAt, hlt, hlts, hk1, hk1s, hk0, Nat.pos_of_ne_zero hk0]
          by_cases hbad : badAt i k = true
          · rw [if_pos (by rw [hb] at hbad; simpa [ltS] using hbad)]
            exact ⟨by rw [checkImage_bad hlt hbad], (hE.trans' hE1).trans' hw2⟩
          · rw [if_neg (by rw [hb] at hbad; simpa [ltS] using hbad)]
            refine ⟨hE1.trans' hw2, fun j hj => ?_⟩
            by_cases hjk : j = k
            · subst hjk; simpa using hbad
            · exact hall j (by omega)
    · simp [ir20_l3, ir20_k4, h3, h1, hz, hi'.names.1.is, hi'.names.1.len, hlt]
      refine ⟨?_, hE.trans' hE1⟩
      have : (List.range i.names.length).all (fun k => !badAt i k) = true := by
        rw [List.all_eq_true]; intro j hj; simp at hj; simp [hall j (by omega)]
      simp [checkImage, hS, this, tupled]
end Go.L16
/- Layer 16: contracts of the reference: objects. -/
namespace Go.L16
open Go Go.Eng Go.RowKit Go.Proofs
set_option maxRecDepth 10000

/-! ### What is said of objects -/
def relBad (o : Obj) (i : Nat) (r : Rel) : Bool :=
  decide (r.pos < 0) || decide ((o.code.length : Int) - 2 < r.pos) || !isName r.name || (decide (0 < i) && decide (r.pos < (o.relocs.getD (i - 1) ⟨0, .empty⟩).pos + 2)) ||
    decide ((o.code.getD r.pos.toNat 0).toNat ≠ 0) || decide ((o.code.getD (r.pos.toNat + 1) 0).toNat ≠ 0)
def relBadAt (o : Obj) (i : Nat) : Bool := match o.relocs[i]? with | some r => relBad o i r | none => false
def objShape (o : Obj) : Bool := isName o.name && decide (o.code.length ≤ 20000) && decide (o.relocs.length ≤ 2000)
def checkObj (o : Obj) : Int := if objShape o && (List.range o.relocs.length).all (fun i => !relBadAt o i) then 0 else 161

theorem checkObj_bad {o : Obj} {i : Nat} (hi : i < o.relocs.length) (h : relBadAt o i = true) : checkObj o = 161 := by
  have : (List.range o.relocs.length).all (fun i => !relBadAt o i) = false := by
    rw [List.all_eq_false]; exact ⟨i, by simpa using hi, by simp [h]⟩
  simp [checkObj, this]

def idxO (l : List Obj) (s : ByteArray) : Int := if l.findIdx (fun o => decide (o.name = s)) < l.length then (l.findIdx (fun o => decide (o.name = s)) : Int) else -1
theorem idxO_at {l : List Obj} {s : ByteArray} {k : Nat} (hk : k < l.length) (h : ∀ j (hj : j < l.length), j < k → l[j].name ≠ s) (hs : l[k].name = s) : idxO l s = k := by
  have h1 : l.findIdx (fun o => decide (o.name = s)) = k := by
    rw [List.findIdx_eq hk]
    exact ⟨by simp [hs], fun j hj => by simpa using h j (by omega) hj⟩
  unfold idxO
  rw [h1, if_pos hk]
theorem idxO_no {l : List Obj} {s : ByteArray} (h : ∀ j (hj : j < l.length), l[j].name ≠ s) : idxO l s = -1 := by
  have h1 : ¬ l.findIdx (fun o => decide (o.name = s)) < l.length := fun hlt => by
    have := List.findIdx_getElem (w := hlt)
    simp only [decide_eq_true_eq] at this
    exact h _ hlt this
  unfold idxO
  rw [if_neg h1]

theorem ref_find {w : World} {v : Value} {l : List Obj} (s : ByteArray) (hl : SlO w v l) :
    Calls Tryd.prog 66 #[v, .string s] w fun e w' => e = .returned (.int .i64 (idxO l s)) ∧ w = w' := by
  have hbd := hl.bd
  refine ir66_calls fun ρ h0 h1 => ?_
  simp [ir66]
  refine loopC 5 l.length (fun k ρ' w' => w' = w ∧ ρ' 0 = v ∧ ρ' 1 = .string s ∧ ∀ j (hj : j < l.length), j < k → l[j].name ≠ s) (by simp) ⟨rfl, by simp [h0], by simp [h1], by simp⟩ ?_
  rintro k ρ' w' hk h5 ⟨rfl, h0, h1, hall⟩
  by_cases hlt : k < l.length
  · obtain ⟨n, c, r, hn, hc, hr, ho⟩ := hl.obj k hlt
    rw [ho.name] at hn
    simp [ir66_l2, ir66_k1, ir66_k0, h5, h0, h1, hl.is, hl.len, hn, hlt, i64w (n := (k : Int) + 1) (by omega)]
    by_cases hc : l[k].name = s
    · rw [if_pos hc, idxO_at hlt hall hc]
    · rw [if_neg hc]
      intro j hj hjk
      by_cases h : j = k
      · subst h; exact hc
      · exact hall j hj (by omega)
  · simp [ir66_l2, ir66_k3, h5, h0, hlt, hl.is, hl.len]
    rw [idxO_no fun j hj => hall j hj (by omega)]

theorem z54 : zeroCellsOf Tryd.prog 54 = some #[.int .i64 0, .string .empty] := by kernel_rfl
theorem sz54 : sizeIs Tryd.prog 54 2 = true := by kernel_rfl

theorem ref_Check {w : World} {n c r : Value} {o : Obj} (ho : ObjC w n c r o) :
    Calls Tryd.prog 45 #[.agg #[n, c, r]] w fun e w' => e = .returned (.int .i64 (checkObj o)) ∧ Ext w w' := by
  have hbd := ho.rels.bd
  have hcd := ho.code.bd
  refine ir45_calls fun ρ h0 => ?_
  simp [ir45, h0]
  refine eff_box fun B W hB hE hb _ => ?_
  simp [h0, Value.cells] at hb ⊢
  simp [hb.cell, cb54, ho.name]
  refine (ref_isName _ W ho.size).mono ?_
  rintro _ _ ⟨rfl, rfl⟩
  simp [hb.cell, ho.code.is, ho.code.len, ho.rels.is, ho.rels.len]
  by_cases hsh : (isName o.name = false ∨ 20000 < (o.code.length : Int)) ∨ 2000 < (o.relocs.length : Int)
  · rw [if_pos hsh]
    have : objShape o = false := by
      unfold objShape
      rw [Bool.eq_false_iff]; simp; intro h1 h2
      rcases hsh with (h | h) | h
      · simp [h] at h1
      · omega
      · omega
    exact ⟨by simp [checkObj, this], hE⟩
  · rw [if_neg hsh]
    have hS : objShape o = true := by
      unfold objShape
      simp only [not_or, Bool.not_eq_false] at hsh
      simp [hsh.1.1]; omega
    simp [ir45_k5]
    refine loopC 3 o.relocs.length (fun k ρ' w' => Ext W w' ∧ ρ' 1 = .pointer (some ⟨B, 0, none⟩) ∧ ∀ j, j < k → relBadAt o j = false) (by simp) ⟨ext_refl W, by simp, by simp⟩ ?_
    rintro k ρ' w' hk h3 ⟨hE1, h1, hall⟩
    have ho' := ho.ext (hE.trans' hE1)
    have hz := (hb.ext hE1).cell
    by_cases hlt : k < o.relocs.length
    · have hwf := ho.rels.wf _ (List.getElem_mem hlt)
      simp [ir45_l3, ir45_k2, h3, h1, hz, ho'.rels.is, ho'.rels.len, hlt, ho'.rels.pos k hlt, ho'.rels.name k hlt]
      refine eff_var z54 (by simp) (by simp [Value.cells]) (by simp [Value.cells, Value.oneCell]) sz54 fun B2 W2 hB2 hE2 hb2 _ => ?_
      simp [Value.cells] at hb2
      have hz2 := ((hb.ext hE1).ext hE2).cell
      have ho2 := ho'.ext hE2
      have hwl := i64w (n := (o.code.length : Int) - 2) (by omega)
      by_cases hA : o.relocs[k].pos < 0 ∨ (o.code.length : Int) - 2 < o.relocs[k].pos
      · have hA' : ¬ (0 ≤ o.relocs[k].pos ∧ o.relocs[k].pos ≤ (o.code.length : Int) - 2) := by omega
        simp [h1, h3, hb2.cell, hz2, ho2.code.is, ho2.code.len, hwl, hA, hA']
        intro w3 hw3
        simp [ir45_k0]
        refine ⟨?_, (hE.trans' hE1).trans' (hE2.trans' hw3)⟩
        rw [checkObj_bad hlt]
        simp only [relBadAt, List.getElem?_eq_getElem hlt, relBad]
        rcases hA with h | h <;> simp [h]
      · obtain ⟨p, hp⟩ : ∃ p : Nat, o.relocs[k].pos = p := ⟨o.relocs[k].pos.toNat, by omega⟩
        rw [hp] at hA hb2
        have hpl : p + 1 < o.code.length := by omega
        have hA1 : ¬ ((o.code.length : Int) - 2 < (p : Int)) := by omega
        simp [h1, h3, hb2.cell, hz2, ho2.code.is, ho2.code.len, hwl, hA1, cb54]
        refine ⟨.bool (isName o.relocs[k].name), fun w3 hw3 => (ref_isName _ w3 hwf.2).mono ?_, ?_⟩
        · rintro _ _ ⟨rfl, rfl⟩; exact ⟨rfl, hw3⟩
        · have hb : relBadAt o k = (!isName o.relocs[k].name || (decide (0 < k) && decide ((p : Int) < (o.relocs.getD (k - 1) ⟨0, .empty⟩).pos + 2)) || decide (o.code[p].toNat ≠ 0) || decide (o.code[p + 1].toNat ≠ 0)) := by
            have hpl0 : p < o.code.length := by omega
            simp only [relBadAt, List.getElem?_eq_getElem hlt, relBad, hp]
            simp [hA1, hpl, hpl0]
          have hpl0 : p < o.code.length := by omega
          have q2 := i64w (n := (p : Int) + 1) (by omega)
          by_cases hk0 : k = 0
          · subst hk0
            simp [h1, h3, hb2.cell, hz2, ho2.code.is, ho2.code.len, hwl, hA1, ho2.rels.is, ho2.rels.len, q2, hpl, hpl0, ho2.code.cell p hpl0, ho2.code.cell (p + 1) hpl, encB]
            intro w4 hw4
            simp [ir45_k0, ir45_k1, h3, h1]
            by_cases hbad : relBadAt o 0 = true
            · rw [if_pos (by rw [hb] at hbad; simpa using hbad)]
              exact ⟨by rw [checkObj_bad hlt hbad], (hE.trans' hE1).trans' (hE2.trans' hw4)⟩
            · rw [if_neg (by rw [hb] at hbad; simpa using hbad)]
              exact ⟨by decide, hE1.trans' (hE2.trans' hw4), by simpa using hbad⟩
          · have hk1 : k - 1 < o.relocs.length := by omega
            have e1 : ((k : Int) - 1) = ((k - 1 : Nat) : Int) := by omega
            have hwf1 := ho.rels.wf _ (List.getElem_mem hk1)
            have q3 := i64w (n := (k : Int) - 1) (by omega)
            have hprev := hall (k - 1) (by omega)
            have hpp : o.relocs[k - 1].pos ≤ (o.code.length : Int) - 2 := by
              simp only [relBadAt, List.getElem?_eq_getElem hk1, relBad] at hprev
              simp at hprev
              omega
            have q4 := i64w (n := o.relocs[k - 1].pos + 2) (by omega)
            simp [h1, h3, hb2.cell, hz2, ho2.code.is, ho2.code.len, hwl, hA1, ho2.rels.is, ho2.rels.len, q2, q3, hpl, hpl0, ho2.code.cell p hpl0, ho2.code.cell (p + 1) hpl, encB, hk0]
            simp [e1, hk1, ho2.rels.pos (k - 1) hk1, Nat.pos_of_ne_zero hk0, q4, (show (1 : Int) ≤ k by omega)]
            intro w4 hw4
            simp [ir45_k0, ir45_k1, h3, h1, i64w (n := (k : Int) + 1) (by omega)]
            have hb' : relBadAt o k = (!isName o.relocs[k].name || decide ((p : Int) < o.relocs[k - 1].pos + 2) || decide (o.code[p].toNat ≠ 0) || decide (o.code[p + 1].toNat ≠ 0)) := by
              rw [hb]; simp [Nat.pos_of_ne_zero hk0, hk1]
            by_cases hbad : relBadAt o k = true
            · rw [if_pos (by rw [hb'] at hbad; simpa using hbad)]
              exact ⟨by rw [checkObj_bad hlt hbad], (hE.trans' hE1).trans' (hE2.trans' hw4)⟩
            · rw [if_neg (by rw [hb'] at hbad; simpa using hbad)]
              refine ⟨hE1.trans' (hE2.trans' hw4), fun j hj => ?_⟩
              by_cases hjk : j = k
              · subst hjk; simpa using hbad
              · exact hall j (by omega)
    · simp [ir45_l3, ir45_k4, h3, h1, hz, ho'.rels.is, ho'.rels.len, hlt]
      refine ⟨?_, hE.trans' hE1⟩
      have : (List.range o.relocs.length).all (fun k => !relBadAt o k) = true := by
        rw [List.all_eq_true]; intro j hj; simp at hj; simp [hall j (by omega)]
      simp [checkObj, hS, this, tupled]
end Go.L16
/- Layer 16: contracts of the reference: libraries, needs. -/
namespace Go.L16
open Go Go.Eng Go.RowKit Go.Proofs
set_option maxRecDepth 10000

def emptyO : Obj := ⟨.empty, [], []⟩
/-- What is wrong with the object at i: 161, 6, or nothing. -/
def badO (l : List Obj) (i : Nat) : Int :=
  if checkObj (l.getD i emptyO) ≠ 0 then 161 else if (List.range i).any (fun k => decide ((l.getD k emptyO).name = (l.getD i emptyO).name)) then 6 else 0
def checkAll (l : List Obj) : Int × Int :=
  if 60 < l.length then (0, 2) else match (List.range l.length).find? (fun i => decide (badO l i ≠ 0)) with
    | some i => (i, badO l i)
    | none => (0, 0)

theorem checkAll_at {l : List Obj} {k : Nat} (h60 : ¬ 60 < l.length) (hk : k < l.length) (h : ∀ j, j < k → badO l j = 0) (hb : badO l k ≠ 0) : checkAll l = ((k : Int), badO l k) := by
  have : (List.range l.length).find? (fun i => decide (badO l i ≠ 0)) = some k := by
    rw [List.find?_range_eq_some]
    exact ⟨by simpa using hb, by simpa using hk, fun j hj => by simpa using h j hj⟩
  unfold checkAll
  rw [if_neg h60, this]
theorem checkAll_ok {l : List Obj} (h60 : ¬ 60 < l.length) (h : ∀ j, j < l.length → badO l j = 0) : checkAll l = (0, 0) := by
  have : (List.range l.length).find? (fun i => decide (badO l i ≠ 0)) = none := by
    rw [List.find?_range_eq_none]
    intro j hj; simpa using h j hj
  unfold checkAll
  rw [if_neg h60, this]

theorem cb45 : callB Tryd.prog 45 = true := by kernel_rfl

theorem ref_CheckAll {w : World} {v : Value} {l : List Obj} (hl : SlO w v l) :
    Calls Tryd.prog 46 #[v] w fun e w' => e = .returned (.tuple #[.int .i64 (checkAll l).1, .int .i64 (checkAll l).2]) ∧ Ext w w' := by
  have hbd := hl.bd
  refine ir46_calls fun ρ h0 => ?_
  simp [ir46, h0, hl.is, hl.len]
  by_cases h60 : 60 < (l.length : Int)
  · rw [if_pos h60]
    have : checkAll l = (0, 2) := by unfold checkAll; rw [if_pos (by omega)]
    simp [this]; exact ext_refl w
  · rw [if_neg h60]
    simp [ir46_k9]
    refine loopC 4 l.length (fun k ρ' w' => Ext w w' ∧ ρ' 0 = v ∧ ∀ j, j < k → badO l j = 0) (by simp) ⟨ext_refl w, by simp [h0], by simp⟩ ?_
    rintro k ρ' w' hk h4 ⟨hE, h0, hall⟩
    have hl' := hl.ext hE
    by_cases hlt : k < l.length
    · obtain ⟨n, c, r, hn, hc, hr, ho⟩ := hl'.obj k hlt
      have hlk : l.getD k emptyO = l[k] := by simp [hlt]
      simp [ir46_l7, ir46_k6, h4, h0, hl.is, hl.len, hlt, hn, hc, hr, cb45]
      refine (ref_Check ho).mono ?_
      rintro _ w1 ⟨rfl, hw1⟩
      simp
      by_cases hck : checkObj l[k] = 0
      · simp [hck, ir46_k4]
        refine loopC 5 k (fun j ρ' w' => Ext w1 w' ∧ ρ' 0 = v ∧ ρ' 4 = .int .i64 k ∧ ∀ i, i < j → (l.getD i emptyO).name ≠ l[k].name) (by simp) ⟨ext_refl w1, by simp [h0], by simp [h4], by simp⟩ ?_
        rintro j ρ2 w2 hj h5 ⟨hE2, h0, h4, hall2⟩
        have hl2 := hl'.ext (hw1.trans' hE2)
        by_cases hjk : j < k
        · have hjl : j < l.length := by omega
          obtain ⟨n1, c1, r1, hn1, hc1, hr1, ho1⟩ := hl2.obj j hjl
          obtain ⟨n2, c2, r2, hn2, hc2, hr2, ho2⟩ := hl2.obj k hlt
          rw [ho1.name] at hn1
          rw [ho2.name] at hn2
          have hlj : l.getD j emptyO = l[j] := by simp [hjl]
          simp [ir46_l3, ir46_k2, h5, h4, h0, hl.is, hl.len, hjk, hjl, hlt, hn1, hn2]
          intro w3 hw3
          simp [ir46_k0, ir46_k1, h5, h4, h0, i64w (n := (j : Int) + 1) (by omega)]
          by_cases heq : l[j].name = l[k].name
          · rw [if_pos heq]
            have hb : badO l k = 6 := by
              unfold badO
              rw [hlk, if_neg (by simp [hck]), if_pos]
              rw [List.any_eq_true]
              exact ⟨j, by simpa using hjk, by simpa [hjl] using heq⟩
            rw [checkAll_at (by omega) hlt hall (by rw [hb]; decide), hb]
            exact ⟨by simp, (hE.trans' hw1).trans' (hE2.trans' hw3)⟩
          · rw [if_neg heq]
            refine ⟨hE2.trans' hw3, fun i hi => ?_⟩
            by_cases hij : i = j
            · subst hij; simpa [hjl] using heq
            · have := hall2 i (by omega)
              simpa using this
        · have hjk' : j = k := by omega
          subst hjk'
          simp [ir46_l3, ir46_k5, h5, h4, i64w (n := (j : Int) + 1) (by omega), h0]
          refine ⟨(hE.trans' hw1).trans' hE2, fun i hi => ?_⟩
          by_cases hij : i = j
          · subst hij
            unfold badO
            rw [hlk, if_neg (by simp [hck]), if_neg]
            rw [List.any_eq_true]
            rintro ⟨x, hx, hx2⟩
            exact hall2 x (by simpa using hx) (by simpa using hx2)
          · exact hall i (by omega)
      · simp [hck]
        have hb : badO l k = 161 := by unfold badO; rw [hlk, if_pos hck]
        rw [checkAll_at (by omega) hlt hall (by rw [hb]; decide), hb]
        simp [h4]
        exact hE.trans' hw1
    · simp [ir46_l7, ir46_k8, h4, h0, hl.is, hl.len, hlt]
      rw [checkAll_ok (by omega) fun j hj => hall j (by omega)]
      exact ⟨⟨rfl, rfl⟩, hE⟩
end Go.L16
/- Layer 16: contracts of the reference: needs. -/
namespace Go.L16
open Go Go.Eng Go.RowKit Go.Proofs
set_option maxRecDepth 10000

def putS : List ByteArray → ByteArray → List ByteArray
  | [], s => [s]
  | x :: l, s => if ltS x s then x :: putS l s else if x = s then x :: l else s :: x :: l

theorem putS_at (s : ByteArray) : ∀ (l : List ByteArray) (k : Nat), k ≤ l.length → (∀ j (hj : j < l.length), j < k → ltS l[j] s = true) → (∀ hk : k < l.length, ltS l[k] s = false) →
    putS l s = if l[k]? = some s then l else l.take k ++ s :: l.drop k
  | [], k, hk, _, _ => by
    have : k = 0 := by simpa using hk
    subst this; simp [putS]
  | x :: l, 0, _, _, h => by
    have := h (by simp)
    simp only [List.getElem_cons_zero] at this
    simp [putS, this]
  | x :: l, k + 1, hk, hall, h => by
    have h0 := hall 0 (by simp) (by omega)
    simp only [List.getElem_cons_zero] at h0
    have ih := putS_at s l k (by simpa using hk) (fun j hj hjk => hall (j + 1) (by simpa using hj) (by omega)) (fun hk' => h (by simpa using hk'))
    simp only [putS, h0, if_true, ih, List.getElem?_cons_succ, List.take_succ_cons, List.drop_succ_cons, List.cons_append]
    split <;> rfl

theorem si22 : sliceInfo Tryd.prog 22 = some (9, 1) := by kernel_rfl
theorem ri22 : rowInfo Tryd.prog 22 = some (9, 1, 16) := by kernel_rfl

theorem mem_putS {s x : ByteArray} : ∀ {l : List ByteArray}, x ∈ putS l s ↔ x = s ∨ x ∈ l
  | [] => by simp [putS]
  | y :: l => by
    unfold putS
    split
    · simp [mem_putS (l := l)]; constructor <;> rintro (h | h | h) <;> simp [h]
    · split
      · rename_i h; subst h; simp
      · simp

theorem putS_len (s : ByteArray) : ∀ (l : List ByteArray), (putS l s).length ≤ l.length + 1
  | [] => by simp [putS]
  | y :: l => by
    have := putS_len s l
    unfold putS
    split
    · simp; omega
    · split <;> simp

theorem ref_put {w : World} {v : Value} {l : List ByteArray} {s : ByteArray} (hl : SlS w v l) (hs : s.size ≤ maxLen) (hlen : l.length < 1099511627776) :
    Calls Tryd.prog 73 #[v, .string s] w fun e w' => ∃ u, e = .returned u ∧ SlS w' u (putS l s) ∧ (u = v ∨ ∀ g, u.ownBlock = some g → w.heap.size ≤ g ∧ g < w'.heap.size) ∧ Ext w w' := by
  have hsz : ∀ x ∈ putS l s, x.size ≤ maxLen := fun x hx => by
    rcases mem_putS.1 hx with rfl | h
    · exact hs
    · exact hl.2 x h
  refine ir73_calls fun ρ h0 h1 => ?_
  simp [ir73]
  refine loopC 5 l.length (fun k ρ' w' => w' = w ∧ ρ' 0 = v ∧ ρ' 1 = .string s ∧ ∀ j (hj : j < l.length), j < k → ltS l[j] s = true) (by simp) ⟨rfl, by simp [h0], by simp [h1], by simp⟩ ?_
  rintro k ρ' w' hk h5 ⟨rfl, h0, h1, hall⟩
  have key : (∀ hk : k < l.length, ltS l[k] s = false) → l[k]? ≠ some s → ∀ ρ2 : Env, ρ2 0 = v → ρ2 1 = .string s → ρ2 5 = .int .i64 k →
      ir73_k2.wp ⟨Tryd.prog, 47, ir73_V, []⟩ (retK [.tmp 4] fun e w'_1 => ∃ u, e = .returned u ∧ SlS w'_1 u (putS l s) ∧ (u = v ∨ ∀ g, u.ownBlock = some g → w'.heap.size ≤ g ∧ g < w'_1.heap.size) ∧ Ext w' w'_1) (ksOf [.tmp 4] fun e w'_1 => ∃ u, e = .returned u ∧ SlS w'_1 u (putS l s) ∧ (u = v ∨ ∀ g, u.ownBlock = some g → w'.heap.size ≤ g ∧ g < w'_1.heap.size) ∧ Ext w' w'_1) ρ2 w' := by
    intro hk2 hne ρ2 h0 h1 h5
    have hput := putS_at s l k hk hall hk2
    rw [if_neg hne] at hput
    have hcap := isSl_len_cap hl.1.is
    have hlen1 := hl.1.len
    simp [ir73_k2]
    refine eff_lit si22 (by decide) (by decide) (by simp) fun B W hB hE hb _ => ?_
    simp at hb
    have hl1 := hl.1.ext hE
    simp [h0, h1, h5, hl1.is, hl1.len, (show k ≤ slCap v by omega)]
    refine eff_append ri22 hE (by rfl) (by rfl) (Own.lit (n := 0) (sz := 1) hb (by simp) hB (by decide)) (hl1.sub (l := 0) (r := k) (m := slCap v) (by omega) (by omega) (by omega) (by omega)).cells (one_map (fun _ => rfl) _) (by simp; omega) (by simp; omega) fun u1 W1 hE1 ho1 _ _ => ?_
    simp [h1]
    refine eff_lit si22 (by decide) (by decide) (by simp [h1, Value.cells]) fun B2 W2 hB2 hE2 hb2 _ => ?_
    simp [h1, Value.cells] at hb2
    simp
    refine eff_append ri22 (hE1.trans' hE2) (by rfl) (by rfl) (ho1.ext hE2) (hb2.cells (n := 1) (by simp)) (by simp [Value.oneCell']) (by simp; omega) (by simp; omega) fun u3 W3 hE3 ho3 _ _ => ?_
    have hl3 := hl.1.ext hE3
    simp [h0, h5, hl3.is, hl3.len, hk]
    refine eff_append ri22 hE3 (by rfl) (by rfl) ho3 (hl3.sub (l := k) (r := l.length) (m := slCap v) (by omega) (by omega) (by omega) (by omega)).cells (one_map (fun _ => rfl) _) (by simp; omega) (by simp; omega) fun u4 W4 hE4 ho4 _ _ => ?_
    have e4 : ([] ++ List.map Value.string (List.drop 0 (List.take k l)) ++ [Value.string s] ++ List.map Value.string (List.drop k (List.take l.length l))) = (putS l s).map Value.string := by
      rw [hput]; simp
    rw [e4] at ho4
    have hpl := putS_len s l
    simp
    exact ⟨⟨ho4.sl (by omega), hsz⟩, .inr ho4.blk, hE4⟩
  by_cases hlt : k < l.length
  · simp [ir73_l1, ir73_k0, h5, h0, h1, hl.1.is, hl.1.len, hl.1.cell k hlt, hlt, i64w (n := (k : Int) + 1) (by omega)]
    by_cases hlts : Op.bytesLess l[k].data.toList s.data.toList = true
    · rw [if_pos hlts]
      intro j hj hjk
      by_cases h : j = k
      · subst h; exact hlts
      · exact hall j hj (by omega)
    · rw [if_neg hlts]
      have hk2 : ∀ hk : k < l.length, ltS l[k] s = false := fun _ => by simpa [ltS] using hlts
      simp [ir73_k3, h5, h0, h1, hl.1.is, hl.1.len, hl.1.cell k hlt, hlt]
      by_cases heq : l[k] = s
      · rw [if_pos heq]
        have hput := putS_at s l k hk hall hk2
        rw [List.getElem?_eq_getElem hlt, heq, if_pos rfl] at hput
        exact ⟨by rw [hput]; exact hl, ext_refl _⟩
      · rw [if_neg heq]
        exact key hk2 (by rw [List.getElem?_eq_getElem hlt]; simpa using heq) _ (by simp [h0]) (by simp [h1]) (by simp [h5])
  · simp [ir73_l1, ir73_k3, h5, h0, h1, hl.1.is, hl.1.len, hlt]
    exact key (fun h => absurd h hlt) (by rw [List.getElem?_eq_none (by omega)]; simp) _ (by simp [h0]) (by simp [h1]) (by simp [h5])
end Go.L16
/- Layer 16: contracts of the reference: needs, what is asked first. -/
namespace Go.L16
open Go Go.Eng Go.RowKit Go.Proofs
set_option maxRecDepth 10000

def needsOf (o : Obj) : List ByteArray := o.relocs.foldl (fun acc r => putS acc r.name) []
def needsR (o : Obj) : List ByteArray := if checkObj o = 0 then needsOf o else []

theorem cb73 : callB Tryd.prog 73 = true := by kernel_rfl
theorem cb46 : callB Tryd.prog 46 = true := by kernel_rfl

theorem checkObj_len {o : Obj} (h : checkObj o = 0) : o.relocs.length ≤ 2000 ∧ o.code.length ≤ 20000 := by
  unfold checkObj at h
  split at h
  · rename_i hc
    simp only [Bool.and_eq_true, objShape, decide_eq_true_eq] at hc
    exact ⟨hc.1.2, hc.1.1.2⟩
  · simp at h

theorem foldl_put_len (rs : List Rel) : ∀ (acc : List ByteArray), (rs.foldl (fun acc r => putS acc r.name) acc).length ≤ acc.length + rs.length := by
  induction rs with
  | nil => intro acc; simp
  | cons r rs ih =>
    intro acc
    have h1 := ih (putS acc r.name)
    have h2 := putS_len r.name acc
    simp only [List.foldl_cons, List.length_cons]
    omega

theorem ref_Needs {w : World} {n c r : Value} {o : Obj} (ho : ObjC w n c r o) :
    Calls Tryd.prog 43 #[.agg #[n, c, r]] w fun e w' => ∃ u, e = .returned (.tuple #[u, .int .i64 (checkObj o)]) ∧ SlS w' u (needsR o) ∧ Ext w w' := by
  refine ir43_calls fun ρ h0 => ?_
  simp [ir43, h0]
  refine eff_box fun B W hB hE hb _ => ?_
  simp [h0, Value.cells] at hb ⊢
  simp [hb.cell, cb45]
  refine (ref_Check (ho.ext hE)).mono ?_
  rintro _ w1 ⟨rfl, hw1⟩
  simp
  by_cases hck : checkObj o = 0
  · have hlen := checkObj_len hck
    simp [hck, ir43_k4]
    have hb1 := hb.ext hw1
    refine loopC 5 o.relocs.length (fun k ρ' w' => Ext w1 w' ∧ ρ' 1 = .pointer (some ⟨B, 0, none⟩) ∧ SlS w' (ρ' 4) ((o.relocs.take k).foldl (fun acc r => putS acc r.name) [])) (by simp) ⟨ext_refl _, by simp, by simp; exact ⟨Sl.nil _ _, by simp⟩⟩ ?_
    rintro k ρ' w' hk h5 ⟨hE1, h1, hacc⟩
    have hz := (hb1.ext hE1).cell
    have ho' := ho.ext ((hE.trans' hw1).trans' hE1)
    by_cases hlt : k < o.relocs.length
    · have hwf := ho.rels.wf _ (List.getElem_mem hlt)
      simp [ir43_l2, ir43_k1, h5, h1, hz, ho'.rels.is, ho'.rels.len, hlt, ho'.rels.name k hlt, cb73]
      have hfl := foldl_put_len (o.relocs.take k) []
      simp at hfl
      refine (ref_put hacc hwf.2 (by omega)).mono ?_
      rintro _ w2 ⟨u, rfl, hu, _, hw2⟩
      simp [ir43_k0, h5, h1, i64w (n := (k : Int) + 1) (by omega)]
      refine ⟨hE1.trans' hw2, ?_⟩
      rw [List.take_succ_eq_append_getElem hlt, List.foldl_append]
      exact hu
    · have hk' : k = o.relocs.length := by omega
      subst hk'
      simp [ir43_l2, ir43_k3, h5, h1, hz, ho'.rels.is, ho'.rels.len]
      rw [List.take_length] at hacc
      exact ⟨by rw [show needsR o = needsOf o by simp [needsR, hck]]; exact hacc, (hE.trans' hw1).trans' hE1⟩
  · have h161 : checkObj o = 161 := by
      unfold checkObj at hck ⊢
      split at hck
      · exact absurd rfl hck
      · rename_i h; rw [if_neg h]
    simp [h161, needsR]
    exact ⟨⟨Sl.nil _ _, by simp⟩, hE.trans' hw1⟩

def askedE (l : List Obj) (roots : List ByteArray) : Int := if (checkAll l).2 = 0 ∧ 60 < roots.length then 2 else (checkAll l).2

theorem ref_asked {w : World} {v u : Value} {l : List Obj} {roots : List ByteArray} (hl : SlO w v l) (hr : SlS w u roots) :
    Calls Tryd.prog 69 #[v, u] w fun e w' => e = .returned (.int .i64 (askedE l roots)) ∧ Ext w w' := by
  refine ir69_calls fun ρ h0 h1 => ?_
  simp [ir69, h0, cb46]
  refine (ref_CheckAll hl).mono ?_
  rintro _ w1 ⟨rfl, hw1⟩
  simp [h1, hr.1.is, hr.1.len]
  unfold askedE
  by_cases hc : (checkAll l).2 = 0
  · by_cases h60 : 60 < roots.length
    · simp [hc, h60, (show (60 : Int) < (roots.length : Int) by omega), ir69_k0]; exact hw1
    · simp [hc, h60, (show ¬ (60 : Int) < (roots.length : Int) by omega), ir69_k0]; exact hw1
  · simp [hc, ir69_k0]; exact hw1
end Go.L16
/- Layer 16, plainly: what is reached. -/
namespace Go.L16
open Go.Eng

theorem idxO_cases (l : List Obj) (s : ByteArray) : idxO l s = -1 ∨ ∃ k, ∃ h : k < l.length, idxO l s = k ∧ l[k].name = s := by
  unfold idxO
  split
  · rename_i h
    exact .inr ⟨_, h, rfl, by have := List.findIdx_getElem (w := h); simpa using this⟩
  · exact .inl rfl

def needsAt (l : List Obj) (s : ByteArray) : List ByteArray := if 0 ≤ idxO l s then needsR (l.getD (idxO l s).toNat emptyO) else []

inductive Reach (l : List Obj) (roots : List ByteArray) : ByteArray → Prop where
  | root {s : ByteArray} : s ∈ roots → Reach l roots s
  | step {s n : ByteArray} : Reach l roots s → n ∈ needsAt l s → Reach l roots n

/-- Strictly ascending. -/
def Asc (l : List ByteArray) : Prop := l.Pairwise (fun a b => ltS a b = true)
def IsReached (l : List Obj) (roots R : List ByteArray) : Prop := Asc R ∧ ∀ s, s ∈ R ↔ Reach l roots s

/-! ### The order of strings -/
theorem bytesLess_irrefl : ∀ l : List UInt8, Op.bytesLess l l = false
  | [] => rfl
  | a :: l => by simp [Op.bytesLess, bytesLess_irrefl l]
theorem bytesLess_trans : ∀ {a b c : List UInt8}, Op.bytesLess a b = true → Op.bytesLess b c = true → Op.bytesLess a c = true
  | _, [], _, h, _ => by cases ‹List UInt8› <;> simp [Op.bytesLess] at h
  | _, _ :: _, [], _, h => by simp [Op.bytesLess] at h
  | [], _ :: _, _ :: _, _, _ => rfl
  | x :: a, y :: b, z :: c, h1, h2 => by
    simp only [Op.bytesLess, Bool.or_eq_true, Bool.and_eq_true, decide_eq_true_eq, beq_iff_eq] at *
    rcases h1 with h1 | ⟨rfl, h1⟩
    · rcases h2 with h2 | ⟨rfl, h2⟩
      · exact .inl (UInt8.lt_trans h1 h2)
      · exact .inl h1
    · rcases h2 with h2 | ⟨rfl, h2⟩
      · exact .inl h2
      · exact .inr ⟨rfl, bytesLess_trans h1 h2⟩
theorem bytesLess_total : ∀ (a b : List UInt8), Op.bytesLess a b = true ∨ a = b ∨ Op.bytesLess b a = true
  | [], [] => .inr (.inl rfl)
  | [], _ :: _ => .inl rfl
  | _ :: _, [] => .inr (.inr rfl)
  | x :: a, y :: b => by
    simp only [Op.bytesLess, Bool.or_eq_true, Bool.and_eq_true, decide_eq_true_eq, beq_iff_eq]
    have tri : x < y ∨ x = y ∨ y < x := by
      rcases Nat.lt_trichotomy x.toNat y.toNat with h | h | h
      · exact .inl (UInt8.lt_iff_toNat_lt.2 h)
      · exact .inr (.inl (UInt8.toNat_inj.1 h))
      · exact .inr (.inr (UInt8.lt_iff_toNat_lt.2 h))
    rcases tri with h | rfl | h
    · exact .inl (.inl h)
    · rcases bytesLess_total a b with h | rfl | h
      · exact .inl (.inr ⟨rfl, h⟩)
      · exact .inr (.inl rfl)
      · exact .inr (.inr (.inr ⟨rfl, h⟩))
    · exact .inr (.inr (.inl h))
theorem ltS_irrefl (s : ByteArray) : ltS s s = false := bytesLess_irrefl _
theorem ltS_trans {a b c : ByteArray} (h1 : ltS a b = true) (h2 : ltS b c = true) : ltS a c = true := bytesLess_trans h1 h2
theorem toList_inj' {a b : ByteArray} (h : a.data.toList = b.data.toList) : a = b := by
  cases a; cases b; congr; exact Array.toList_inj.1 h
theorem ltS_total (a b : ByteArray) : ltS a b = true ∨ a = b ∨ ltS b a = true := by
  rcases bytesLess_total a.data.toList b.data.toList with h | h | h
  · exact .inl h
  · exact .inr (.inl (toList_inj' h))
  · exact .inr (.inr h)

theorem Asc.nodup {l : List ByteArray} (h : Asc l) : l.Nodup := List.Pairwise.imp (fun {a b} hab => by rintro rfl; rw [ltS_irrefl] at hab; cases hab) h

theorem Asc.ext : ∀ {l m : List ByteArray}, Asc l → Asc m → (∀ s, s ∈ l ↔ s ∈ m) → l = m
  | [], [], _, _, _ => rfl
  | [], b :: m, _, _, h => by have := (h b).2 (by simp); simp at this
  | a :: l, [], _, _, h => by have := (h a).1 (by simp); simp at this
  | a :: l, b :: m, hl, hm, h => by
    have hl' := List.pairwise_cons.1 hl
    have hm' := List.pairwise_cons.1 hm
    have hab : a = b := by
      have h1 := (h a).1 (by simp)
      have h2 := (h b).2 (by simp)
      rcases List.mem_cons.1 h1 with e | h1
      · exact e
      · rcases List.mem_cons.1 h2 with e | h2
        · exact e.symm
        · have := ltS_trans (hm'.1 a h1) (hl'.1 b h2)
          rw [ltS_irrefl] at this; cases this
    subst hab
    rw [Asc.ext hl'.2 hm'.2 fun s => ?_]
    constructor
    · intro hs
      rcases List.mem_cons.1 ((h s).1 (List.mem_cons_of_mem _ hs)) with rfl | hs'
      · have := hl'.1 s hs; rw [ltS_irrefl] at this; cases this
      · exact hs'
    · intro hs
      rcases List.mem_cons.1 ((h s).2 (List.mem_cons_of_mem _ hs)) with rfl | hs'
      · have := hm'.1 s hs; rw [ltS_irrefl] at this; cases this
      · exact hs'

theorem IsReached.uniq {l : List Obj} {roots R R' : List ByteArray} (h : IsReached l roots R) (h' : IsReached l roots R') : R = R' := h.1.ext h'.1 fun s => (h.2 s).trans (h'.2 s).symm

theorem asc_putS {s : ByteArray} : ∀ {l : List ByteArray}, Asc l → Asc (putS l s)
  | [], _ => by simp [putS, Asc]
  | y :: l, h => by
    have h' := List.pairwise_cons.1 h
    unfold putS
    split
    · rename_i hlt
      refine List.pairwise_cons.2 ⟨fun x hx => ?_, asc_putS h'.2⟩
      rcases mem_putS.1 hx with rfl | hx
      · exact hlt
      · exact h'.1 x hx
    · rename_i hnlt
      split
      · exact h
      · rename_i hne
        have hs : ltS s y = true := by
          rcases ltS_total s y with h | h | h
          · exact h
          · exact absurd h.symm hne
          · exact absurd h hnlt
        refine List.pairwise_cons.2 ⟨fun x hx => ?_, h⟩
        rcases List.mem_cons.1 hx with rfl | hx
        · exact hs
        · exact ltS_trans hs (h'.1 x hx)

theorem nodup_le : ∀ (l U : List ByteArray), l.Nodup → (∀ x, x ∈ l → x ∈ U) → l.length ≤ U.length
  | [], _, _, _ => by simp
  | a :: l, U, hn, hs => by
    have hn' := List.nodup_cons.1 hn
    have ih := nodup_le l (U.filter fun x => decide (x ≠ a)) hn'.2 fun x hx => by
      rw [List.mem_filter]
      refine ⟨hs x (by simp [hx]), ?_⟩
      simp only [ne_eq, decide_not, Bool.not_eq_true', decide_eq_false_iff_not]
      rintro rfl; exact hn'.1 hx
    have hlt : (U.filter fun x => decide (x ≠ a)).length < U.length := by
      refine List.length_filter_lt_length_iff_exists.2 ⟨a, hs a (by simp), by simp⟩
    simp only [List.length_cons]
    omega

/-! ### A library that is checked -/
structure LibOk (l : List Obj) : Prop where
  len : l.length ≤ 60
  ok : ∀ o, o ∈ l → checkObj o = 0
  diff : ∀ (i j : Nat) (hi : i < l.length) (hj : j < l.length), l[i].name = l[j].name → i = j

theorem libOk_of {l : List Obj} (h : (checkAll l).2 = 0) : LibOk l := by
  have h60 : ¬ 60 < l.length := fun hh => by unfold checkAll at h; rw [if_pos hh] at h; cases h
  have hall : ∀ i, i < l.length → badO l i = 0 := by
    intro i hi
    unfold checkAll at h
    rw [if_neg h60] at h
    split at h
    · rename_i k hk
      rw [List.find?_range_eq_some] at hk
      simp at hk h
      exact absurd h hk.1
    · rename_i hn
      rw [List.find?_range_eq_none] at hn
      simpa using hn i hi
  have hdiff : ∀ (i j : Nat) (hi : i < l.length) (hj : j < l.length), i < j → l[i].name ≠ l[j].name := by
    intro i j hi hj hij he
    have := hall j hj
    unfold badO at this
    split at this
    · cases this
    · rw [if_pos] at this
      · cases this
      · rw [List.any_eq_true]
        exact ⟨i, by simpa using hij, by simp [hi, hj, he]⟩
  refine ⟨by omega, fun o ho => ?_, fun i j hi hj he => ?_⟩
  · obtain ⟨i, hi, rfl⟩ := List.getElem_of_mem ho
    have := hall i hi
    unfold badO at this
    split at this
    · cases this
    · rename_i hc
      simpa [hi] using hc
  · rcases Nat.lt_trichotomy i j with h | h | h
    · exact absurd he (hdiff i j hi hj h)
    · exact h
    · exact absurd he.symm (hdiff j i hj hi h)

theorem needsR_len {o : Obj} (h : checkObj o = 0) : (needsR o).length ≤ 2000 := by
  have h1 := checkObj_len h
  have h2 := foldl_put_len o.relocs []
  unfold needsR; rw [if_pos h]; unfold needsOf
  simp at h2; omega

theorem needsAt_len {l : List Obj} (h : LibOk l) (s : ByteArray) : (needsAt l s).length ≤ 2000 := by
  unfold needsAt
  rcases idxO_cases l s with h1 | ⟨k, hk, h1, _⟩
  · rw [h1]; simp
  · rw [h1, if_pos (by omega)]
    simp only [Int.toNat_natCast]
    have : l.getD k emptyO = l[k] := by simp [hk]
    rw [this]
    exact needsR_len (h.ok _ (List.getElem_mem hk))

/-- All names that there are: the roots, and what the objects need. -/
def allNames (l : List Obj) (roots : List ByteArray) : List ByteArray := roots ++ l.flatMap needsR
theorem allNames_len {l : List Obj} {roots : List ByteArray} (h : LibOk l) (hr : roots.length ≤ 60) : (allNames l roots).length ≤ 120060 := by
  have key : ∀ m : List Obj, (∀ o, o ∈ m → checkObj o = 0) → (m.flatMap needsR).length ≤ 2000 * m.length := by
    intro m
    induction m with
    | nil => intro _; simp
    | cons o m ih =>
      intro hm
      have h1 := needsR_len (hm o (by simp))
      have h2 := ih fun x hx => hm x (by simp [hx])
      simp only [List.flatMap_cons, List.length_append, List.length_cons]
      omega
  have h1 := key l h.ok
  have h2 := h.len
  simp only [allNames, List.length_append]
  omega
theorem needsAt_all {l : List Obj} {roots : List ByteArray} {s n : ByteArray} (hn : n ∈ needsAt l s) : n ∈ allNames l roots := by
  unfold needsAt at hn
  rcases idxO_cases l s with h1 | ⟨k, hk, h1, _⟩
  · rw [h1] at hn; simp at hn
  · rw [h1, if_pos (by omega)] at hn
    simp only [Int.toNat_natCast] at hn
    have : l.getD k emptyO = l[k] := by simp [hk]
    rw [this] at hn
    simp only [allNames, List.mem_append, List.mem_flatMap]
    exact .inr ⟨l[k], List.getElem_mem hk, hn⟩
theorem reach_all {l : List Obj} {roots : List ByteArray} {s : ByteArray} (h : Reach l roots s) : s ∈ allNames l roots := by
  cases h with
  | root h => simp [allNames, h]
  | step _ h => exact needsAt_all h
end Go.L16
/- Layer 16: contracts of the reference: what is reached. -/
namespace Go.L16
open Go Go.Eng Go.RowKit Go.Proofs
set_option maxRecDepth 10000

theorem cb51 : callB Tryd.prog 51 = true := by kernel_rfl
theorem cb66 : callB Tryd.prog 66 = true := by kernel_rfl
theorem cb43 : callB Tryd.prog 43 = true := by kernel_rfl

theorem idx_nonneg {l : List ByteArray} {s : ByteArray} : 0 ≤ idx l s ↔ s ∈ l := by
  unfold idx
  split
  · rename_i h
    have := List.findIdx_getElem (w := h)
    simp only [decide_eq_true_eq] at this
    constructor
    · intro _; rw [← this]; exact List.getElem_mem h
    · intro _; omega
  · rename_i h
    constructor
    · intro h; omega
    · intro hs
      exact absurd (List.findIdx_lt_length_of_exists ⟨s, hs, by simp⟩) h

/-- What holds of the names found and of those still to be looked at. -/
structure RI (l : List Obj) (roots R T : List ByteArray) : Prop where
  asc : Asc R
  r1 : ∀ s, s ∈ R → Reach l roots s
  t1 : ∀ s, s ∈ T → Reach l roots s
  root : ∀ s, s ∈ roots → s ∈ R ∨ s ∈ T
  closed : ∀ s, s ∈ R → ∀ n, n ∈ needsAt l s → n ∈ R ∨ n ∈ T
  len : T.length ≤ roots.length + R.length * 2000

theorem RI.start (l : List Obj) (roots : List ByteArray) : RI l roots [] roots :=
  ⟨List.Pairwise.nil, fun _ h => by simp at h, fun _ h => .root h, fun _ h => .inr h, fun _ h => by simp at h, by simp⟩
theorem RI.old {l : List Obj} {roots R T : List ByteArray} {s : ByteArray} (h : RI l roots R (s :: T)) (hs : s ∈ R) : RI l roots R T :=
  ⟨h.asc, h.r1, fun x hx => h.t1 x (by simp [hx]), fun x hx => by
    rcases h.root x hx with h1 | h1
    · exact .inl h1
    · rcases List.mem_cons.1 h1 with rfl | h1
      · exact .inl hs
      · exact .inr h1, fun x hx n hn => by
    rcases h.closed x hx n hn with h1 | h1
    · exact .inl h1
    · rcases List.mem_cons.1 h1 with rfl | h1
      · exact .inl hs
      · exact .inr h1, by have := h.len; simp at this; omega⟩
theorem putS_len_new (s : ByteArray) : ∀ (l : List ByteArray), s ∉ l → (putS l s).length = l.length + 1
  | [], _ => by simp [putS]
  | y :: l, h => by
    have h1 : ¬ y = s := fun e => h (by simp [e])
    have ih := putS_len_new s l fun e => h (by simp [e])
    simp only [putS]
    split
    · simp [ih]
    · simp [h1]
theorem RI.new {l : List Obj} {roots R T : List ByteArray} {s : ByteArray} (hl : LibOk l) (h : RI l roots R (s :: T)) (hs : s ∉ R) : RI l roots (putS R s) (T ++ needsAt l s) := by
  have hrs := h.t1 s (by simp)
  refine ⟨asc_putS h.asc, fun x hx => ?_, fun x hx => ?_, fun x hx => ?_, fun x hx n hn => ?_, ?_⟩
  · rcases mem_putS.1 hx with rfl | hx
    · exact hrs
    · exact h.r1 x hx
  · rcases List.mem_append.1 hx with hx | hx
    · exact h.t1 x (by simp [hx])
    · exact .step hrs hx
  · rcases h.root x hx with h1 | h1
    · exact .inl (mem_putS.2 (.inr h1))
    · rcases List.mem_cons.1 h1 with rfl | h1
      · exact .inl (mem_putS.2 (.inl rfl))
      · exact .inr (List.mem_append_left _ h1)
  · rcases mem_putS.1 hx with rfl | hx
    · exact .inr (List.mem_append_right _ hn)
    · rcases h.closed x hx n hn with h1 | h1
      · exact .inl (mem_putS.2 (.inr h1))
      · rcases List.mem_cons.1 h1 with rfl | h1
        · exact .inl (mem_putS.2 (.inl rfl))
        · exact .inr (List.mem_append_left _ h1)
  · have h1 := h.len
    have h2 := needsAt_len hl s
    rw [putS_len_new s R hs]
    simp only [List.length_cons, List.length_append] at *
    omega
theorem RI.done {l : List Obj} {roots R : List ByteArray} (h : RI l roots R []) : IsReached l roots R := by
  refine ⟨h.asc, fun s => ⟨h.r1 s, fun hr => ?_⟩⟩
  induction hr with
  | root hs => simpa using h.root _ hs
  | step _ hn ih => simpa using h.closed _ ih _ hn

theorem RI.lenR {l : List Obj} {roots R T : List ByteArray} (hl : LibOk l) (hr : roots.length ≤ 60) (h : RI l roots R T) : R.length ≤ 120060 :=
  Nat.le_trans (nodup_le R _ h.asc.nodup fun x hx => reach_all (h.r1 x hx)) (allNames_len hl hr)

theorem ownBlock_slSub (v : Value) (sz l r m : Nat) : (slSub v sz l r m).ownBlock = v.ownBlock := by
  cases v <;> try rfl
  rename_i a n c
  simp only [slSub]
  split
  · cases a <;> rfl
  · cases a with
    | none => rfl
    | some a => simp [Value.ownBlock, Addr.add]; split <;> rfl

structure RL (l : List Obj) (roots : List ByteArray) (v : Value) (w : World) (ρ' : Env) (w' : World) (R T : List ByteArray) : Prop where
  ext : Ext w w'
  v0 : ρ' 0 = v
  r : SlS w' (ρ' 5) R
  t : Own w.heap.size 9 1 w' (ρ' 6) (T.map Value.string)
  ts : ∀ s ∈ T, s.size ≤ maxLen
  ri : RI l roots R T
  sep : ∀ g, (ρ' 5).ownBlock = some g → w.heap.size ≤ g ∧ g < w'.heap.size ∧ some g ≠ (ρ' 6).ownBlock
def rlM (ρ' : Env) : Nat := (120060 - slLen (ρ' 5)) * 2001 + slLen (ρ' 6)

theorem ref_reached {w : World} {v u : Value} {l : List Obj} {roots : List ByteArray} (hl : SlO w v l) (hr : SlS w u roots) (hok : LibOk l) (h60 : roots.length ≤ 60) :
    Calls Tryd.prog 65 #[v, u] w fun e w' => ∃ x R, e = .returned x ∧ SlS w' x R ∧ IsReached l roots R ∧ (∀ g, x.ownBlock = some g → w.heap.size ≤ g) ∧ Ext w w' := by
  refine ir65_calls fun ρ h0 h1 => ?_
  simp [ir65, h0, h1]
  refine eff_lit si22 (by decide) (by decide) (by simp) fun B W hB hE hb _ => ?_
  simp at hb
  simp [h1]
  have hr1 := hr.1.ext hE
  refine eff_append ri22 hE (by rfl) (by rfl) (Own.lit (n := 0) (sz := 1) hb (by simp) hB (by decide)) (by simpa [h1] using hr1.cells) (one_map (fun _ => rfl) _) (by simp; omega) (by simp; omega) fun t0 W0 hE0 ho0 _ _ => ?_
  simp at ho0 ⊢
  refine loopI (fun ρ' w' => ∃ R T, RL l roots v w ρ' w' R T) (fun ρ' _ => rlM ρ') ?_ ?_
  · refine ⟨[], roots, hE0, by simp [h0], ?_, by simpa using ho0, hr.2, RI.start l roots, by simp [Value.ownBlock]⟩
    simp; exact ⟨Sl.nil _ _, by simp⟩
  · rintro ρ' w' ⟨R, T, hE, h0, hR, hT, hTs, hRI, hsep⟩
    have hlenR := hRI.lenR hok h60
    have hlenT := hRI.len
    have hTsl := hT.sl (by omega)
    have hm : rlM ρ' = (120060 - R.length) * 2001 + T.length := by rw [rlM, hR.1.len, hTsl.len]
    cases T with
    | nil =>
      simp [ir65_l2, ir65_k3, hTsl.is, hTsl.len]
      exact ⟨R, hR, hRI.done, fun g hg => (hsep g hg).1, hE⟩
    | cons s T =>
      have hc0 := hTsl.cell 0 (by simp)
      have hss := hTs s (by simp)
      have hT1 := hT.drop 1 (by simp)
      simp [hTsl.len] at hT1
      have hob := ownBlock_slSub (ρ' 6) 1 1 (T.length + 1) (slCap (ρ' 6))
      simp only [List.length_cons] at hlenT hm
      have hT1s := hT1.sl (by omega)
      generalize hp : slSub (ρ' 6) 1 1 (T.length + 1) (slCap (ρ' 6)) = p at hT1 hT1s hob
      simp [ir65_l2, ir65_k1, hTsl.is, hTsl.len, hc0, cb51, (show (1 : Int) ≤ (T.length : Int) + 1 by omega), hp]
      refine (ref_index s hR.1).mono ?_
      rintro _ _ ⟨rfl, rfl⟩
      by_cases hsR : s ∈ R
      · simp [idx_nonneg.2 hsR]
        refine ⟨⟨R, T, hE, by simp [h0], by simpa using hR, by simpa using hT1, fun x hx => hTs x (by simp [hx]), hRI.old hsR, ?_⟩, ?_⟩
        · simpa [hob] using hsep
        · rw [hm]; simp [rlM, hR.1.len, hT1s.len]
      · simp [mt idx_nonneg.1 hsR, ir65_k0, cb73]
        refine (ref_put hR hss (by omega)).mono ?_
        rintro _ w2 ⟨u2, rfl, hu2, hfr2, hE2⟩
        have hl2 := hl.ext (hE.trans' hE2)
        have hT2 := hT1.ext hE2
        have hRn := hRI.new hok hsR
        have hlenR2 := hRn.lenR hok h60
        have hlenT2 := hRn.len
        have hpl := putS_len_new s R hsR
        have hsep2 : ∀ g, u2.ownBlock = some g → w.heap.size ≤ g ∧ g < w2.heap.size ∧ some g ≠ p.ownBlock := by
          intro g hg
          have := hE.size
          have := hE2.size
          rcases hfr2 with rfl | h
          · obtain ⟨a, b, c⟩ := hsep g hg
            exact ⟨a, by omega, by rw [hob]; exact c⟩
          · obtain ⟨a, b⟩ := h g hg
            refine ⟨by omega, b, fun e => ?_⟩
            have := hT1.blk g e.symm
            omega
        simp [h0, cb66]
        refine (ref_find s hl2).mono ?_
        rintro _ _ ⟨rfl, rfl⟩
        rcases idxO_cases l s with hi | ⟨k, hk, hi, hn⟩
        · simp [hi]
          refine ⟨⟨putS R s, T, hE.trans' hE2, by simp [h0], by simpa using hu2, by simpa using hT2, fun x hx => hTs x (by simp [hx]), ?_, ?_⟩, ?_⟩
          · have : needsAt l s = [] := by simp [needsAt, hi]
            rw [this, List.append_nil] at hRn
            exact hRn
          · simpa using hsep2
          · rw [hm]; simp [rlM, hu2.1.len, hT1s.len, hpl]; omega
        · obtain ⟨n, c, r, c0, c1, c2, hob3⟩ := hl2.obj k hk
          have hne : needsAt l s = needsR l[k] := by simp [needsAt, hi, List.getElem?_eq_getElem hk]
          rw [hne] at hRn hlenT2
          simp [hi, h0, hl2.is, hl2.len, hk, c0, c1, c2, cb43]
          refine (ref_Needs hob3).mono ?_
          rintro _ w3 ⟨u3, rfl, hu3, hE3⟩
          have hT3 := hT2.ext hE3
          have hnl : (needsR l[k]).length ≤ 2000 := by rw [← hne]; exact needsAt_len hok s
          simp
          refine eff_append ri22 ((hE.trans' hE2).trans' hE3) (by rfl) (by rfl) (by simpa using hT3) (by simpa using hu3.1.cells) (one_map (fun _ => rfl) _) (by simp; omega) (by simp; omega) fun t4 W4 hE4 ho4 hg4 hfr4 => ?_
          simp at hg4 hfr4
          have hsl4 := ho4
          rw [← List.map_append] at hsl4
          simp
          refine ⟨⟨putS R s, T ++ needsR l[k], hE4, by simp [h0], ⟨?_, hu2.2⟩, by simpa using hsl4, ?_, hRn, ?_⟩, ?_⟩
          · simp
            refine (hu2.1.ext hE3).kept hg4 ?_
            cases hq : u2.ownBlock with
            | none => exact .inl rfl
            | some g => exact .inr (hsep2 g hq).2.2
          · intro x hx
            rcases List.mem_append.1 hx with hx | hx
            · exact hTs x (by simp [hx])
            · exact hu3.2 x hx
          · intro g hg
            simp at hg ⊢
            obtain ⟨a, b, c⟩ := hsep2 g hg
            have := hE3.size
            have := hg4.size
            refine ⟨a, by omega, fun e => ?_⟩
            rcases hfr4 with h | h
            · exact c (e.trans h)
            · rw [h] at e; simp at e; omega
          · have := hsl4.sl (by simp; omega)
            rw [hm]; simp [rlM, hu2.1.len, this.len, hpl]; omega
end Go.L16
