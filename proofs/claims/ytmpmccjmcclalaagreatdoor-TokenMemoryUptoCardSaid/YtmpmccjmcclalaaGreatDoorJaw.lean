/- Texts of mine for the claims about layer 1 (token), joined: L01N. -/
import Derived.Test.YtmpmccjmcclalaaGreatDoorJar
import Derived.Lib.AtoiAll
import Derived.Lib.ItoaNum
set_option linter.all false
set_option linter.unusedSimpArgs false
set_option linter.unusedVariables false
/- Layer 1, plainly: which texts are numbers. -/
namespace Go.L01
open Go.Eng Go.Lib

def valF (a : Nat) (l : Bs) : Nat := l.foldl (fun a c => a * 10 + (c.toNat - 48)) a
theorem valF_cons (a : Nat) (c : UInt8) (l : Bs) : valF a (c :: l) = valF (a * 10 + (c.toNat - 48)) l := by unfold valF; rw [List.foldl_cons]
theorem valF_ge : ∀ (l : Bs) (a : Nat), a ≤ valF a l
  | [], a => Nat.le_refl _
  | c :: l, a => by rw [valF_cons]; have := valF_ge l (a * 10 + (c.toNat - 48)); omega
theorem valF_lt : ∀ (l : Bs) (a : Nat), (∀ c ∈ l, digit c = true) → valF a l < (a + 1) * 10 ^ l.length
  | [], a, _ => by simp [valF]
  | c :: l, a, h => by
    have hc := h c (by simp)
    simp [digit] at hc
    rw [valF_cons]
    have := valF_lt l (a * 10 + (c.toNat - 48)) fun x hx => h x (by simp [hx])
    refine Nat.lt_of_lt_of_le this ?_
    rw [List.length_cons, Nat.pow_succ, Nat.mul_comm (10 ^ l.length) 10, ← Nat.mul_assoc]
    exact Nat.mul_le_mul_right _ (by omega)
theorem valF_snoc (a : Nat) (l : Bs) (c : UInt8) : valF a (l ++ [c]) = valF a l * 10 + (c.toNat - 48) := by simp [valF]
theorem parse_val : ∀ (l : Bs) (a : Nat), (∀ c ∈ l, digit c = true) → valF a l < 10000000000 → parseUint10 a l = .ok (valF a l)
  | [], a, _, _ => rfl
  | c :: l, a, h, hv => by
    have hc := h c (by simp)
    simp [digit] at hc
    rw [valF_cons] at hv ⊢
    have hge := valF_ge l (a * 10 + (c.toNat - 48))
    rw [parseUint10, if_pos hc, if_neg (by omega), if_neg (by omega)]
    exact parse_val l _ (fun x hx => h x (by simp [hx])) hv
theorem ofNat48 {c : UInt8} (h : digit c = true) : UInt8.ofNat (48 + (c.toNat - 48)) = c := by
  simp [digit] at h
  have : 48 + (c.toNat - 48) = c.toNat := by omega
  rw [this]; simp
/-- Digits without a nought ahead are the numeral of what they spell. -/
theorem dec_val : ∀ (n : Nat) (l : Bs), l.length = n → l ≠ [] → (∀ c ∈ l, digit c = true) → (l.length = 1 ∨ l.getD 0 0 ≠ 48) → decDigits (valF 0 l) = l := by
  intro n
  induction n with
  | zero => intro l hl h0; exact absurd (List.length_eq_zero_iff.1 hl) h0
  | succ n ih =>
    intro l hl h0 hd hz
    rcases List.eq_nil_or_concat l with rfl | ⟨t, c, rfl⟩
    · exact absurd rfl h0
    rw [List.concat_eq_append] at *
    have hc : digit c = true := hd c (by simp)
    rw [valF_snoc]
    have hc' := hc
    simp [digit] at hc'
    by_cases ht : t = []
    · subst ht
      simp only [valF, List.foldl_nil, List.nil_append]
      rw [decDigits, dif_pos (by omega), Nat.zero_mul, Nat.zero_add, ofNat48 hc]
    · obtain ⟨a, t', rfl⟩ : ∃ a t', t = a :: t' := by cases t with | nil => exact absurd rfl ht | cons a t' => exact ⟨a, t', rfl⟩
      have ha : a ≠ 48 := by
        rcases hz with h | h
        · simp at h
        · simpa using h
      have had := hd a (by simp)
      simp [digit] at had
      have ha' : a.toNat ≠ 48 := fun e => ha (UInt8.toNat_inj.1 e)
      have hv : 1 ≤ valF 0 (a :: t') := by
        rw [valF_cons]
        have := valF_ge t' (0 * 10 + (a.toNat - 48)); omega
      have h1 := ih (a :: t') (by simp at hl ⊢; omega) (by simp) (fun x hx => hd x (by simp at hx ⊢; rcases hx with h | h <;> simp [h])) (.inr (by simpa using ha))
      rw [decDigits, dif_neg (by omega)]
      have e1 : (valF 0 (a :: t') * 10 + (c.toNat - 48)) / 10 = valF 0 (a :: t') := by omega
      have e2 : (valF 0 (a :: t') * 10 + (c.toNat - 48)) % 10 = c.toNat - 48 := by omega
      rw [e1, e2, h1, ofNat48 hc]
theorem dec_digit (u : Nat) : ∀ c ∈ decDigits u, digit c = true := by
  induction u using Nat.strongRecOn with
  | _ u ih =>
    have one : ∀ d, d < 10 → digit (UInt8.ofNat (48 + d)) = true := by decide
    rw [decDigits]
    split
    · intro c hc
      rw [List.mem_singleton] at hc; subst hc; exact one u (by omega)
    · intro c hc
      simp only [List.mem_append, List.mem_singleton] at hc
      rcases hc with hc | hc
      · exact ih (u / 10) (by omega) c hc
      · subst hc; exact one _ (by omega)
theorem dec_head (u : Nat) (h : 0 < u) : decDigits u ≠ [] ∧ (decDigits u).getD 0 0 ≠ 48 := by
  induction u using Nat.strongRecOn with
  | _ u ih =>
    have one : ∀ d, 0 < d → d < 10 → UInt8.ofNat (48 + d) ≠ 48 := by
      intro d h1 h2
      match d, h1, h2 with
      | 1, _, _ | 2, _, _ | 3, _, _ | 4, _, _ | 5, _, _ | 6, _, _ | 7, _, _ | 8, _, _ | 9, _, _ => decide
    rw [decDigits]
    split
    · rename_i h10
      exact ⟨by simp, one u h h10⟩
    · obtain ⟨h1, h2⟩ := ih (u / 10) (by omega) (by omega)
      cases he : decDigits (u / 10) with
      | nil => exact absurd he h1
      | cons a t =>
        rw [he] at h2
        exact ⟨by simp, by simpa using h2⟩
theorem dec_len (u : Nat) : (decDigits u).length = nDigits u := by rw [decDigits_eq]; simp
theorem dec_len_le {u : Nat} (h : u ≤ 1000000000) : (decDigits u).length ≤ 10 ∧ ((decDigits u).length < 10 ∨ u = 1000000000) := by
  rw [dec_len]
  have hp := nDigits_pos u
  by_cases h1 : u = 1000000000
  · have : nDigits u = 9 + 1 := nDigits_unique 9 u (by omega) (by omega)
    omega
  · have : nDigits u < 10 := by
      rcases Nat.lt_or_ge (nDigits u) 10 with hh | hh
      · exact hh
      · exfalso
        have key : ∀ (n u : Nat), nDigits u = n + 1 → (n = 0 ∨ 10 ^ n ≤ u) := by
          intro n
          induction n with
          | zero => intro u _; exact .inl rfl
          | succ n ih =>
            intro u hu
            right
            have h10 : ¬ u < 10 := fun h => by rw [nDigits_small h] at hu; omega
            rw [nDigits_big h10] at hu
            rcases ih (u / 10) (by omega) with h0 | h0
            · subst h0; simpa using h10
            · rw [Nat.pow_succ]; omega
        rcases key (nDigits u - 1) u (by omega) with h0 | h0
        · omega
        · have : (10 : Nat) ^ 9 ≤ 10 ^ (nDigits u - 1) := Nat.pow_le_pow_right (by decide) (by omega)
          omega
    omega
theorem digitsL_all {s : Bs} : digitsL s = s.length ↔ ∀ c ∈ s, digit c = true := by
  unfold digitsL
  constructor
  · intro h c hc
    have h1 : s.takeWhile digit = s := (List.takeWhile_prefix digit).eq_of_length h
    have h2 : c ∈ s.takeWhile digit := by rw [h1]; exact hc
    exact List.all_eq_true.1 (List.all_takeWhile (p := digit) (l := s)) c h2
  · intro h
    have : s.takeWhile digit = s := by
      have := List.takeWhile_append_of_pos (p := digit) (l₁ := s) (l₂ := []) h
      simpa using this
    rw [this]

def numOk (s : Bs) : Bool := match atoiAll s with
  | .ok v => decide (0 ≤ v) && decide (v ≤ 1000000000) && decide (itoa v = s)
  | _ => false
theorem most_val : decDigits 1000000000 = most := by
  have : valF 0 most = 1000000000 := by decide
  rw [← this]
  exact dec_val 10 most rfl (by decide) (by decide) (.inr (by decide))
theorem numOk_eq (s : Bs) : numOk s = isNumber s := by
  rw [Bool.eq_iff_iff]
  constructor
  · intro h
    unfold numOk at h
    split at h
    · rename_i v hv
      simp only [Bool.and_eq_true, decide_eq_true_eq] at h
      obtain ⟨⟨h0, h1⟩, h2⟩ := h
      rw [itoa, if_neg (by omega)] at h2
      have hd := dec_digit v.toNat
      have hl := dec_len_le (u := v.toNat) (by omega)
      rw [h2] at hd hl
      have hpos : 0 < s.length := by rw [← h2, dec_len]; exact nDigits_pos _
      have hdl := digitsL_all.2 hd
      have hz : 1 < s.length → s.getD 0 0 ≠ 48 := by
        intro h1
        rw [← h2]
        refine (dec_head v.toNat ?_).2
        rcases Nat.eq_zero_or_pos v.toNat with h | h
        · rw [← h2, h, decDigits] at h1; simp at h1
        · exact h
      have hm : s.length < 10 ∨ s = most := by
        rcases hl.2 with h | h
        · exact .inl h
        · right; rw [← h2, h, most_val]
      unfold isNumber
      simp only [Bool.and_eq_true, Bool.not_eq_true', Bool.or_eq_false_iff, Bool.and_eq_false_iff, decide_eq_false_iff_not, Bool.or_eq_true, decide_eq_true_eq]
      exact ⟨⟨⟨⟨by omega, by omega⟩, by omega⟩, (Nat.lt_or_ge 1 s.length).elim (fun h => .inr (hz h)) fun h => .inl (by omega)⟩, hm⟩
    · cases h
  · intro h
    unfold isNumber at h
    simp only [Bool.and_eq_true, Bool.not_eq_true', Bool.or_eq_false_iff, Bool.and_eq_false_iff, decide_eq_false_iff_not, Bool.or_eq_true, decide_eq_true_eq] at h
    obtain ⟨⟨⟨⟨h0, h10⟩, hd⟩, hz⟩, hm⟩ := h
    have hd' := digitsL_all.1 (Decidable.of_not_not hd)
    have hv : valF 0 s ≤ 1000000000 := by
      rcases hm with h | h
      · have h1 := valF_lt s 0 hd'
        have h2 : (10 : Nat) ^ s.length ≤ 10 ^ 9 := Nat.pow_le_pow_right (by decide) (by omega)
        omega
      · rw [h]; decide
    have hne : s ≠ [] := fun e => h0 (by rw [e]; rfl)
    have hdec := dec_val s.length s rfl hne hd' (by
      rcases hz with h | h
      · left; omega
      · exact .inr h)
    obtain ⟨c, r, rfl⟩ : ∃ c r, s = c :: r := by cases s with | nil => exact absurd rfl hne | cons c r => exact ⟨c, r, rfl⟩
    have hc := hd' c (by simp)
    simp [digit] at hc
    have ha : atoiAll (c :: r) = .ok (valF 0 (c :: r) : Int) := by
      unfold atoiAll
      simp only []
      rw [if_neg (by omega), parseMag, if_neg (by simp), parse_val _ 0 hd' (by omega)]
      simp only []
      rw [if_neg (by omega), if_neg (by omega), if_neg (by omega)]
    unfold numOk
    rw [ha]
    simp only [Bool.and_eq_true, decide_eq_true_eq]
    refine ⟨⟨by omega, by omega⟩, ?_⟩
    rw [itoa, if_neg (by omega)]
    exact hdec
end Go.L01
