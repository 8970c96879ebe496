/- Texts of mine for the claims about layer 1 (token), joined: L01D, L01E, L01F, L01G. -/
import Derived.Test.YtmpmccjmcclalaaGreatDoorJax
import Derived.Test.YtmpmccjmcclalaaGreatDoorJaw
set_option linter.all false
set_option linter.unusedSimpArgs false
set_option linter.unusedVariables false
/- Layer 1: contracts: names, words, numbers, what is right. -/
namespace Go.L01
open Go Go.Eng Go.RowKit Go.Proofs
set_option maxRecDepth 100000
set_option maxHeartbeats 2000000

theorem tk_succ (l : List Bs) (k : Nat) (h : k < l.length) (s : Bs) : (l.take (k + 1)).contains s = ((l.take k).contains s || decide (l[k] = s)) := by
  rw [List.take_add_one, List.getElem?_eq_getElem h, Bool.eq_iff_iff]
  simp only [Option.toList_some, List.contains_eq_mem, List.mem_append, List.mem_singleton, decide_eq_true_eq, Bool.or_eq_true]
  exact or_congr Iff.rfl ⟨fun h => h.symm, fun h => h.symm⟩

theorem t_reserved {w : World} (hG : G w) : Calls Tryz.prog 44 #[] w fun e w' => ∃ B ps, e = .returned (.map (some B)) ∧ Ext w w' ∧ MapB w' B ps ∧ ∀ s, lookP ps (mkS s) = if isWord s then some (.bool true) else none := by
  refine ir44_calls fun ρ => ?_
  simp [ir44]
  refine eff_makeMap fun B W hB hE hm hsz => ?_
  simp
  refine (t_words (hG.ext hE)).mono ?_
  rintro _ W2 ⟨v, rfl, hO, hE2⟩
  have hl := Own.sl (enc := encT) (xs := wordsL) hO (by decide)
  simp [hl.is, hl.len]
  refine loopC 7 46 (fun k ρ' w' => Ext w w' ∧ B < w'.heap.size ∧ ρ' 1 = .map (some B) ∧ ρ' 5 = v ∧ ρ' 6 = .int .i64 46 ∧ Own W.heap.size 9 1 w' v (wordsL.map encT) ∧ ∃ ps, MapB w' B ps ∧ ∀ s, lookP ps (mkS s) = if (wordsL.take k).contains s then some (.bool true) else none)
    (by simp) ⟨hE.trans' hE2, by have := hE2.size; omega, by simp, by simp, by simp [wordsL_len], hO, [], hm.ext hE2, by simp⟩ ?_
  rintro k ρ' w' hk h7 ⟨hE3, hBs, h1, h5, h6, hO3, ps, hm3, hps⟩
  have hl3 := Own.sl (enc := encT) (xs := wordsL) hO3 (by decide)
  by_cases hlt : k < 46
  · have hlt' : k < wordsL.length := hlt
    have hltI : (k : Int) < 46 := by omega
    simp [hltI, ir44_l2, ir44_k1, h1, h5, h6, h7, hlt, hl3.is, hl3.len, hlt', hl3.cell k hlt', encT]
    refine eff_mapUpdate (s := mkS wordsL[k]) (kt := 9) (et := 4) (by kernel_rfl) (by kernel_rfl) (by simp) (by simp) hm3 fun W6 hO6 hm6 => ?_
    simp at hm6
    simp [ir44_k0, h1, h5, h6, h7, i64w (n := (k : Int) + 1) (by omega)]
    refine ⟨hO6.ext hE3 hB, by rw [hO6.size]; exact hBs, by simpa [encT] using hO3.only hO6 (by omega), _, hm6, fun s => ?_⟩
    have hc := tk_succ wordsL k hlt' s
    simp only [List.contains_eq_mem] at hc hps
    rw [look_setP, hps]
    by_cases hs : wordsL[k] = s
    · simp [hs]
      have : s ∈ List.take (k + 1) wordsL := by simpa [hs] using hc
      exact this
    · have : ¬ mkS wordsL[k] = mkS s := fun h => hs (mkS_inj.1 h)
      simp [this]
      have hiff : (s ∈ List.take (k + 1) wordsL) ↔ s ∈ List.take k wordsL := by simpa [hs] using hc
      simp [hiff]
  · have hk' : k = 46 := by omega
    subst hk'
    simp [ir44_l2, h6, h7, ir44_k3, h1]
    exact ⟨hE3, ps, hm3, hps⟩

@[simp] theorem cb88 : callB Tryz.prog 88 = true := by kernel_rfl
@[simp] theorem cb68 : callB Tryz.prog 68 = true := by kernel_rfl
@[simp] theorem cb41 : callB Tryz.prog 41 = true := by kernel_rfl
@[simp] theorem cb40 : callB Tryz.prog 40 = true := by kernel_rfl
@[simp] theorem cb56 : callB Tryz.prog 56 = true := by kernel_rfl
@[simp] theorem cb39 : callB Tryz.prog 39 = true := by kernel_rfl
@[simp] theorem cb43 : callB Tryz.prog 43 = true := by kernel_rfl
@[simp] theorem cb13 : callB Tryz.prog 13 = true := by kernel_rfl
@[simp] theorem cb14 : callB Tryz.prog 14 = true := by kernel_rfl
@[simp] theorem cb67 : callB Tryz.prog 67 = true := by kernel_rfl
@[simp] theorem cb69 : callB Tryz.prog 69 = true := by kernel_rfl
@[simp] theorem cb85 : callB Tryz.prog 85 = true := by kernel_rfl
@[simp] theorem cb86 : callB Tryz.prog 86 = true := by kernel_rfl
@[simp] theorem cb87 : callB Tryz.prog 87 = true := by kernel_rfl

theorem t_isWord {w : World} (hG : G w) (s : Bs) : Calls Tryz.prog 15 #[.string (mkS s)] w fun e w' => e = .returned (.bool (isWord s)) ∧ Ext w w' := by
  refine ir15_calls fun ρ h0 => ?_
  simp [ir15]
  refine (t_reserved hG).mono ?_
  rintro _ w1 ⟨B, ps, rfl, hE, hm, hps⟩
  simp [h0]
  refine eff_lookup (s := mkS s) (kt := 9) (et := 4) (z := .bool false) (by kernel_rfl) (by kernel_rfl) (by kernel_rfl) (by simp) (by simp) hm false ?_
  simp [hps]
  cases hw : isWord s <;> simp [hE]
theorem r_isWord {w : World} (s : Bs) : Calls Tryz.prog 16 #[.string (mkS s)] w fun e w' => e = .returned (.bool (isWord s)) ∧ Ext w w' := by
  refine ir16_calls fun ρ h0 => ?_
  simp [ir16]
  refine r_words.mono ?_
  rintro _ w1 ⟨v, rfl, hN⟩
  simp [h0]
  refine (r_in s (hN.sl (by decide))).mono ?_
  rintro _ w2 ⟨rfl, rfl⟩
  simp
  exact ⟨by rw [isWord, List.contains_eq_mem], hN.2⟩

theorem s_index {w : World} {v : Value} {l : List Bs} (s : Bs) (hl : SlT w v l) : Calls Tryz.prog 88 #[v, .string (mkS s)] w fun e w' => ∃ n : Int, e = .returned (.int .i64 n) ∧ (0 ≤ n ↔ l.contains s = true) ∧ w' = w := by
  have hbd := hl.bd
  refine ir88_calls fun ρ h0 h1 => ?_
  simp [ir88, h0, hl.is, hl.len]
  refine loopC 8 l.length (fun k ρ' w' => w' = w ∧ ρ' 0 = v ∧ ρ' 1 = .string (mkS s) ∧ ρ' 7 = .int .i64 l.length ∧ ∀ j (hj : j < l.length), j < k → l[j] ≠ s) (by simp) ⟨rfl, by simp [h0], by simp [h1], by simp, by simp⟩ ?_
  rintro k ρ' w' hk h8 ⟨rfl, h0, h1, h7, hall⟩
  by_cases hlt : k < l.length
  · simp [ir88_l2, ir88_k1, h8, h7, h0, h1, hl.is, hl.len, hlt, hl.cell k hlt, encT, mkS_inj]
    by_cases he : l[k] = s
    · have he' : s = l[k] := he.symm
      simp [he']
    · have he' : ¬ s = l[k] := fun h => he h.symm
      simp [he', ir88_k0, h8, i64w (n := (k : Int) + 1) (by omega), h0, h1, h7]
      intro j hj hjk
      by_cases e : j = k
      · subst e; exact he
      · exact hall j hj (by omega)
  · have hk' : k = l.length := by omega
    subst hk'
    simp [ir88_l2, h8, h7, ir88_k3]
    intro hm
    obtain ⟨j, hj, rfl⟩ := List.getElem_of_mem hm
    exact hall j hj hj rfl
theorem s_contains {w : World} {v : Value} {l : List Bs} (s : Bs) (hl : SlT w v l) : Calls Tryz.prog 68 #[v, .string (mkS s)] w fun e w' => e = .returned (.bool (l.contains s)) ∧ w' = w := by
  refine ir68_calls fun ρ h0 h1 => ?_
  simp [ir68, h0, h1]
  refine (s_index s hl).mono ?_
  rintro _ _ ⟨n, rfl, hn, rfl⟩
  simp
  simpa using hn

theorem u8wrap (c : UInt8) : IntKind.u8.wrap (c.toNat : Int) = c.toNat := by
  have hc := c.toNat_lt
  exact u8w (by omega)
theorem t_notPart (c : UInt8) (w : World) : Calls Tryz.prog 40 #[.int .i32 (c.toNat : Int)] w fun e w' => e = .returned (.bool (!part c)) ∧ w' = w := by
  refine ir40_calls fun ρ h0 => ?_
  by_cases h : c.toNat ≤ 126
  · have h1 : (c.toNat : Int) ≤ 126 := by omega
    have h2 : ¬ 126 < (c.toNat : Int) := by omega
    simp [ir40, h0, h1, h2, u8wrap]
    refine (t_part c w).mono ?_
    rintro _ _ ⟨rfl, rfl⟩
    simp [h2]
  · have h1 : ¬ (c.toNat : Int) ≤ 126 := by omega
    have h2 : 126 < (c.toNat : Int) := by omega
    simp [ir40, h0, h1, h2, part, letter, digit]
    omega
theorem t_notPartHigh {r : Int} (h2 : 126 < r) (w : World) : Calls Tryz.prog 40 #[.int .i32 r] w fun e w' => e = .returned (.bool true) ∧ w' = w := by
  refine ir40_calls fun ρ h0 => ?_
  have h1 : ¬ r ≤ 126 := by omega
  simp [ir40, h0, h1, h2]
def posOf (w : World) (B : Nat) : Nat := match w.heap[B]? with
  | some (.stringIter _ k) => k
  | _ => 0
theorem posOf_eq {w : World} {B k : Nat} {s : ByteArray} (h : w.heap[B]? = some (.stringIter s k)) : posOf w B = k := by simp [posOf, h]
theorem s_indexFunc {w : World} (s : Bs) : Calls Tryz.prog 56 #[.string (mkS s), .func (.func 40) #[] #[], .bool true] w fun e w' => ∃ n : Int, e = .returned (.int .i64 n) ∧ (n < 0 ↔ s.all part = true) ∧ Ext w w' := by
  have hsz : (mkS s).size = s.length := rfl
  refine ir56_calls fun ρ h0 h1 h2 => ?_
  simp [ir56, h0]
  refine eff_rangeS (s := mkS s) (by kernel_rfl) (by simp) fun B W hB hE hit => ?_
  simp
  refine loopI (fun ρ' w' => ∃ k, k ≤ s.length ∧ Ext w w' ∧ ρ' 1 = .func (.func 40) #[] #[] ∧ ρ' 2 = .bool true ∧ ρ' 10 = .pointer (some ⟨B, 0, none⟩) ∧ w'.heap[B]? = some (.stringIter (mkS s) k) ∧ ∀ j (hj : j < s.length), j < k → part s[j] = true)
    (fun _ w' => s.length - posOf w' B) ⟨0, Nat.zero_le _, hE, by simp [h1], by simp [h2], by simp, hit, by simp⟩ ?_
  rintro ρ' w' ⟨k, hk, hE', h1, h2, h10, hit, hall⟩
  have hpos := posOf_eq hit
  simp [ir56_l1]
  refine eff_nextS (s := mkS s) (by simpa using h10) hit (fun hlt W2 hO hit2 => ?_) (fun hlt => ?_)
  · rw [hsz] at hlt
    have hcell : (mkS s)[k]'(by rw [hsz]; exact hlt) = s[k] := by
      show (mkS s).data[k] = _
      simp [mkS]
    simp [ir56_k0, h1, h2]
    refine eff_callv (f := 40) (by kernel_rfl) (fs := #[]) (caps := #[]) (by simp) ?_
    simp
    by_cases ha : s[k].toNat < 128
    · have hd := decode_ascii (mkS s) k (by rw [hsz]; exact hlt) (by rw [hcell]; exact ha)
      rw [hcell] at hd
      rw [hd] at hit2 ⊢
      refine (t_notPart s[k] W2).mono ?_
      rintro _ _ ⟨rfl, rfl⟩
      cases hp : part s[k] with
      | true =>
        simp [hp, h2, hpos]
        refine ⟨⟨k + 1, by omega, hO.ext hE' hB, h1, h10, hit2, ?_⟩, ?_⟩
        · intro j hj hjk
          by_cases e : j = k
          · subst e; exact hp
          · exact hall j hj (by omega)
        · rw [posOf_eq hit2]; omega
      | false =>
        simp [hp, h2]
        have hna : ¬ ∀ x ∈ s, part x = true := fun h => by
          rw [h s[k] (List.getElem_mem _)] at hp; cases hp
        refine ⟨by simpa using hna, hO.ext hE' hB⟩
    · obtain ⟨h128, hw⟩ := decode_high (mkS s) k (by rw [hsz]; exact hlt) (by rw [hcell]; omega)
      refine (t_notPartHigh (r := ((Utf8.decode (mkS s) k).1 : Int)) (by omega) W2).mono ?_
      rintro _ _ ⟨rfl, rfl⟩
      simp [h2]
      have hp : part s[k] = false := by simp [part, letter, digit]; omega
      have hna : ¬ ∀ x ∈ s, part x = true := fun h => by
        rw [h s[k] (List.getElem_mem _)] at hp; cases hp
      refine ⟨by simpa using hna, hO.ext hE' hB⟩
  · rw [hsz] at hlt
    simp [ir56_k2]
    refine ⟨fun x hx => ?_, hE'⟩
    obtain ⟨j, hj, rfl⟩ := List.getElem_of_mem hx
    exact hall j hj (by omega)

theorem s_IndexFunc {w : World} (s : Bs) : Calls Tryz.prog 39 #[.string (mkS s), .func (.func 40) #[] #[]] w fun e w' => ∃ n : Int, e = .returned (.int .i64 n) ∧ (n < 0 ↔ s.all part = true) ∧ Ext w w' := by
  refine ir39_calls fun ρ h0 h1 => ?_
  simp [ir39, h0, h1]
  refine (s_indexFunc s).mono ?_
  rintro _ w' ⟨n, rfl, hn, hE⟩
  simp
  exact ⟨by simpa using hn, hE⟩
theorem runL_all {s : Bs} : runL s = s.length ↔ s.all part = true := by
  unfold runL
  rw [List.all_eq_true]
  constructor
  · intro h c hc
    have h1 : s.takeWhile part = s := (List.takeWhile_prefix part).eq_of_length h
    have h2 : c ∈ s.takeWhile part := by rw [h1]; exact hc
    exact List.all_eq_true.1 (List.all_takeWhile (p := part) (l := s)) c h2
  · intro h
    have : s.takeWhile part = s := by
      have := List.takeWhile_append_of_pos (p := part) (l₁ := s) (l₂ := []) h
      simpa using this
    rw [this]

theorem t_isName {w : World} (hG : G w) (s : Bs) : Calls Tryz.prog 13 #[.string (mkS s)] w fun e w' => e = .returned (.bool (isName s)) ∧ Ext w w' := by
  refine ir13_calls fun ρ h0 => ?_
  by_cases hl : 0 < s.length ∧ s.length ≤ 12
  · obtain ⟨h1, h2⟩ := hl
    have h1' : 0 < (s.length : Int) := by omega
    have h2' : (s.length : Int) ≤ 12 := by omega
    have hg : s.getD 0 0 = s[0] := by simp [List.getD_eq_getElem?_getD, h1]
    simp [ir13, h0, h1, h2, h1', h2']
    refine (t_letter s[0] w).mono ?_
    rintro _ _ ⟨rfl, rfl⟩
    cases hc : letter s[0] with
    | false =>
      have hn : isName s = false := by unfold isName; rw [hg, hc]; simp
      simp [hn]; exact ext_refl _
    | true =>
      simp [h0]
      refine (s_IndexFunc s).mono ?_
      rintro _ w1 ⟨n, rfl, hn, hE⟩
      have hr : (n < 0) ↔ runL s = s.length := hn.trans runL_all.symm
      by_cases hn0 : n < 0
      · simp [hn0, h0]
        refine (t_isWord (hG.ext hE) s).mono ?_
        rintro _ w2 ⟨rfl, hE2⟩
        simp [isName, h1, h2, hg, hc, hr.1 hn0]
        exact hE.trans' hE2
      · have : ¬ runL s = s.length := fun h => hn0 (hr.2 h)
        simp [hn0, isName, this]
        exact hE
  · have hn : isName s = false := by
      unfold isName
      rcases Nat.eq_zero_or_pos s.length with h | h
      · simp [h]
      · have : ¬ s.length ≤ 12 := fun h2 => hl ⟨h, h2⟩
        simp [this]
    by_cases h1 : 0 < s.length
    · have h1' : 0 < (s.length : Int) := by omega
      have h2' : ¬ (s.length : Int) ≤ 12 := by omega
      simp [ir13, h0, h1, h1', h2', hn]
      exact ext_refl _
    · have h1' : ¬ 0 < (s.length : Int) := by omega
      simp [ir13, h0, h1, h1', hn]
      exact ext_refl _
theorem r_isName {w : World} (s : Bs) : Calls Tryz.prog 14 #[.string (mkS s)] w fun e w' => e = .returned (.bool (isName s)) ∧ Ext w w' := by
  refine ir14_calls fun ρ h0 => ?_
  by_cases hl : 0 < s.length ∧ s.length ≤ 12
  · obtain ⟨h1, h2⟩ := hl
    have h1' : 0 < (s.length : Int) := by omega
    have h2' : (s.length : Int) ≤ 12 := by omega
    have hg : s.getD 0 0 = s[0] := by simp [List.getD_eq_getElem?_getD, h1]
    simp [ir14, h0, h1, h2, h1', h2']
    refine (r_letter s[0] w).mono ?_
    rintro _ _ ⟨rfl, rfl⟩
    cases hc : letter s[0] with
    | false =>
      have hn : isName s = false := by unfold isName; rw [hg, hc]; simp
      simp [hn]; exact ext_refl _
    | true =>
      simp [h0]
      refine (r_run s (by omega) _).mono ?_
      rintro _ _ ⟨rfl, rfl⟩
      by_cases hn0 : runL s = s.length
      · simp [hn0, h0]
        refine (r_isWord s).mono ?_
        rintro _ w2 ⟨rfl, hE2⟩
        simp [isName, h1, h2, hg, hc, hn0]
        exact hE2
      · have hn0' : ¬ (runL s : Int) = (s.length : Int) := by omega
        simp [hn0, hn0', h0, isName]
        exact ext_refl _
  · have hn : isName s = false := by
      unfold isName
      rcases Nat.eq_zero_or_pos s.length with h | h
      · simp [h]
      · have : ¬ s.length ≤ 12 := fun h2 => hl ⟨h, h2⟩
        simp [this]
    by_cases h1 : 0 < s.length
    · have h1' : 0 < (s.length : Int) := by omega
      have h2' : ¬ (s.length : Int) ≤ 12 := by omega
      simp [ir14, h0, h1, h1', h2', hn]
      exact ext_refl _
    · have h1' : ¬ 0 < (s.length : Int) := by omega
      simp [ir14, h0, h1, h1', hn]
      exact ext_refl _

theorem s_atoi {w : World} (hG : G w) (s : Bs) (hs : s.length ≤ 281474976710656) : Calls Tryz.prog 86 #[.string (mkS s)] w fun e w' => Ext w w' ∧ ∃ (n : Int) (x : Value), e = .returned (.tuple #[.int .i64 n, x]) ∧
    ((Lib.atoiAll s = .ok n ∧ x = .nilIface) ∨ ((∀ v, Lib.atoiAll s ≠ .ok v) ∧ ∃ u p, x = .iface u p)) := by
  cases ha : Lib.atoiAll s
  · rename_i v
    refine (Tryz.atoi_ok (mkS s) (by show s.length ≤ _; omega) v ha w).mono ?_
    rintro _ w' ⟨rfl, hw⟩
    refine ⟨?_, v, _, rfl, .inl ⟨rfl, rfl⟩⟩
    rcases hw with rfl | ⟨t, rfl⟩
    · exact ext_refl _
    · exact ⟨rfl, rfl, rfl, by rw [Lib.bytesWorld_size]; omega, fun k hk => Lib.bytesWorld_at_old _ _ _ _ hk⟩
  · obtain ⟨te, pe, hv⟩ := hG.es
    refine (Tryz.atoi_syntax (mkS s) hs ha _ w hv (.inr ⟨te, pe, rfl⟩)).mono ?_
    rintro _ w' ⟨N, rfl, _, _, hB⟩
    exact ⟨hB, _, _, rfl, .inr ⟨by simp, _, _, rfl⟩⟩
  · obtain ⟨te, pe, hv⟩ := hG.er
    refine (Tryz.atoi_range (mkS s) hs ha _ w hv (.inr ⟨te, pe, rfl⟩)).mono ?_
    rintro _ w' ⟨N, rfl, _, _, hB⟩
    exact ⟨hB, _, _, rfl, .inr ⟨by simp, _, _, rfl⟩⟩
theorem s_itoa {w : World} (hG : G w) {n : Int} (h0 : 0 ≤ n) (h1 : n ≤ 9223372036854775807) : Calls Tryz.prog 87 #[.int .i64 n] w fun e w' => e = .returned (.string (mkS (Lib.itoa n))) ∧ Ext w w' := by
  refine (Tryz.itoa n (by omega) h1 w hG.pow).mono ?_
  rintro _ w' ⟨rfl, k, os, rfl⟩
  refine ⟨rfl, rfl, rfl, rfl, by simp [Sort.grow, World.drewN], fun j hj => ?_⟩
  rw [Sort.heap_grow_old _ _ (by simpa [World.drewN] using hj)]
  rfl
theorem t_isNumber {w : World} (hG : G w) (s : Bs) (hs : s.length ≤ 281474976710656) : Calls Tryz.prog 67 #[.string (mkS s)] w fun e w' => e = .returned (.bool (isNumber s)) ∧ Ext w w' := by
  refine ir67_calls fun ρ h0 => ?_
  simp [ir67, h0]
  refine (s_atoi hG s hs).mono ?_
  rintro _ w1 ⟨hE, n, x, rfl, ⟨ha, rfl⟩ | ⟨ha, u, p, rfl⟩⟩
  · have hn : isNumber s = (decide (0 ≤ n) && decide (n ≤ 1000000000) && decide (Lib.itoa n = s)) := by
      rw [← numOk_eq, numOk, ha]
    simp
    refine eff_eqlNilI (by kernel_rfl) (by simp) ?_
    by_cases h1 : 0 ≤ n
    · by_cases h2 : n ≤ 1000000000
      · simp [h1, h2]
        refine (s_itoa (hG.ext hE) h1 (by omega)).mono ?_
        rintro _ w2 ⟨rfl, hE2⟩
        simp [h0, hn, h1, h2, mkS_inj]
        exact hE.trans' hE2
      · simp [h1, h2, hn]
        exact hE
    · simp [h1, hn]
      exact hE
  · have hn : isNumber s = false := by
      rw [← numOk_eq, numOk]
      cases h : Lib.atoiAll s with
      | ok v => exact absurd h (ha v)
      | _ => rfl
    simp
    refine eff_eqlNilI' (by kernel_rfl) (by simp; exact ⟨rfl, rfl⟩) ?_
    simp [hn]
    exact hE
theorem r_isNumber (s : Bs) (hs : s.length < 4611686018427387904) (w : World) : Calls Tryz.prog 69 #[.string (mkS s)] w fun e w' => e = .returned (.bool (isNumber s)) ∧ w' = w := by
  refine ir69_calls fun ρ h0 => ?_
  have g0 : (s.length = 0) = ((s.length : Int) = 0) := by rw [eq_iff_iff]; omega
  by_cases h1 : s.length = 0 ∨ 10 < s.length
  · have hn : isNumber s = false := by
      unfold isNumber
      rcases h1 with h | h <;> simp [h]
    rcases h1 with h | h
    · have h' : s = [] := List.length_eq_zero_iff.1 h
      subst h'
      simp [ir69, h0, hn]
    · have h2 : (10 : Int) < s.length := by omega
      have h3 : s ≠ [] := fun e => by subst e; simp at h
      simp [ir69, h0, hn, h2, h3]
  · have h2 : ¬ s.length = 0 := fun h => h1 (.inl h)
    have h3 : ¬ 10 < s.length := fun h => h1 (.inr h)
    have h2' : s ≠ [] := fun e => h2 (by rw [e]; rfl)
    have h3' : ¬ (10 : Int) < s.length := by omega
    have h0s : 0 < s.length := by omega
    simp [ir69, h0, h2', h3']
    refine (r_digits s hs w).mono ?_
    rintro _ w2 ⟨rfl, rfl⟩
    have hx : s[0]? = some s[0] := List.getElem?_eq_getElem h0s
    have hg : s.getD 0 0 = s[0] := by simp [List.getD_eq_getElem?_getD, h0s]
    have hb : isNumber s = (!(decide (digitsL s ≠ s.length) || (decide (1 < s.length) && decide (s[0] = 48))) && (decide (s.length < 10) || decide (s = most))) := by
      unfold isNumber
      rw [hg]
      simp [h2', h3]
    rw [hb]
    by_cases hd : digitsL s = s.length
    · have hu := u8_eq s[0] 48 (by decide)
      have hk : ∀ ρ : Env, ρ 0 = .string (mkS s) → ir69_k0.wp ⟨Tryz.prog, 35, ir69_V, []⟩ (retK [.tmp 2] fun e w' => e = .returned (.bool (decide (s.length < 10) || decide (s = most))) ∧ w' = w2) (ksOf [.tmp 2] fun e w' => e = .returned (.bool (decide (s.length < 10) || decide (s = most))) ∧ w' = w2) ρ w2 := by
        intro ρ h0
        by_cases hl : s.length < 10
        · have hl' : (s.length : Int) < 10 := by omega
          simp [ir69_k0, h0, hl, hl']
        · have hl' : ¬ (s.length : Int) < 10 := by omega
          have e : (⟨#[49, 48, 48, 48, 48, 48, 48, 48, 48, 48]⟩ : ByteArray) = mkS most := rfl
          simp [ir69_k0, h0, hl, hl', e, mkS_inj]
      by_cases h1s : 1 < s.length
      · have h1' : (1 : Int) < s.length := by omega
        by_cases h48 : s[0] = 48
        · have : (s[0].toNat : Int) = 48 := hu.2 h48
          simp [hd, h0, h1s, h1', h48, this, hx]
        · have : ¬ (s[0].toNat : Int) = 48 := fun h => h48 (hu.1 h)
          simp [hd, h0, h1s, h1', h48, this, hx]
          exact hk _ (by simp [h0])
      · have h1' : ¬ (1 : Int) < s.length := by omega
        simp [hd, h0, h1s, h1']
        exact hk _ (by simp [h0])
    · have hd' : ¬ (digitsL s : Int) = s.length := by omega
      simp [h0, hd, hd']

/-! ### What is right -/
def encK (t : Tok) : Value := .agg #[.int .u8 (t.kind : Int), .string (mkS t.text), .int .i64 t.line]
@[simp] theorem cb50 : callB Tryz.prog 50 = true := by kernel_rfl
@[simp] theorem cb51 : callB Tryz.prog 51 = true := by kernel_rfl
theorem r_right {w : World} (k : Nat) (s : Bs) (hs : s.length < 4611686018427387904) : Calls Tryz.prog 51 #[.int .u8 (k : Int), .string (mkS s)] w fun e w' => e = .returned (.bool (right k s)) ∧ Ext w w' := by
  refine ir51_calls fun ρ h0 h1 => ?_
  by_cases k1 : k = 1
  · subst k1
    simp [ir51, h0, h1]
    refine (r_isName s).mono ?_
    rintro _ w' ⟨rfl, hE⟩
    simp [right]; exact hE
  by_cases k2 : k = 2
  · subst k2
    simp [ir51, h0, h1]
    refine (r_isWord s).mono ?_
    rintro _ w' ⟨rfl, hE⟩
    simp [right]; exact hE
  by_cases k3 : k = 3
  · subst k3
    simp [ir51, h0, h1]
    refine (r_isNumber s hs w).mono ?_
    rintro _ _ ⟨rfl, rfl⟩
    simp [right]; exact ext_refl _
  have e1 : ¬ (k : Int) = 1 := by omega
  have e2 : ¬ (k : Int) = 2 := by omega
  have e3 : ¬ (k : Int) = 3 := by omega
  by_cases k4 : k = 4
  · subst k4
    simp [ir51, h0, h1]
    refine r_signs.mono ?_
    rintro _ w1 ⟨v, rfl, hN⟩
    simp [h1]
    refine (r_in s (hN.sl (by decide))).mono ?_
    rintro _ _ ⟨rfl, rfl⟩
    simp [right, isSign]; exact hN.2
  · have e4 : ¬ (k : Int) = 4 := by omega
    simp [ir51, h0, h1, e1, e2, e3, e4, ir51_k0, right, k1, k2, k3, k4]
    exact ext_refl _
theorem t_right {w : World} (hG : G w) (t : Tok) (hs : t.text.length ≤ 281474976710656) : Calls Tryz.prog 50 #[encK t] w fun e w' => e = .returned (.bool (right t.kind t.text)) ∧ Ext w w' := by
  obtain ⟨k, s, l⟩ := t
  refine ir50_calls fun ρ h0 => ?_
  simp [ir50, h0]
  refine eff_box fun B W hB hE hb _ => ?_
  simp [h0, encK, Value.cells] at hb ⊢
  simp [hb.cell]
  by_cases k1 : k = 1
  · subst k1
    simp [hb.cell]
    refine (t_isName (hG.ext hE) s).mono ?_
    rintro _ w' ⟨rfl, hE2⟩
    simp [right]; exact hE.trans' hE2
  by_cases k2 : k = 2
  · subst k2
    simp [hb.cell]
    refine (t_isWord (hG.ext hE) s).mono ?_
    rintro _ w' ⟨rfl, hE2⟩
    simp [right]; exact hE.trans' hE2
  by_cases k3 : k = 3
  · subst k3
    simp [hb.cell]
    refine (t_isNumber (hG.ext hE) s hs).mono ?_
    rintro _ w' ⟨rfl, hE2⟩
    simp [right]; exact hE.trans' hE2
  have e1 : ¬ (k : Int) = 1 := by omega
  have e2 : ¬ (k : Int) = 2 := by omega
  have e3 : ¬ (k : Int) = 3 := by omega
  by_cases k4 : k = 4
  · subst k4
    simp
    refine raw_ord ir50_o9_ok (Ext W) fun w4 hw4 _ => ⟨hw4, ?_⟩
    have hc : ∀ w', Ext W w' → ∀ i, w'.cell? ⟨B, i, none⟩ = #[Value.int .u8 4, .string (mkS s), .int .i64 l][i]? := fun w' h => (hb.ext h).cell
    simp +contextual [ir50_o9, hc, hw4]
    refine (t_signs ((hG.ext hE).ext hw4)).mono ?_
    rintro _ w1 ⟨v, rfl, hN⟩
    have hE1 := hw4.trans' hN.2
    simp +contextual [hc, hE1]
    refine (s_contains s (hN.sl (by decide))).mono ?_
    rintro _ _ ⟨rfl, rfl⟩
    simp [right, isSign, ir50_k0]; exact hE.trans' hE1
  · have e4 : ¬ (k : Int) = 4 := by omega
    simp [e1, e2, e3, e4, ir50_k1, right, k1, k2, k3, k4]
    exact hE
end Go.L01
/- Layer 1: contracts: a text and a place in it. -/
namespace Go.L01
open Go Go.Eng Go.RowKit Go.Proofs
set_option maxRecDepth 100000
set_option maxHeartbeats 2000000

@[simp] theorem cb101 : callB Tryz.prog 101 = true := by kernel_rfl
@[simp] theorem cb99 : callB Tryz.prog 99 = true := by kernel_rfl
@[simp] theorem cb102 : callB Tryz.prog 102 = true := by kernel_rfl
@[simp] theorem cb98 : callB Tryz.prog 98 = true := by kernel_rfl
@[simp] theorem cb100 : callB Tryz.prog 100 = true := by kernel_rfl
@[simp] theorem cb103 : callB Tryz.prog 103 = true := by kernel_rfl
@[simp] theorem cb104 : callB Tryz.prog 104 = true := by kernel_rfl
@[simp] theorem cb110 : callB Tryz.prog 110 = true := by kernel_rfl
@[simp] theorem cb109 : callB Tryz.prog 109 = true := by kernel_rfl

/-- The cells of a scanner. -/
abbrev scC (s : Bs) (at' line : Int) (cv : Value) : Array Value := #[.string (mkS s), .int .i64 at', .int .i64 line, cv]
theorem sz3 : sizeIs Tryz.prog 3 1 = true := by kernel_rfl

theorem drop_ext (s : Bs) (k : Nat) : (mkS s).extract k s.length = mkS (s.drop k) := by
  apply ByteArray.ext
  apply Array.ext'
  show ((mkS s).extract k s.length).data.toList = _
  simp [mkS]
  exact List.take_of_length_le (by simp)
theorem cut_ext (s : Bs) (k n : Nat) : (mkS s).extract k (k + n) = mkS ((s.drop k).take n) := by
  apply ByteArray.ext
  apply Array.ext'
  show ((mkS s).extract k (k + n)).data.toList = _
  simp [mkS]

theorem t_rest {w : World} {B k : Nat} {s : Bs} {line : Int} {cv : Value} (hb : Blk w B (scC s k line cv) 89) (hk : k ≤ s.length) :
    Calls Tryz.prog 101 #[.pointer (some ⟨B, 0, none⟩)] w fun e w' => e = .returned (.string (mkS (s.drop k))) ∧ Ext w w' := by
  refine ir101_calls fun ρ h0 => ?_
  simp [ir101, h0, hb.cell, hk, ir101_k0, drop_ext]
theorem t_over {w : World} {B k n : Nat} {s : Bs} {line : Int} {cv : Value} (hb : Blk w B (scC s k line cv) 89) (hk : k + n ≤ s.length) (hs : s.length < 4611686018427387904) (hl : 0 ≤ line ∧ line ≤ 4611686018427387904) :
    Calls Tryz.prog 99 #[.pointer (some ⟨B, 0, none⟩), .int .i64 (n : Int)] w fun e w' => e = .returned (.string (mkS ((s.drop k).take n))) ∧ Blk w' B (scC s ((k : Int) + (n : Int)) (line + ((((s.drop k).take n).count 10 : Nat) : Int)) cv) 89 ∧ w.grownBy w' (some B) := by
  have hkn : (k : Int) + (n : Int) ≤ s.length := by omega
  have hkn0 : (0 : Int) ≤ (k : Int) + (n : Int) := by omega
  have hk2 : (k : Int) ≤ (k : Int) + (n : Int) := by omega
  have ht : ((k : Int) + (n : Int)).toNat = k + n := by omega
  refine ir99_calls fun ρ h0 h1 => ?_
  simp [ir99, h0, h1, hb.cell, i64w (n := (k : Int) + (n : Int)) (by omega), hkn, hkn0, hk2, ht, cut_ext]
  intro w1 hE1
  simp [ir99_k1]
  refine raw_ord ir99_o2_ok (Ext w1) fun w2 hw2 _ => ⟨hw2, ?_⟩
  have hc : ∀ w', Ext w1 w' → ∀ i, w'.cell? ⟨B, i, none⟩ = (scC s k line cv)[i]? := fun w' h => ((hb.ext hE1).ext h).cell
  simp +contextual [ir99_o2, h0, hc, hw2]
  refine (Tryz.count_one (mkS ((s.drop k).take n)) 10 w2).mono ?_
  rintro _ _ ⟨rfl, rfl⟩
  have hcl : ((s.drop k).take n).count 10 ≤ s.length := by
    refine Nat.le_trans List.count_le_length ?_
    simp; omega
  simp +contextual [Lib.countByte, h0, hw2, i64w (n := line + ((((s.drop k).take n).count 10 : Nat) : Int)) (by omega)]
  refine eff_store1 (B := B) (i := 2) (by simp) ((hb.ext hE1).ext hw2) (by simp) rfl rfl sz3 fun W3 hO3 hb3 => ?_
  simp at hb3
  simp [ir99_k0, h0, h1, hb3.cell, i64w (n := (k : Int) + (n : Int)) (by omega)]
  refine eff_store1 (B := B) (i := 1) (by simp) hb3 (by simp) rfl rfl sz3 fun W4 hO4 hb4 => ?_
  simp at hb4 ⊢
  exact ⟨hb4, gb_only (gb_only (gb_ext (gb_ext (gb_refl _ w) hE1) hw2) hO3) hO4⟩

/-- A class of bytes, as a function value: what it answers. -/
def Class (f : Value) (p : UInt8 → Bool) : Prop := ∃ i, f = .func (.func i) #[] #[] ∧ callB Tryz.prog i = true ∧ ∀ c w, Calls Tryz.prog i #[encB c] w fun e w' => e = .returned (.bool (p c)) ∧ w' = w
theorem cl_part : Class (.func (.func 41) #[] #[]) part := ⟨41, rfl, by kernel_rfl, t_part⟩
theorem cl_digit : Class (.func (.func 57) #[] #[]) digit := ⟨57, rfl, by kernel_rfl, t_digit⟩
theorem cl_blank : Class (.func (.func 109) #[] #[]) blank := ⟨109, rfl, by kernel_rfl, t_blank⟩
theorem t_run {w : World} {B k : Nat} {s : Bs} {line : Int} {cv f : Value} {p : UInt8 → Bool} (hb : Blk w B (scC s k line cv) 89) (hk : k ≤ s.length) (hs : s.length < 4611686018427387904) (hf : Class f p) :
    Calls Tryz.prog 102 #[.pointer (some ⟨B, 0, none⟩), f] w fun e w' => e = .returned (.int .i64 (((s.drop k).takeWhile p).length : Int)) ∧ Ext w w' := by
  obtain ⟨i, rfl, hcb, hcl⟩ := hf
  refine ir102_calls fun ρ h0 h1 => ?_
  simp [ir102, h0]
  refine (t_rest hb hk).mono ?_
  rintro _ w1 ⟨rfl, hE⟩
  simp
  generalize hr : s.drop k = r
  have hrl : r.length ≤ s.length := by rw [← hr]; simp
  refine loopC 11 r.length (fun k ρ' w' => w' = w1 ∧ ρ' 1 = .func (.func i) #[] #[] ∧ ρ' 5 = .string (mkS r) ∧ ρ' 10 = .int .i64 r.length ∧ ∀ j (hj : j < r.length), j < k → p r[j] = true) (by simp) ⟨rfl, by simp [h1], by simp [hr], by simp [← hr], by simp⟩ ?_
  rintro k ρ' w' hk h11 ⟨rfl, h1, h5, h10, hall⟩
  by_cases hlt : k < r.length
  · simp [ir102_l2, ir102_k1, h11, h10, h5, h1, hlt]
    refine eff_callv (f := i) hcb (fs := #[]) (caps := #[]) (by simp) ?_
    simp
    refine (hcl r[k] _).mono ?_
    rintro _ _ ⟨rfl, rfl⟩
    cases hp : p r[k] with
    | true =>
      simp [ir102_k0, h11, h1, h5, h10, i64w (n := (k : Int) + 1) (by omega)]
      intro j hj hjk
      by_cases e : j = k
      · subst e; exact hp
      · exact hall j hj (by omega)
    | false =>
      simp
      exact ⟨(tw_len r k (by omega) (fun j hj h => hall j hj h) fun _ => hp).symm, hE⟩
  · have hk' : k = r.length := by omega
    subst hk'
    simp [ir102_l2, h11, h10, h5, ir102_k3]
    exact ⟨(tw_len r r.length (Nat.le_refl _) (fun j hj h => hall j hj h) fun h => by omega).symm, hE⟩
theorem retK_c1 {t n B : Nat} {ρ : Env} {w : World} {cs : Array Value} {T : TypeId} {R : Ending → World → Prop} (hp : ρ t = .pointer (some ⟨B, 0, none⟩)) (hb : Blk w B cs T) (hn : cs.size = n) (h : R (.returned (.agg cs)) w) : retK [.cellN t n] R ρ w := by
  subst hn
  simp only [retK, resVals, RV.val, hp, pv1_loadN, row_blk hb, Option.map_some, Option.bind_some]
  exact h
theorem z134 : zeroCellsOf Tryz.prog 134 = some #[.nilFunc, .nilFunc, .nilFunc] := by kernel_rfl
theorem bu134 : Tryz.prog.built 134 [(0, .func (.func 41) #[] #[]), (1, .func (.func 57) #[] #[]), (2, .func (.func 109) #[] #[])] = some #[.func (.func 41) #[] #[], .func (.func 57) #[] #[], .func (.func 109) #[] #[]] := by kernel_rfl
theorem sz134 : sizeIs Tryz.prog 134 3 = true := by kernel_rfl
theorem bu31 (a b : Int) : Tryz.prog.built 31 [(0, .int .i64 a), (1, .int .i64 b)] = some #[.int .i64 a, .int .i64 b] := by kernel_rfl
theorem bu84 (a b : Int) : Tryz.prog.built 84 [(0, .agg #[.int .i64 a, .int .i64 b])] = some #[.int .i64 a, .int .i64 b] := by kernel_rfl
theorem t_classes {w : World} : Calls Tryz.prog 98 #[] w fun e w' => e = .returned (.agg #[.func (.func 41) #[] #[], .func (.func 57) #[] #[], .func (.func 109) #[] #[]]) ∧ Ext w w' := by
  refine ir98_calls fun ρ => ?_
  simp [ir98]
  refine eff_alloc z134 fun B W hB hE hb _ => ?_
  simp [bu134]
  refine eff_storeN (B := B) (by simp) hb (by simp [Value.cells]) (by simp [Value.cells]; decide) (by simpa [Value.cells] using sz134) fun W2 hO hb2 => ?_
  simp [Value.cells] at hb2
  simp
  refine retK_c1 (by simp) hb2 rfl ?_
  exact ⟨rfl, hO.ext hE hB⟩
theorem t_fail {w : World} {B : Nat} {s : Bs} {a line e : Int} {cv : Value} (hb : Blk w B (scC s a line cv) 89) :
    Calls Tryz.prog 103 #[.pointer (some ⟨B, 0, none⟩), .int .i64 e] w fun en w' => en = .panicked [{ v := .iface 84 (.agg #[.int .i64 e, .int .i64 line]), recovered := false }] ∧ w' = w := by
  refine ir103_calls fun ρ h0 h1 => ?_
  simp [ir103, h0, h1, hb.cell, bu31, bu84]
  refine eff_panic (by simp; exact ⟨rfl, rfl⟩) ?_
  simp
end Go.L01
/- Layer 1: contracts: skip. -/
namespace Go.L01
open Go Go.Eng Go.RowKit Go.Proofs
set_option maxRecDepth 100000
set_option maxHeartbeats 2000000

/-- A scanner at its place. -/
structure Sc (base B : Nat) (W : World) (s : Bs) (k : Nat) (line : Int) (coms : List Bs) (cv : Value) : Prop where
  blk : Blk W B (scC s k line cv) 89
  own : Own base 9 1 W cv (coms.map encT)
  ne : cv.ownBlock ≠ some B
  bB : base ≤ B
  bW : base ≤ W.heap.size
  kl : k ≤ s.length
  sl : s.length ≤ 20000
  l0 : 1 ≤ line
  l1 : line ≤ (k : Int) + 1
  cl : coms.length ≤ k
/-- What a scanner's method has turned. -/
structure Tn (B : Nat) (cv cv' : Value) (W W' : World) : Prop where
  os : W'.os = W.os
  tape : W'.tape = W.tape
  output : W'.output = W.output
  size : W.heap.size ≤ W'.heap.size
  block : ∀ k, k < W.heap.size → k ≠ B → cv.ownBlock ≠ some k → W'.heap[k]? = W.heap[k]?
  own : cv'.ownBlock = cv.ownBlock ∨ ∀ k, cv'.ownBlock = some k → W.heap.size ≤ k
theorem Tn.refl (B : Nat) (cv : Value) (W : World) : Tn B cv cv W W := ⟨rfl, rfl, rfl, Nat.le_refl _, fun _ _ _ _ => rfl, .inl rfl⟩
theorem Tn.trans {B : Nat} {a b c : Value} {U V W : World} (h : Tn B a b U V) (k : Tn B b c V W) : Tn B a c U W := by
  refine ⟨k.os.trans h.os, k.tape.trans h.tape, k.output.trans h.output, Nat.le_trans h.size k.size, fun i hi hB ha => ?_, ?_⟩
  · rw [k.block i (Nat.lt_of_lt_of_le hi h.size) hB ?_, h.block i hi hB ha]
    rcases h.own with h' | h'
    · rw [h']; exact ha
    · intro e; have := h' i e; omega
  · rcases k.own with k' | k'
    · rcases h.own with h' | h'
      · exact .inl (k'.trans h')
      · exact .inr fun i hi => h' i (k' ▸ hi)
    · exact .inr fun i hi => Nat.le_trans h.size (k' i hi)
theorem Tn.ext {B : Nat} {a : Value} {U V : World} (h : Ext U V) : Tn B a a U V := ⟨h.os, h.tape, h.output, h.size, fun k hk _ _ => h.block k hk, .inl rfl⟩
theorem Tn.gb {B : Nat} {a : Value} {U V : World} (h : U.grownBy V (some B)) : Tn B a a U V := ⟨h.os, h.tape, h.output, h.size, fun k hk hB _ => h.block k hk (by simpa using hB), .inl rfl⟩
theorem Sc.ext {base B : Nat} {W W' : World} {s : Bs} {k : Nat} {line : Int} {coms : List Bs} {cv : Value} (h : Sc base B W s k line coms cv) (hE : Ext W W') : Sc base B W' s k line coms cv :=
  ⟨h.blk.ext hE, h.own.ext hE, h.ne, h.bB, Nat.le_trans h.bW hE.size, h.kl, h.sl, h.l0, h.l1, h.cl⟩
theorem Sc.line {base B : Nat} {W : World} {s : Bs} {k : Nat} {line : Int} {coms : List Bs} {cv : Value} (h : Sc base B W s k line coms cv) : 0 ≤ line ∧ line ≤ 4611686018427387904 := by
  have := h.l0; have := h.l1; have := h.kl; have := h.sl; omega
theorem Sc.short {base B : Nat} {W : World} {s : Bs} {k : Nat} {line : Int} {coms : List Bs} {cv : Value} (h : Sc base B W s k line coms cv) : s.length < 4611686018427387904 := by
  have := h.sl; omega

/-- A scanner goes over some bytes. -/
theorem sc_over {base B : Nat} {W : World} {s : Bs} {k n : Nat} {line : Int} {coms : List Bs} {cv : Value} (h : Sc base B W s k line coms cv) (hn : k + n ≤ s.length) :
    Calls Tryz.prog 99 #[.pointer (some ⟨B, 0, none⟩), .int .i64 (n : Int)] W fun e w' => e = .returned (.string (mkS ((s.drop k).take n))) ∧ Sc base B w' s (k + n) (line + ((((s.drop k).take n).count 10 : Nat) : Int)) coms cv ∧ Tn B cv cv W w' := by
  refine (t_over h.blk hn h.short h.line).mono ?_
  rintro _ w' ⟨rfl, hb, hg⟩
  have hcl : ((s.drop k).take n).count 10 ≤ n := by
    refine Nat.le_trans List.count_le_length ?_
    simp; omega
  have := h.l0; have := h.l1; have := h.cl; have := h.bW; have := hg.size
  refine ⟨rfl, ⟨by simpa using hb, h.own.kept hg (.inr h.ne), h.ne, h.bB, by omega, hn, h.sl, by omega, by simp; omega, by omega⟩, Tn.gb hg⟩

def atOf (w : World) (B : Nat) : Nat := match w.cell? ⟨B, 1, none⟩ with
  | some (.int _ n) => n.toNat
  | _ => 0
theorem Sc.at {base B : Nat} {W : World} {s : Bs} {k : Nat} {line : Int} {coms : List Bs} {cv : Value} (h : Sc base B W s k line coms cv) : atOf W B = k := by
  simp [atOf, h.blk.cell]

/-- What skip has done. -/
structure Skipped (base B : Nat) (w0 w : World) (s : Bs) (k0 : Nat) (l0 : Int) (c0 : List Bs) (v0 : Value) (k : Nat) (l : Int) (new : List Bs) (v : Value) : Prop where
  sc : Sc base B w s k l (c0 ++ new) v
  tn : Tn B v0 v w0 w
  le : k0 ≤ k
  eq : scanAt (s.drop k0) l0 = (scanAt (s.drop k) l).add [] new
def stop (s : Bs) (k : Nat) : Prop := ∀ h : k < s.length, blank s[k] = false ∧ s[k] ≠ 37

theorem drop_at {s : Bs} {k : Nat} (h : k < s.length) : s.drop k = s[k] :: s.drop (k + 1) := List.drop_eq_getElem_cons h
theorem scan_blank {c : UInt8} {r : Bs} {l : Int} (h : blank c = true) : scanAt (c :: r) l = scanAt r (l + (((c :: r).take 1).count 10 : Nat)) := by
  simp only [blank, Bool.or_eq_true, decide_eq_true_eq] at h
  by_cases h10 : c = 10
  · subst h10
    rw [scanAt_nl]; simp
  · have h2 : c = 32 ∨ c = 9 := by
      rcases h with (h | h) | h
      · exact .inl h
      · exact .inr h
      · exact absurd h h10
    rw [scanAt_sp r l h2]
    have : ((c :: r).take 1).count 10 = 0 := by simp [h10]
    rw [this]; simp

section
variable {P : Program} {Q : Ks} {d : Option Nat} {ty : TypeId} {K : Env → World → Prop} {ρ : Env} {w : World}
theorem eff_appendG {t e sz bytes : Nat} (hi : rowInfo P t = some (e, sz, bytes)) {base : Nat} (hbase : base ≤ w.heap.size) {s x : Operand} {sv xv : Value} (hs : evE ρ s = sv) (hx : evE ρ x = xv) {xs news : List Value}
    (hown : Own base e sz w sv xs) (hnew : Cells w xv sz news) (h1 : ∀ u ∈ news, u.oneCell' = true)
    (hlen : xs.length + news.length < 4611686018427387904) (hbytes : (xs.length + news.length) * bytes ≤ 140737488355328 * sz)
    (h : ∀ v' W, Own base e sz W v' (xs ++ news) → w.grownBy W sv.ownBlock → (v'.ownBlock = sv.ownBlock ∨ v'.ownBlock = some w.heap.size) → K (updO ρ d v') W) : effW P Q d (.call { callee := .builtin .append, args := #[s, x], argTypes := #[t, t] }) ty K ρ w := by
  subst hs; subst hx
  obtain ⟨v', W, hr, ho, hg, hfr⟩ := run_append (P := P) (ty := ty) hi hown hnew h1 hlen hbytes hbase
  refine effE_ok (v := v') (w' := W) ?_ (h v' W ho hg hfr)
  simp only [execOp, effOp, resolve, invoke, builtin, Sem.run_bind, Sem.run_pure, Result.andThen_ok, List.map_toArray, List.map_cons, List.map_nil, hr]
end
theorem own_one {base e sz : Nat} {w : World} {v : Value} {xs : List Value} (h : Own base e sz w v xs) : v.cells = #[v] ∧ v.oneCell = true := by
  rcases h with ⟨rfl, _⟩ | ⟨g, off, n, cap, cur, rfl, _⟩ <;> exact ⟨rfl, rfl⟩
theorem own_cells {base e sz : Nat} {w : World} {v : Value} {xs : List Value} (h : Own base e sz w v xs) : Cells w v sz xs := by
  have his := h.isl
  rcases h with ⟨rfl, rfl⟩ | ⟨g, off, n, cap, cur, rfl, hb, hg, hl, hc, hm, hs, ht⟩
  · exact ⟨rfl, by simp [slLen], fun j hj => by simp at hj⟩
  · refine ⟨his, hl, fun j hj => ?_⟩
    have h2 : ((cur.toList.drop off).take (n * sz))[j]? = xs[j]? := by rw [ht]
    rw [List.getElem?_take, if_pos (by omega), List.getElem?_drop] at h2
    simp only [slAddr, add_lit, World.cell?, hg]
    simpa [hj] using h2
theorem ri25 : rowInfo Tryz.prog 25 = some (9, 1, 16) := by kernel_rfl
theorem sz25 : sizeIs Tryz.prog 25 1 = true := by kernel_rfl
theorem idx_com : ∀ l : Bs, (Lib.indexByte l 10 = -1 ∧ comLen l = l.length) ∨ (Lib.indexByte l 10 = comLen l)
  | [] => .inl ⟨rfl, rfl⟩
  | c :: l => by
    by_cases h : c = 10
    · subst h; right; simp [Lib.indexByte, comLen]
    · have hc : comLen (c :: l) = comLen l + 1 := by simp [comLen, List.takeWhile_cons, h]
      rcases idx_com l with ⟨h1, h2⟩ | h1
      · left
        refine ⟨?_, by rw [hc, h2]; rfl⟩
        simp [Lib.indexByte, h, h1]
      · right
        rw [hc]
        have : ¬ (comLen l : Int) = -1 := by omega
        simp [Lib.indexByte, h, this, h1]
theorem com_count (s : Bs) : ((s.take (comLen s)).count 10) = 0 := by
  rw [List.count_eq_zero]
  intro h
  rw [comLen, takeWhile_all] at h
  have := List.all_eq_true.1 (List.all_takeWhile (p := fun c => decide (c ≠ 10)) (l := s)) 10 h
  simp at this

theorem scan_com37 {r t : Bs} {l : Int} (h : r = 37 :: t) : scanAt r l = (scanAt (r.drop (comLen r)) l).add [] [r.take (comLen r)] := by
  subst h
  rw [scanAt_cons, if_neg (by decide), if_neg (by decide), if_pos rfl]
def SkPost (base B : Nat) (w : World) (s : Bs) (k0 : Nat) (l0 : Int) (c0 : List Bs) (v0 : Value) : Ending → World → Prop :=
  fun e w' => e = .returned (.tuple #[]) ∧ ∃ k l new v, Skipped base B w w' s k0 l0 c0 v0 k l new v ∧ stop s k
def SkInv (base B : Nat) (w : World) (s : Bs) (k0 : Nat) (l0 : Int) (c0 : List Bs) (v0 : Value) : Env → World → Prop :=
  fun ρ' w' => ρ' 0 = .pointer (some ⟨B, 0, none⟩) ∧ ρ' 2 = .func (.func 109) #[] #[] ∧ ∃ k l new v, Skipped base B w w' s k0 l0 c0 v0 k l new v
theorem t_skip {base B : Nat} {w : World} {s : Bs} {k0 : Nat} {l0 : Int} {c0 : List Bs} {v0 : Value} (h : Sc base B w s k0 l0 c0 v0) :
    Calls Tryz.prog 83 #[.pointer (some ⟨B, 0, none⟩)] w (SkPost base B w s k0 l0 c0 v0) := by
  refine ir83_calls fun ρ h0 => ?_
  simp [ir83]
  refine t_classes.mono ?_
  rintro _ w1 ⟨rfl, hE1⟩
  simp
  refine eff_indexA (n := 3) (k := 2) (e := 133) (v := .func (.func 109) #[] #[]) (cs := #[.func (.func 41) #[] #[], .func (.func 57) #[] #[], .func (.func 109) #[] #[]]) (inf := _) (by kernel_rfl) rfl (by kernel_rfl) (by simp) (by simp; rfl) (by decide) rfl (by kernel_rfl) ?_
  simp
  refine raw_label ?_
  simp [ir83_k6]
  refine loopI (SkInv base B w s k0 l0 c0 v0) (fun _ w' => s.length - atOf w' B) ⟨by simp [h0], by simp, k0, l0, [], v0, ⟨by simpa using h.ext hE1, Tn.ext hE1, Nat.le_refl _, by simp⟩⟩ ?_
  rintro ρ' w' ⟨h0, h2, k, l, new, v, hS⟩
  have hat := hS.sc.at
  have hb := hS.sc.blk
  by_cases hlt : k < s.length
  · simp [ir83_l5, h0, hb.cell, hlt]
    intro w2 hE2
    have hb2 := hb.ext hE2
    have hS2 := hS.sc.ext hE2
    have hT2 := hS.tn.trans (Tn.ext hE2)
    simp [ir83_k4, ir83_k3]
    refine raw_ord ir83_o2_ok (Ext w2) fun w3 hE3 _ => ⟨hE3, ?_⟩
    have hc : ∀ w', Ext w2 w' → ∀ i, w'.cell? ⟨B, i, none⟩ = (scC s k l v)[i]? := fun w' h => (hb2.ext h).cell
    simp +contextual [ir83_o2, h0, h2, hc, hE3, hlt, str_ix hlt]
    refine eff_callv (f := 109) (by kernel_rfl) (fs := #[]) (caps := #[]) (by simp) ?_
    simp
    refine (t_blank s[k] w3).mono ?_
    rintro _ w3 ⟨rfl, rfl⟩
    have hS3 := hS2.ext hE3
    have hT3 := hT2.trans (Tn.ext hE3)
    cases hbl : blank s[k] with
    | true =>
      simp [ir83_k2, h0]
      refine (sc_over (n := 1) hS3 (by omega)).mono ?_
      rintro _ w4 ⟨rfl, hS4, hT4⟩
      simp
      refine ⟨⟨by simp [h0], by simp [h2], k + 1, _, new, v, hS4, hT3.trans hT4, by have := hS.le; omega, ?_⟩, ?_⟩
      · rw [hS.eq, drop_at hlt, scan_blank hbl]
      · rw [hS4.at, hat]; omega
    | false =>
      have hu := u8_eq s[k] 37 (by decide)
      have hc3 := hc w3 hE3
      have hst : ∀ w4, Ext w3 w4 → SkPost base B w s k0 l0 c0 v0 (Ending.returned (Value.tuple #[])) w4 ∨ s[k] = 37 := by
        intro w4 hE4
        by_cases h37 : s[k] = 37
        · exact .inr h37
        · exact .inl ⟨rfl, k, l, new, v, ⟨hS3.ext hE4, hT3.trans (Tn.ext hE4), hS.le, hS.eq⟩, fun _ => ⟨hbl, h37⟩⟩
      by_cases h37 : s[k] = 37
      · have h37' : (s[k].toNat : Int) = 37 := hu.2 h37
        simp [ir83_k2, h0, hc3, hlt, str_ix hlt, h37', ir83_k1]
        intro w4 hE4
        have hS4 := hS3.ext hE4
        have hT4 := hT3.trans (Tn.ext hE4)
        refine (t_rest hS4.blk hS4.kl).mono ?_
        rintro _ w5 ⟨rfl, hE5⟩
        have hS5 := hS4.ext hE5
        have hT5 := hT4.trans (Tn.ext hE5)
        simp
        refine (Tryz.indexByte (mkS (s.drop k)) 10 w5).mono ?_
        rintro _ w5 ⟨rfl, rfl⟩
        have hix : Lib.indexByte (mkS (s.drop k)).data.toList (Int.toNat 10).toUInt8 = Lib.indexByte (s.drop k) 10 := rfl
        rw [hix]
        have hn1 : 1 ≤ comLen (s.drop k) := by rw [drop_at hlt, h37]; exact comLen_pos _
        have hn2 : comLen (s.drop k) ≤ s.length - k := by have := comLen_le (s.drop k); simpa using this
        have hpast : ∀ (ρ2 : Env) (w6 : World), ρ2 0 = .pointer (some ⟨B, 0, none⟩) → ρ2 2 = .func (.func 109) #[] #[] → ρ2 3 = .int .i64 (comLen (s.drop k) : Int) → Ext w5 w6 → 
          ir83_k0.wp ⟨Tryz.prog, 75, ir83_V, []⟩ (fun ρ'' w'' => SkInv base B w s k0 l0 c0 v0 ρ'' w'' ∧ s.length - atOf w'' B < s.length - atOf w' B) (((((ksOf [] (SkPost base B w s k0 l0 c0 v0)).blk 0 (retK [] (SkPost base B w s k0 l0 c0 v0))).blk 1 (fun ρ'' w'' => SkInv base B w s k0 l0 c0 v0 ρ'' w'' ∧ s.length - atOf w'' B < s.length - atOf w' B)).blk 2 (fun ρ'' w'' => SkInv base B w s k0 l0 c0 v0 ρ'' w'' ∧ s.length - atOf w'' B < s.length - atOf w' B))) ρ2 w6 := by
          intro ρ2 w6 h0 h2 h3 hE6
          have hS6 := hS5.ext hE6
          have hT6 := hT5.trans (Tn.ext hE6)
          simp only [ir83_k0]
          refine raw_ord ir83_o8_ok (fun W => W.cell? ⟨B, 3, none⟩ = some v) fun w7 hE7 _ => ?_
          have hS7 := hS6.ext hE7
          have hT7 := hT6.trans (Tn.ext hE7)
          refine ⟨by simp [hS7.blk.cell], ?_⟩
          simp +contextual [ir83_o8, h0, h3, hS7.blk.cell]
          refine (sc_over (n := comLen (s.drop k)) hS7 (by omega)).mono ?_
          rintro _ w8 ⟨rfl, hS8, hT8⟩
          rw [com_count] at hS8
          simp [hS8.blk.cell]
          refine eff_lit si25 (by decide) (by decide) (by simp [Value.cells]) fun B9 W9 hB9 hE9 hb9 _ => ?_
          have hS9 := hS8.ext hE9
          simp [Value.cells] at hb9
          simp [hS9.blk.cell]
          have hcl := hS9.cl
          have hO9 : Own base 9 1 W9 (.slice (some ⟨B9, 0, none⟩) 1 1) [encT ((s.drop k).take (comLen (s.drop k)))] := Own.lit (cs := [encT ((s.drop k).take (comLen (s.drop k)))]) hb9 rfl (Nat.le_trans hS8.bW hB9) (by decide)
          have hnew : Cells W9 (.slice (some ⟨B9, 0, none⟩) 1 1) 1 [encT ((s.drop k).take (comLen (s.drop k)))] := own_cells hO9
          have hk9 := hS9.kl
          have hs9 := hS9.sl
          refine eff_appendG ri25 hS9.bW (by simp) (by simp) hS9.own hnew (by simp [encT]; rfl) (by simp at hcl ⊢; omega) (by simp at hcl ⊢; omega) fun v' W10 ho10 hg10 hf10 => ?_
          have hb10 : Blk W10 B _ 89 := ⟨(hg10.block B hS9.blk.lt (fun e => hS9.ne e.symm)).trans hS9.blk.heap⟩
          simp [hb10.cell]
          have h1 := own_one ho10
          refine eff_store1 (B := B) (i := 3) (by simp) hb10 (by simp) (by simpa using h1.1) (by simpa using h1.2) sz25 fun W11 hO11 hb11 => ?_
          simp at hb11
          have hne' : v'.ownBlock ≠ some B := by
            rcases hf10 with e | e
            · rw [e]; exact hS9.ne
            · rw [e]
              have := hS9.blk.lt
              intro h; cases h; omega
          have hown11 : Own base 9 1 W11 v' ((c0 ++ (new ++ [(s.drop k).take (comLen (s.drop k))])).map encT) := by
            have := ho10.kept (only_grownBy hO11) (.inr hne')
            simpa using this
          have hsz10 := hg10.size
          have hS11 : Sc base B W11 s (k + comLen (s.drop k)) l (c0 ++ (new ++ [(s.drop k).take (comLen (s.drop k))])) v' :=
            ⟨by simpa using hb11, hown11, hne', hS9.bB, by have := hS9.bW; rw [hO11.size]; omega, hk9, hs9, hS6.l0, by have := hS6.l1; omega, by have := hS6.cl; simp at this ⊢; omega⟩
          have hT10 : Tn B v v' W9 W10 := ⟨hg10.os, hg10.tape, hg10.output, hg10.size, fun k hk _ hv => hg10.block k hk (fun e => hv e.symm), by
            rcases hf10 with e | e
            · exact .inl e
            · exact .inr fun i hi => by rw [e] at hi; cases hi; exact Nat.le_refl _⟩
          have hT11 : Tn B v0 v' w W11 := (((hT7.trans hT8).trans (Tn.ext hE9)).trans hT10).trans (Tn.gb (only_grownBy hO11))
          simp
          refine ⟨⟨by simp [h0], by simp [h2], _, _, _, _, hS11, hT11, by have := hS.le; omega, ?_⟩, ?_⟩
          · rw [hS.eq]
            have : scanAt (s.drop k) l = (scanAt (s.drop (k + comLen (s.drop k))) l).add [] [(s.drop k).take (comLen (s.drop k))] := by
              rw [← List.drop_drop]
              exact scan_com37 (by rw [drop_at hlt, h37])
            rw [this, Res.add_add]
            rfl
          · rw [hS11.at, hat]; omega
        rcases idx_com (s.drop k) with ⟨e1, e2⟩ | e1
        · rw [e1]
          simp [h0]
          refine (t_rest hS5.blk hS5.kl).mono ?_
          rintro _ w6 ⟨rfl, hE6⟩
          simp
          exact hpast _ _ (by simp [h0]) (by simp [h2]) (by simp [e2]) hE6
        · rw [e1]
          simp
          exact hpast _ _ (by simp [h0]) (by simp [h2]) (by simp) (ext_refl _)
      · have h37' : ¬ (s[k].toNat : Int) = 37 := fun h => h37 (hu.1 h)
        simp [ir83_k2, h0, hc3, hlt, str_ix hlt, h37', ir83_k1]
        intro w4 hE4
        rcases hst w4 hE4 with h | h
        · exact h
        · exact absurd h h37
  · simp [ir83_l5, h0, hb.cell, hlt, ir83_k4]
    intro w2 hE2
    exact ⟨rfl, k, l, new, v, ⟨hS.sc.ext hE2, hS.tn.trans (Tn.ext hE2), hS.le, hS.eq⟩, fun h => absurd h hlt⟩
end Go.L01
/- Layer 1: contracts: next. -/
namespace Go.L01
open Go Go.Eng Go.RowKit Go.Proofs
set_option maxRecDepth 100000
set_option maxHeartbeats 2000000

theorem z38 : zeroCellsOf Tryz.prog 38 = some #[.int .u8 0, .string ⟨#[]⟩, .int .i64 0] := by kernel_rfl
theorem bu38l (l : Int) : Tryz.prog.built 38 [(2, .int .i64 l)] = some #[.int .u8 0, .string ⟨#[]⟩, .int .i64 l] := by kernel_rfl
theorem sz38 : sizeIs Tryz.prog 38 3 = true := by kernel_rfl
theorem sz5 : sizeIs Tryz.prog 5 1 = true := by kernel_rfl
theorem sz9 : sizeIs Tryz.prog 9 1 = true := by kernel_rfl
def clV : Array Value := #[.func (.func 41) #[] #[], .func (.func 57) #[] #[], .func (.func 109) #[] #[]]

/-- The panic of a scanner that gives up. -/
def brk (e l : Int) : Ending := .panicked [{ v := .iface 84 (.agg #[.int .i64 e, .int .i64 l]), recovered := false }]
def NxPost (base B : Nat) (w : World) (s : Bs) (k : Nat) (l : Int) (coms : List Bs) (cv : Value) : Ending → World → Prop := fun e w' =>
  Tn B cv cv w w' ∧
  (((first (s.drop k)).2.2 = 0 ∧ e = .returned (encK ⟨(first (s.drop k)).1, (s.drop k).take (first (s.drop k)).2.1, l⟩) ∧ Sc base B w' s (k + (first (s.drop k)).2.1) l coms cv) ∨
   ((first (s.drop k)).2.2 ≠ 0 ∧ e = brk (first (s.drop k)).2.2 l))

theorem Tn.blk {B C : Nat} {cv cv' : Value} {W W' : World} {cs : Array Value} {t : TypeId} (h : Tn B cv cv' W W') (hb : Blk W C cs t) (h1 : C ≠ B) (h2 : cv.ownBlock ≠ some C) : Blk W' C cs t := ⟨(h.block C hb.lt h1 h2).trans hb.heap⟩
theorem Sc.off {base B : Nat} {W : World} {s : Bs} {k : Nat} {line : Int} {coms : List Bs} {cv : Value} (h : Sc base B W s k line coms cv) {C : Nat} (hC : W.heap.size ≤ C) : C ≠ B ∧ cv.ownBlock ≠ some C := by
  refine ⟨?_, ?_⟩
  · have := h.blk.lt; omega
  · intro e; have := (h.own.blk C e).2; omega
theorem Sc.only {base B C : Nat} {W W' : World} {s : Bs} {k : Nat} {line : Int} {coms : List Bs} {cv : Value} (h : Sc base B W s k line coms cv) (hO : Only C W W') (h1 : C ≠ B) (h2 : cv.ownBlock ≠ some C) : Sc base B W' s k line coms cv :=
  ⟨hO.blk h.blk (Ne.symm h1), h.own.kept (only_grownBy hO) (.inr h2), h.ne, h.bB, by rw [hO.size]; exact h.bW, h.kl, h.sl, h.l0, h.l1, h.cl⟩
theorem Tn.new {B C : Nat} {a b : Value} {U V W : World} (h : Tn B a b U V) (hO : Only C V W) (hC : U.heap.size ≤ C) : Tn B a b U W :=
  ⟨hO.os.trans h.os, hO.tape.trans h.tape, hO.output.trans h.output, by rw [hO.size]; exact h.size, fun k hk h1 h2 => (hO.block k (by omega)).trans (h.block k hk h1 h2), h.own⟩

section
variable {base B : Nat} {w : World} {s : Bs} {k : Nat} {l : Int} {coms : List Bs} {cv : Value}
/-- The end: the token is laid into the result. -/
theorem nx_end {ρ : Env} {W : World} {B2 B3 : Nat} {z : Array Value} {kd : Int} {tx : Bs} {Q : Ks} {R : Ending → World → Prop} (h2 : ρ 2 = .pointer (some ⟨B2, 0, none⟩)) (h3 : ρ 3 = .pointer (some ⟨B3, 0, none⟩)) (hb2 : Blk W B2 z 38) (hz : z.size = 3)
    (hb3 : Blk W B3 #[.int .u8 kd, .string (mkS tx), .int .i64 l] 38) (hq : ∀ ρ w, Q.rt ρ w = retK [.cellN 2 3] R ρ w) (h : ∀ W', Only B2 W W' → R (.returned (.agg #[.int .u8 kd, .string (mkS tx), .int .i64 l])) W') {KK : Env → World → Prop} :
    ir84_k9.wp ⟨Tryz.prog, 114, ir84_V, []⟩ KK Q ρ W := by
  simp [ir84_k9, h3, hb3.cell]
  refine eff_storeN (B := B2) (by simpa using h2) hb2 (by simp [Value.cells, hz]) (by simp [Value.cells]) (by rw [hz]; exact sz38) fun W2 hO hb => ?_
  simp [Value.cells] at hb
  simp [hq]
  refine retK_c1 (by simpa using h2) hb rfl ?_
  exact h W2 hO

theorem first_at (hlt : k < s.length) : (s.drop k).getD 0 0 = s[k] := by rw [drop_at hlt]; rfl
theorem tok_count {k' n : Nat} {r : Bs} (h : right k' (r.take n) = true) : (r.take n).count 10 = 0 := by
  rw [List.count_eq_zero]
  intro hm
  exact (right_bytes h 10 hm).1 rfl

/-- What next keeps while it works. -/
structure Nx (base B : Nat) (w : World) (s : Bs) (k : Nat) (l : Int) (coms : List Bs) (cv : Value) (B2 B3 B4 : Nat) (kd : Int) (ρ : Env) (W : World) : Prop where
  r0 : ρ 0 = .pointer (some ⟨B, 0, none⟩)
  r2 : ρ 2 = .pointer (some ⟨B2, 0, none⟩)
  r3 : ρ 3 = .pointer (some ⟨B3, 0, none⟩)
  r4 : ρ 4 = .pointer (some ⟨B4, 0, none⟩)
  sc : Sc base B W s k l coms cv
  b2 : Blk W B2 #[.int .u8 0, .string ⟨#[]⟩, .int .i64 0] 38
  b3 : Blk W B3 #[.int .u8 kd, .string ⟨#[]⟩, .int .i64 l] 38
  b4 : Blk W B4 clV 134
  tn : Tn B cv cv w W
  n2 : w.heap.size ≤ B2 ∧ B2 < B3 ∧ B3 < B4
  n3 : B3 ≠ B ∧ B2 ≠ B
  n4 : cv.ownBlock ≠ some B3 ∧ cv.ownBlock ≠ some B2
  g : G W
  gw : G w
theorem Nx.env {B2 B3 B4 : Nat} {kd : Int} {ρ ρ' : Env} {W : World} (h : Nx base B w s k l coms cv B2 B3 B4 kd ρ W) (h0 : ρ' 0 = ρ 0) (h2 : ρ' 2 = ρ 2) (h3 : ρ' 3 = ρ 3) (h4 : ρ' 4 = ρ 4) : Nx base B w s k l coms cv B2 B3 B4 kd ρ' W :=
  ⟨h0.trans h.r0, h2.trans h.r2, h3.trans h.r3, h4.trans h.r4, h.sc, h.b2, h.b3, h.b4, h.tn, h.n2, h.n3, h.n4, h.g, h.gw⟩
theorem Nx.ext {B2 B3 B4 : Nat} {kd : Int} {ρ : Env} {W W' : World} (h : Nx base B w s k l coms cv B2 B3 B4 kd ρ W) (hE : Ext W W') : Nx base B w s k l coms cv B2 B3 B4 kd ρ W' :=
  ⟨h.r0, h.r2, h.r3, h.r4, h.sc.ext hE, h.b2.ext hE, h.b3.ext hE, h.b4.ext hE, h.tn.trans (Tn.ext hE), h.n2, h.n3, h.n4, h.g.ext hE, h.gw⟩
theorem Nx.kind {B2 B3 B4 : Nat} {kd kd' : Int} {ρ : Env} {W W' : World} (h : Nx base B w s k l coms cv B2 B3 B4 kd ρ W) (hE : Ext w W) (hO : Only B3 W W') (hb : Blk W' B3 #[.int .u8 kd', .string ⟨#[]⟩, .int .i64 l] 38) (hg : G W') : Nx base B w s k l coms cv B2 B3 B4 kd' ρ W' := by
  obtain ⟨a, b, c⟩ := h.n2
  exact ⟨h.r0, h.r2, h.r3, h.r4, h.sc.only hO h.n3.1 h.n4.1, hO.blk h.b2 (by omega), hb, hO.blk h.b4 (by omega), h.tn.new hO (by omega), h.n2, h.n3, h.n4, hg, h.gw⟩

/-- The last steps: over the token, its text laid. -/
theorem nx_over {B2 B3 B4 n kd : Nat} {ρ : Env} {W : World} (h : Nx base B w s k l coms cv B2 B3 B4 (kd : Int) ρ W) (hf : first (s.drop k) = (kd, n, 0)) (hne : s.drop k ≠ []) {d1 d2 d3 d4 vn : Nat} (hvn : ρ vn = .int .i64 (n : Int))
    (hd : 5 ≤ d1 ∧ 5 ≤ d2 ∧ 5 ≤ d3 ∧ 5 ≤ d4 ∧ d1 ≠ vn ∧ d1 ≠ d2 ∧ d3 ≠ d4) {KK : Env → World → Prop} {Q : Ks} (hK : ∀ ρ W, KK ρ W = ir84_k9.wp ⟨Tryz.prog, 114, ir84_V, []⟩ (retK [.cellN 2 3] (NxPost base B w s k l coms cv)) (ksOf [.cellN 2 3] (NxPost base B w s k l coms cv)) ρ W) :
    (IR.reg [.asg none d1 (.op1 (.fadr 0) (.op1 .nilc (.var 0))), .asg none d2 (.var vn),
      .eff none (some d3) (.call { callee := .value (.func 99), args := #[(.tmp d1), (.tmp d2)], argTypes := #[87, 3] }) 9,
      .asg none d4 (.op1 (.fadr 1) (.var 3)), .eff none none (.store 9 (.tmp d4) (.tmp d3)) 0]).wp ⟨Tryz.prog, 114, ir84_V, []⟩ KK Q ρ W := by
  have hlen := first_len (s := s.drop k) (by rw [hf]) hne
  have hright := (first_is hne (by rw [hf])).1
  rw [hf] at hlen hright
  simp only [List.length_drop] at hlen
  have hkl := h.sc.kl
  obtain ⟨e1, e2, e3, e4, e5, e6, e7⟩ := hd
  have hcnt := tok_count hright
  have f0 : (0 : Nat) ≠ d1 := by omega
  have f3 : ∀ d, 5 ≤ d → (3 : Nat) ≠ d := by omega
  have f2 : ∀ d, 5 ≤ d → (2 : Nat) ≠ d := by omega
  simp [h.r0, hvn, f0, e5, e6, e7, Ne.symm e5]
  refine (sc_over (n := n) h.sc (by omega)).mono ?_
  rintro _ W1 ⟨rfl, hS1, hT1⟩
  rw [hcnt] at hS1
  have hb31 := hT1.blk h.b3 h.n3.1 h.n4.1
  have hb21 := hT1.blk h.b2 h.n3.2 h.n4.2
  simp [h.r3, f3 _ e1, f3 _ e2, f3 _ e3, f3 _ e4]
  refine eff_store1 (B := B3) (i := 1) (by simp) hb31 (by simp) (by simp [e7]; rfl) (by simp [e7]) sz9 fun W2 hO2 hb2 => ?_
  simp [e7] at hb2
  show KK _ _
  rw [hK]
  obtain ⟨n1, n2, n3⟩ := h.n2
  refine nx_end (by simp [f2 _ e1, f2 _ e2, f2 _ e3, f2 _ e4, h.r2]) (by simp [f3 _ e1, f3 _ e2, f3 _ e3, f3 _ e4, h.r3]) (hO2.blk hb21 (by omega)) rfl hb2 (fun _ _ => rfl) fun W3 hO3 => ?_
  have hS3 := (hS1.only hO2 h.n3.1 h.n4.1).only hO3 h.n3.2 h.n4.2
  have hT3 := ((h.tn.trans hT1).new hO2 (by omega)).new hO3 n1
  refine ⟨hT3, .inl ⟨by rw [hf], ?_, ?_⟩⟩
  · rw [hf]
    simp [encK]
  · rw [hf]
    simpa using hS3
theorem Nx.brk {B2 B3 B4 : Nat} {kd : Int} {ρ : Env} {W : World} (h : Nx base B w s k l coms cv B2 B3 B4 kd ρ W) {e : Int} (he : (first (s.drop k)).2.2 = e) (h0 : e ≠ 0) : NxPost base B w s k l coms cv (brk e l) W :=
  ⟨h.tn, .inr ⟨by rw [he]; exact h0, by rw [he]⟩⟩
abbrev nxR (base B : Nat) (w : World) (s : Bs) (k : Nat) (l : Int) (coms : List Bs) (cv : Value) : Env → World → Prop := retK [.cellN 2 3] (NxPost base B w s k l coms cv)
abbrev nxQ (base B : Nat) (w : World) (s : Bs) (k : Nat) (l : Int) (coms : List Bs) (cv : Value) : Ks := ksOf [.cellN 2 3] (NxPost base B w s k l coms cv)

/-- A letter. -/
theorem nx_letter {B2 B3 B4 : Nat} {ρ : Env} {W : World} (h : Nx base B w s k l coms cv B2 B3 B4 0 ρ W) (hE : Ext w W) (hlt : k < s.length) (hc : letter s[k] = true) {Q : Ks} (hQ : ∀ ρ c w', Q.pn ρ c w' = NxPost base B w s k l coms cv (.panicked c) w') {KK : Env → World → Prop} (hK : ∀ ρ W, KK ρ W = ir84_k9.wp (Cx.mk Tryz.prog 114 ir84_V []) (nxR base B w s k l coms cv) (nxQ base B w s k l coms cv) ρ W) :
    (IR.raw (rawReg ir84_body 16)).wp (Cx.mk Tryz.prog 114 ir84_V []) (ir84_k1.wp (Cx.mk Tryz.prog 114 ir84_V []) KK Q) Q ρ W := by
  have hne : s.drop k ≠ [] := by rw [drop_at hlt]; exact List.cons_ne_nil _ _
  have hfr : first (s.drop k) = if isWord ((s.drop k).take (runL (s.drop k))) then (2, runL (s.drop k), 0) else if 12 < runL (s.drop k) then (0, 0, 12) else (1, runL (s.drop k), 0) := by
    unfold first
    rw [if_pos (by rw [first_at hlt]; exact hc)]
  have hkl := h.sc.kl
  refine raw_ord ir84_o16_ok (Ext W) (fun w3 hE3 _ => ⟨hE3, ?_⟩) (fun _ _ ρ v c w h => by rw [hQ] at h ⊢; exact h)
  have h3 := h.ext hE3
  have hc4 : ∀ w', Ext W w' → ∀ i, w'.cell? ⟨B4, i, none⟩ = clV[i]? := fun w' hh => (h.b4.ext hh).cell
  simp -implicitDefEqProofs [ir84_o16, h.r0]
  refine eff_ixaA (n := 3) (k := 0) (e := 133) (inf := _) (by kernel_rfl) rfl (by kernel_rfl) (by simp; exact h.r4) (by simp; rfl) (by decide) ?_
  simp +contextual -implicitDefEqProofs [hc4, hE3, clV]
  refine (t_run h3.sc.blk hkl h3.sc.short cl_part).mono ?_
  rintro _ W4 ⟨rfl, hE4⟩
  have h4 := h3.ext hE4
  have hE14 := (hE.trans' hE3).trans' hE4
  have hrun : ((s.drop k).takeWhile part).length = runL (s.drop k) := rfl
  simp [hrun, ir84_k1, h.r0]
  refine (t_rest h4.sc.blk hkl).mono ?_
  rintro _ W5 ⟨rfl, hE5⟩
  have h5 := h4.ext hE5
  have hE15 := hE14.trans' hE5
  have hrl : runL (s.drop k) ≤ s.length - k := by have := takeWhile_le part (s.drop k); simpa [runL] using this
  have hcut : (mkS (s.drop k)).extract 0 (runL (s.drop k)) = mkS ((s.drop k).take (runL (s.drop k))) := by
    have := cut_ext (s.drop k) 0 (runL (s.drop k))
    simpa using this
  simp [h.r3, hrl, hcut]
  refine eff_store1 (B := B3) (i := 0) (by simp) h5.b3 (by simp) rfl rfl sz5 fun W6 hO6 hb6 => ?_
  simp at hb6
  obtain ⟨n1, n2, n3⟩ := h.n2
  have hE16 : Ext w W6 := hO6.ext hE15 (by omega)
  have hg6 : G W6 := h.gw.ext hE16
  have h6 : Nx base B w s k l coms cv B2 B3 B4 ((1 : Nat) : Int) ρ W6 := h5.kind hE15 hO6 hb6 hg6
  simp
  refine (t_isWord hg6 _).mono ?_
  rintro _ W7 ⟨rfl, hE7⟩
  have h7 := h6.ext hE7
  have hE17 := hE16.trans' hE7
  cases hw : isWord ((s.drop k).take (runL (s.drop k))) with
  | true =>
    rw [hw, if_pos rfl] at hfr
    simp [h.r3]
    refine eff_store1 (B := B3) (i := 0) (by simp) h7.b3 (by simp) rfl rfl sz5 fun W8 hO8 hb8 => ?_
    simp at hb8 ⊢
    have hE18 : Ext w W8 := hO8.ext hE17 (by omega)
    have h8 : Nx base B w s k l coms cv B2 B3 B4 ((2 : Nat) : Int) ρ W8 := h7.kind hE17 hO8 hb8 (h.gw.ext hE18)
    exact nx_over (h8.env (by simp) (by simp) (by simp) (by simp)) hfr hne (by simp) (by omega) hK
  | false =>
    rw [hw, if_neg (by simp)] at hfr
    by_cases h12 : 12 < runL (s.drop k)
    · rw [if_pos h12] at hfr
      have h12' : (12 : Int) < (runL (s.drop k) : Int) := by omega
      simp [h12', h.r0]
      refine (t_fail h7.sc.blk).mono ?_
      rintro _ _ ⟨rfl, rfl⟩
      simp [hQ]
      exact h7.brk (by rw [hfr]) (by decide)
    · rw [if_neg h12] at hfr
      have h12' : ¬ (12 : Int) < (runL (s.drop k) : Int) := by omega
      simp [h12']
      exact nx_over (h7.env (by simp) (by simp) (by simp) (by simp)) hfr hne (by simp) (by omega) hK

/-- A digit. -/
theorem nx_digit {B2 B3 B4 : Nat} {ρ : Env} {W : World} (h : Nx base B w s k l coms cv B2 B3 B4 0 ρ W) (hE : Ext w W) (hlt : k < s.length) (hl : letter s[k] = false) (hc : digit s[k] = true) {Q : Ks} (hQ : ∀ ρ c w', Q.pn ρ c w' = NxPost base B w s k l coms cv (.panicked c) w') {KK : Env → World → Prop} (hK : ∀ ρ W, KK ρ W = ir84_k9.wp (Cx.mk Tryz.prog 114 ir84_V []) (nxR base B w s k l coms cv) (nxQ base B w s k l coms cv) ρ W) :
    (IR.raw (rawReg ir84_body 25)).wp (Cx.mk Tryz.prog 114 ir84_V []) (ir84_k3.wp (Cx.mk Tryz.prog 114 ir84_V []) KK Q) Q ρ W := by
  have hne : s.drop k ≠ [] := by rw [drop_at hlt]; exact List.cons_ne_nil _ _
  have hfr : first (s.drop k) = if isNumber ((s.drop k).take (digitsL (s.drop k))) then (3, digitsL (s.drop k), 0) else (0, 0, 11) := by
    unfold first
    rw [first_at hlt, if_neg (by rw [hl]; simp), if_pos hc]
  have hkl := h.sc.kl
  refine raw_ord ir84_o25_ok (Ext W) (fun w3 hE3 _ => ⟨hE3, ?_⟩) (fun _ _ ρ v c w h => by rw [hQ] at h ⊢; exact h)
  have h3 := h.ext hE3
  have hc4 : ∀ w', Ext W w' → ∀ i, w'.cell? ⟨B4, i, none⟩ = clV[i]? := fun w' hh => (h.b4.ext hh).cell
  simp -implicitDefEqProofs [ir84_o25, h.r0]
  refine eff_ixaA (n := 3) (k := 1) (e := 133) (inf := _) (by kernel_rfl) rfl (by kernel_rfl) (by simp; exact h.r4) (by simp; rfl) (by decide) ?_
  simp +contextual -implicitDefEqProofs [hc4, hE3, clV]
  refine (t_run h3.sc.blk hkl h3.sc.short cl_digit).mono ?_
  rintro _ W4 ⟨rfl, hE4⟩
  have h4 := h3.ext hE4
  have hE14 := (hE.trans' hE3).trans' hE4
  have hrun : ((s.drop k).takeWhile digit).length = digitsL (s.drop k) := rfl
  simp [hrun, ir84_k3, h.r0]
  refine (t_rest h4.sc.blk hkl).mono ?_
  rintro _ W5 ⟨rfl, hE5⟩
  have h5 := h4.ext hE5
  have hE15 := hE14.trans' hE5
  have hrl : digitsL (s.drop k) ≤ s.length - k := by have := takeWhile_le digit (s.drop k); simpa [digitsL] using this
  have hcut : (mkS (s.drop k)).extract 0 (digitsL (s.drop k)) = mkS ((s.drop k).take (digitsL (s.drop k))) := by
    have := cut_ext (s.drop k) 0 (digitsL (s.drop k))
    simpa using this
  simp [hrl, hcut]
  have hs20 := h.sc.sl
  refine (t_isNumber (h.gw.ext hE15) _ (by simp; omega)).mono ?_
  rintro _ W6 ⟨rfl, hE6⟩
  have h6 := h5.ext hE6
  have hE16 := hE15.trans' hE6
  obtain ⟨n1, n2, n3⟩ := h.n2
  cases hw : isNumber ((s.drop k).take (digitsL (s.drop k))) with
  | false =>
    rw [hw, if_neg (by simp)] at hfr
    simp [h.r0]
    refine (t_fail h6.sc.blk).mono ?_
    rintro _ _ ⟨rfl, rfl⟩
    simp [hQ]
    exact h6.brk (by rw [hfr]) (by decide)
  | true =>
    rw [hw, if_pos rfl] at hfr
    simp [ir84_k2, h.r3]
    refine eff_store1 (B := B3) (i := 0) (by simp) h6.b3 (by simp) rfl rfl sz5 fun W8 hO8 hb8 => ?_
    simp at hb8
    have hE18 : Ext w W8 := hO8.ext hE16 (by omega)
    have h8 : Nx base B w s k l coms cv B2 B3 B4 ((3 : Nat) : Int) ρ W8 := h6.kind hE16 hO8 hb8 (h.gw.ext hE18)
    exact nx_over (h8.env (by simp) (by simp) (by simp) (by simp)) hfr hne (vn := 8) (by simp) (by omega) hK

/-- The longest sign of l with which s begins. -/
def maxR (s : Bs) : List Bs → Nat
  | [] => 0
  | g :: l => if Lib.hasPrefix s g then max (maxR s l) g.length else maxR s l
theorem maxR_snoc (s : Bs) (g : Bs) : ∀ l, maxR s (l ++ [g]) = if Lib.hasPrefix s g then max (maxR s l) g.length else maxR s l
  | [] => by simp [maxR]
  | a :: l => by
    have ih := maxR_snoc s g l
    simp only [List.cons_append, maxR, ih]
    split <;> split <;> omega
theorem maxR_spec (s : Bs) : ∀ l : List Bs, (∀ g ∈ l, g.length = 1 ∨ g.length = 2) → (maxR s l = 2 ↔ ∃ g ∈ l, g.length = 2 ∧ Lib.hasPrefix s g = true) ∧ (maxR s l = 0 ↔ ∀ g ∈ l, Lib.hasPrefix s g = false) ∧ maxR s l ≤ 2
  | [], _ => by simp [maxR]
  | a :: l, h => by
    obtain ⟨h1, h2, h3⟩ := maxR_spec s l fun g hg => h g (by simp [hg])
    have ha := h a (by simp)
    simp only [maxR]
    cases hp : Lib.hasPrefix s a with
    | false =>
      simp only [Bool.false_eq_true, if_false]
      refine ⟨h1.trans ⟨fun ⟨g, hg, x⟩ => ⟨g, by simp [hg], x⟩, ?_⟩, h2.trans ⟨fun hh g hg => ?_, fun hh g hg => hh g (by simp [hg])⟩, h3⟩
      · rintro ⟨g, hg, x, y⟩
        rcases List.mem_cons.1 hg with rfl | hg
        · rw [hp] at y; cases y
        · exact ⟨g, hg, x, y⟩
      · rcases List.mem_cons.1 hg with rfl | hg
        · exact hp
        · exact hh g hg
    | true =>
      simp only [if_true]
      refine ⟨⟨fun hm => ?_, ?_⟩, ⟨fun hm => by omega, fun hh => ?_⟩, by omega⟩
      · by_cases h2' : a.length = 2
        · exact ⟨a, by simp, h2', hp⟩
        · obtain ⟨g, hg, x⟩ := h1.1 (by omega)
          exact ⟨g, by simp [hg], x⟩
      · rintro ⟨g, hg, x, y⟩
        rcases List.mem_cons.1 hg with rfl | hg
        · omega
        · have := h1.2 ⟨g, hg, x, y⟩; omega
      · have := hh a (by simp); rw [hp] at this; cases this
theorem pre_iff {s g : Bs} : Lib.hasPrefix s g = true ↔ g.length ≤ s.length ∧ s.take g.length = g := by
  unfold Lib.hasPrefix
  rw [List.isPrefixOf_iff_prefix]
  constructor
  · intro h
    exact ⟨h.length_le, (List.prefix_iff_eq_take.1 h).symm⟩
  · rintro ⟨_, h⟩
    rw [← h]; exact List.take_prefix _ _
theorem sign_len {g : Bs} (h : g ∈ signsL) : g.length = 1 ∨ g.length = 2 := (signs2 g h).1
theorem maxR_signs {s : Bs} (h0 : s ≠ []) : maxR s signsL = if 1 < s.length ∧ isSign (s.take 2) = true then 2 else if isSign (s.take 1) then 1 else 0 := by
  have hl : 0 < s.length := List.length_pos_iff.2 h0
  obtain ⟨h1, h2, h3⟩ := maxR_spec s signsL fun g hg => sign_len hg
  have e2 : (∃ g ∈ signsL, g.length = 2 ∧ Lib.hasPrefix s g = true) ↔ (1 < s.length ∧ isSign (s.take 2) = true) := by
    constructor
    · rintro ⟨g, hg, x, y⟩
      obtain ⟨y1, y2⟩ := pre_iff.1 y
      rw [x] at y1 y2
      exact ⟨by omega, by rw [y2]; simpa [isSign] using hg⟩
    · rintro ⟨x, y⟩
      have hlen : (s.take 2).length = 2 := by rw [List.length_take]; omega
      exact ⟨s.take 2, by simpa [isSign] using y, hlen, pre_iff.2 ⟨by omega, by rw [hlen]⟩⟩
  have e1 : isSign (s.take 1) = true → maxR s signsL ≠ 0 := by
    intro hs hz
    have hlen : (s.take 1).length = 1 := by rw [List.length_take]; omega
    have := h2.1 hz (s.take 1) (by simpa [isSign] using hs)
    rw [pre_iff.2 ⟨by omega, by rw [hlen]⟩] at this; cases this
  split
  · rename_i h
    exact h1.2 (e2.2 h)
  · rename_i h
    have hn2 : maxR s signsL ≠ 2 := fun hh => h (e2.1 (h1.1 hh))
    split
    · rename_i hs
      have := e1 hs; omega
    · rename_i hs
      refine h2.2 fun g hg => ?_
      cases hp : Lib.hasPrefix s g with
      | false => rfl
      | true =>
        obtain ⟨y1, y2⟩ := pre_iff.1 hp
        rcases sign_len hg with hx | hx
        · rw [hx] at y2
          exact absurd (by rw [y2]; simpa [isSign] using hg) hs
        · exact absurd (h1.2 ⟨g, hg, hx, hp⟩) hn2

/-- A sign. -/
theorem nx_sign {B2 B3 B4 : Nat} {ρ : Env} {W : World} (h : Nx base B w s k l coms cv B2 B3 B4 0 ρ W) (hE : Ext w W) (hlt : k < s.length) (hl : letter s[k] = false) (hc : digit s[k] = false) {Q : Ks} (hQ : ∀ ρ c w', Q.pn ρ c w' = NxPost base B w s k l coms cv (.panicked c) w') {KK : Env → World → Prop} (hK : ∀ ρ W, KK ρ W = ir84_k9.wp (Cx.mk Tryz.prog 114 ir84_V []) (nxR base B w s k l coms cv) (nxQ base B w s k l coms cv) ρ W) :
    (IR.reg [.asg none 9 (.const (.int .i64 0)),
           .eff none (some 30) (.call { callee := .value (.func 20), args := #[], argTypes := #[] }) 25,
           .asg none 31 (.op1 .lenS (.var 30)),
           .asg none 32 (.const (.int .i64 0))]).wp (Cx.mk Tryz.prog 114 ir84_V []) ((IR.block 1 (.loop ir84_l6)).wp (Cx.mk Tryz.prog 114 ir84_V []) (ir84_k8.wp (Cx.mk Tryz.prog 114 ir84_V []) KK Q) Q) Q ρ W := by
  have hne : s.drop k ≠ [] := by rw [drop_at hlt]; exact List.cons_ne_nil _ _
  have hfr : first (s.drop k) = if 1 < (s.drop k).length ∧ isSign ((s.drop k).take 2) = true then (4, 2, 0) else if isSign ((s.drop k).take 1) then (4, 1, 0) else (0, 0, 10) := by
    unfold first
    rw [first_at hlt, if_neg (by rw [hl]; simp), if_neg (by rw [hc]; simp)]
  have hkl := h.sc.kl
  simp
  refine (t_signs (h.gw.ext hE)).mono ?_
  rintro _ W1 ⟨v, rfl, hO, hE1⟩
  have hl1 := Own.sl (enc := encT) (xs := signsL) hO (by decide)
  simp [hl1.is, hl1.len]
  refine loopC 32 21 (fun j ρ' W' => Ext W1 W' ∧ ρ' 0 = ρ 0 ∧ ρ' 2 = ρ 2 ∧ ρ' 3 = ρ 3 ∧ ρ' 4 = ρ 4 ∧ ρ' 30 = v ∧ ρ' 31 = .int .i64 21 ∧ ρ' 9 = .int .i64 (maxR (s.drop k) (signsL.take j) : Nat)) (by simp) ⟨ext_refl _, by simp, by simp, by simp, by simp, by simp, by simp [signsL_len], by simp [maxR]⟩ ?_
  rintro j ρ' W' hj h32 ⟨hE', h0, h2, h3, h4, h30, h31, h9⟩
  have hN := (h.ext (hE1.trans' hE')).env h0 h2 h3 h4
  by_cases hlt' : j < 21
  · have hltI : (j : Int) < 21 := by omega
    have hltL : j < signsL.length := hlt'
    have hl' := hl1.ext hE'
    simp [ir84_l6, ir84_k5, h31, h32, hltI, hlt', h30, hl'.is, hl'.len, hltL, hl'.cell j hltL, encT, hN.r0]
    refine (t_rest hN.sc.blk hkl).mono ?_
    rintro _ W2 ⟨rfl, hE2⟩
    simp
    refine (Tryz.hasPrefix (mkS (s.drop k)) (mkS signsL[j]) W2).mono ?_
    rintro _ W2 ⟨rfl, rfl⟩
    have hmx : maxR (s.drop k) (signsL.take (j + 1)) = if Lib.hasPrefix (s.drop k) signsL[j] then max (maxR (s.drop k) (signsL.take j)) signsL[j].length else maxR (s.drop k) (signsL.take j) := by
      rw [List.take_add_one, List.getElem?_eq_getElem hltL]
      exact maxR_snoc _ _ _
    cases hp : Lib.hasPrefix (s.drop k) signsL[j] with
    | true =>
      rw [hp, if_pos rfl] at hmx
      simp [hp, h9]
      refine eff_max (a := (maxR (s.drop k) (signsL.take j) : Nat)) (b := (signsL[j].length : Nat)) (k := .i64) (by simp) (by simp) ?_
      simp [ir84_k4, h32, i64w (n := (j : Int) + 1) (by omega), h0, h2, h3, h4, h30, h31]
      refine ⟨hE'.trans' hE2, ?_⟩
      rw [hmx]
      split <;> omega
    | false =>
      rw [hp, if_neg (by simp)] at hmx
      simp [hp, ir84_k4, h32, i64w (n := (j : Int) + 1) (by omega), h0, h2, h3, h4, h30, h31, h9, hmx]
      exact hE'.trans' hE2
  · have hj' : j = 21 := by omega
    subst hj'
    have hmx : maxR (s.drop k) (signsL.take 21) = maxR (s.drop k) signsL := rfl
    rw [hmx] at h9
    have hcase : (maxR (s.drop k) signsL = 0 ∧ first (s.drop k) = (0, 0, 10)) ∨ (maxR (s.drop k) signsL ≠ 0 ∧ first (s.drop k) = (4, maxR (s.drop k) signsL, 0)) := by
      rw [hfr, maxR_signs hne]
      split
      · exact .inr ⟨by decide, rfl⟩
      · split
        · exact .inr ⟨by decide, rfl⟩
        · exact .inl ⟨rfl, rfl⟩
    generalize maxR (s.drop k) signsL = m at h9 hcase
    rcases hcase with ⟨rfl, hf⟩ | ⟨hm, hf⟩
    · simp [ir84_l6, h31, h32, ir84_k8, h9, hN.r0]
      refine (t_fail hN.sc.blk).mono ?_
      rintro _ _ ⟨rfl, rfl⟩
      simp [hQ]
      exact hN.brk (by rw [hf]) (by decide)
    · simp [ir84_l6, h31, h32, ir84_k8, h9, hm, ir84_k7, hN.r3]
      obtain ⟨n1, n2, n3⟩ := h.n2
      have hE3 : Ext w W' := (hE.trans' hE1).trans' hE'
      refine eff_store1 (B := B3) (i := 0) (by simp) hN.b3 (by simp) rfl rfl sz5 fun W8 hO8 hb8 => ?_
      simp at hb8
      have hE18 : Ext w W8 := hO8.ext hE3 (by omega)
      have h8 : Nx base B w s k l coms cv B2 B3 B4 ((4 : Nat) : Int) ρ' W8 := hN.kind hE3 hO8 hb8 (h.gw.ext hE18)
      exact nx_over (h8.env (by simp) (by simp) (by simp) (by simp)) hf hne (vn := 9) (by simp [h9]) (by omega) hK
theorem t_next (hG : G w) (h : Sc base B w s k l coms cv) (hlt : k < s.length) : Calls Tryz.prog 84 #[.pointer (some ⟨B, 0, none⟩)] w (NxPost base B w s k l coms cv) := by
  have hs64 := h.short
  have hs20 := h.sl
  have hfk := first_at hlt
  have hne : s.drop k ≠ [] := by rw [drop_at hlt]; exact List.cons_ne_nil _ _
  refine ir84_calls fun ρ h0 => ?_
  simp [ir84]
  refine eff_alloc z38 fun B2 W2 hB2 hE2 hb2 _ => ?_
  have hS2 := h.ext hE2
  simp [h0, hS2.blk.cell, bu38l]
  refine eff_alloc z38 fun B3 W3 hB3 hE3 hb3 _ => ?_
  have hS3 := hS2.ext hE3
  have hb23 := hb2.ext hE3
  simp
  refine eff_storeN (B := B3) (by simp) hb3 (by simp [Value.cells]) (by simp [Value.cells]) (by simpa [Value.cells] using sz38) fun W4 hO4 hb34 => ?_
  have hl23 : B2 < B3 := by have := hb2.lt; omega
  have o3 := hS2.off hB3
  have o2 := h.off hB2
  have hS4 := hS3.only hO4 o3.1 o3.2
  have hb24 := hO4.blk hb23 (by omega)
  have hT4 : Tn B cv cv w W4 := (Tn.ext (hE2.trans' hE3)).new hO4 (by have := hE2.size; omega)
  simp [Value.cells] at hb34
  simp
  refine t_classes.mono ?_
  rintro _ W5 ⟨rfl, hE5⟩
  simp
  refine eff_alloc z134 fun B4 W6 hB4 hE6 hb46 _ => ?_
  simp
  have hb35 := hb34.ext hE5
  have hl4 : B3 < B4 := by have := hb35.lt; omega
  refine eff_storeN (B := B4) (by simp) hb46 (by simp [Value.cells]) (by simp [Value.cells]; decide) (by simpa [Value.cells] using sz134) fun W7 hO7 hb47 => ?_
  have hS5 := hS4.ext hE5
  have o4 := hS5.off hB4
  have hS7 := (hS5.ext hE6).only hO7 o4.1 o4.2
  have hb37 := hO7.blk (hb35.ext hE6) (by omega)
  have hb27 := hO7.blk ((hb24.ext hE5).ext hE6) (by omega)
  have hT7 : Tn B cv cv w W7 := ((hT4.trans (Tn.ext hE5)).trans (Tn.ext hE6)).new hO7 (by have := hE2.size; omega)
  have hE17 : Ext w W7 := by
    have e4 : Ext w W4 := hO4.ext (hE2.trans' hE3) (by have := hE2.size; omega)
    exact hO7.ext ((e4.trans' hE5).trans' hE6) (by have := hE2.size; omega)
  simp [Value.cells] at hb47
  simp [h0, hS7.blk.cell, hlt, str_ix hlt]
  intro W8 hE8
  have hN : ∀ ρ8 : Env, ρ8 0 = .pointer (some ⟨B, 0, none⟩) → ρ8 2 = .pointer (some ⟨B2, 0, none⟩) → ρ8 3 = .pointer (some ⟨B3, 0, none⟩) → ρ8 4 = .pointer (some ⟨B4, 0, none⟩) → Nx base B w s k l coms cv B2 B3 B4 0 ρ8 W8 := fun ρ8 a0 a2 a3 a4 =>
    ⟨a0, a2, a3, a4, hS7.ext hE8, hb27.ext hE8, hb37.ext hE8, hb47.ext hE8, hT7.trans (Tn.ext hE8), ⟨hB2, hl23, hl4⟩, ⟨o3.1, o2.1⟩, ⟨o3.2, o2.2⟩, hG.ext (hE17.trans' hE8), hG⟩
  have hE18 := hE17.trans' hE8
  simp [ir84_k10]
  refine (t_letter s[k] W8).mono ?_
  rintro _ W8 ⟨rfl, rfl⟩
  cases hl : letter s[k] with
  | true =>
    simp
    refine nx_letter (hN _ (by simp [h0]) (by simp) (by simp) (by simp)) hE18 hlt hl (fun _ _ _ => rfl) fun _ _ => rfl
  | false =>
    simp
    refine (t_digit s[k] W8).mono ?_
    rintro _ W8 ⟨rfl, rfl⟩
    cases hc : digit s[k] with
    | true =>
      simp
      refine nx_digit (hN _ (by simp [h0]) (by simp) (by simp) (by simp)) hE18 hlt hl hc (fun _ _ _ => rfl) fun _ _ => rfl
    | false =>
      simp only [callK]
      refine nx_sign (hN _ (by simp [h0]) (by simp) (by simp) (by simp)) hE18 hlt hl hc (fun _ _ _ => rfl) fun _ _ => rfl
end
end Go.L01
