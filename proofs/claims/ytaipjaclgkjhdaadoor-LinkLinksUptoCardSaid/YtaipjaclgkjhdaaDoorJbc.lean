/- Texts of mine for the claims about layer 16 (link), joined: L16T, L16U, L16V, L16W, L16X. -/
import Derived.Test.YtaipjaclgkjhdaaDoorJba
import Derived.Test.YtaipjaclgkjhdaaDoorJbb
set_option linter.all false
set_option linter.unusedSimpArgs false
set_option linter.unusedVariables false
/- Layer 16: contracts of the reference: Number, Part. -/
namespace Go.L16
open Go Go.Eng Go.RowKit Go.Proofs
set_option maxRecDepth 10000

def numN (i : Img) (s : ByteArray) : Int := if checkImage i = 0 then (if 0 ≤ idx i.names s then idx i.names s else 0) else 0
def numIs (i : Img) (s : ByteArray) : Bool := decide (checkImage i = 0) && decide (0 ≤ idx i.names s)

theorem ref_Number {w : World} {a b c : Value} {i : Img} (s : ByteArray) (hi : ImgC w a b c i) :
    Calls Tryd.prog 16 #[.agg #[a, b, c], .string s] w fun e w' => e = .returned (.tuple #[.int .i64 (numN i s), .bool (numIs i s), .int .i64 (checkImage i)]) ∧ Ext w w' := by
  refine ir16_calls fun ρ h0 h1 => ?_
  simp [ir16, h0]
  refine eff_box fun B W hB hE hb _ => ?_
  simp [h0, Value.cells] at hb
  simp [hb.cell]
  refine (ref_CheckImage (hi.ext hE)).mono ?_
  rintro _ w1 ⟨rfl, hw1⟩
  by_cases hc : checkImage i = 0
  · simp [hc, ir16_k0, (hb.ext hw1).cell, h1]
    refine (ref_index s ((hi.ext hE).ext hw1).names.1).mono ?_
    rintro _ _ ⟨rfl, rfl⟩
    simp
    refine eff_max (by rfl) (by rfl) ?_
    simp [numN, numIs, hc]
    refine ⟨?_, hE.trans' hw1⟩
    split <;> split <;> omega
  · simp [hc, numN, numIs]
    exact hE.trans' hw1

/-- Where the code of a name ends. -/
def partEnd (i : Img) (n : Nat) : Int := if n + 1 < i.names.length then i.starts.getD (n + 1) 0 else i.code.length
def partE (i : Img) (n : Int) : Int := if checkImage i = 0 then (if 0 ≤ n ∧ n < i.names.length then 0 else 1) else checkImage i
def partL (i : Img) (n : Int) : List UInt8 := if partE i n = 0 then (i.code.take (partEnd i n.toNat).toNat).drop (i.starts.getD n.toNat 0).toNat else []

theorem checkImage_cases (i : Img) : checkImage i = 0 ∨ checkImage i = 162 := by unfold checkImage; split <;> simp

/-- What is known of an image that is checked. -/
structure ImgOk (i : Img) : Prop where
  len : i.names.length ≤ 60
  starts : i.starts.length = i.names.length
  code : i.code.length ≤ 1200000
  name : ∀ (k : Nat) (h : k < i.names.length), isName i.names[k] = true
  asc : ∀ (k : Nat) (h : k + 1 < i.names.length), ltS i.names[k] i.names[k + 1] = true
  first : ∀ (h : 0 < i.starts.length), i.starts[0] = 0
  mono : ∀ (k : Nat) (h : k + 1 < i.starts.length), i.starts[k] ≤ i.starts[k + 1]
  top : ∀ (k : Nat) (h : k < i.starts.length), i.starts[k] ≤ i.code.length
theorem imgOk_of {i : Img} (h : checkImage i = 0) : ImgOk i := by
  unfold checkImage at h
  split at h
  · rename_i hc
    simp only [Bool.and_eq_true, imgShape, Bool.not_eq_true', Bool.or_eq_false_iff, decide_eq_false_iff_not, Bool.and_eq_false_imp, decide_eq_true_eq, List.all_eq_true, List.mem_range] at hc
    obtain ⟨⟨⟨⟨h1, h2⟩, h3⟩, h4⟩, hall⟩ := hc
    have hlen : i.starts.length = i.names.length := by omega
    have bad : ∀ k, k < i.names.length → badAt i k = false := fun k hk => by simpa using hall k hk
    have out : ∀ k (hk : k < i.names.length), isName i.names[k] = true ∧ (0 < k → ltS (i.names.getD (k - 1) .empty) i.names[k] = true) ∧ (k = 0 → i.starts.getD k 0 = 0) ∧ (0 < k → i.starts.getD (k - 1) 0 ≤ i.starts.getD k 0) ∧ i.starts.getD k 0 ≤ i.code.length := by
      intro k hk
      have hb := bad k hk
      simp only [badAt, Bool.or_eq_false_iff, Bool.not_eq_false', Bool.and_eq_false_imp, decide_eq_true_eq, decide_eq_false_iff_not] at hb
      obtain ⟨⟨⟨⟨b1, b2⟩, b3⟩, b4⟩, b5⟩ := hb
      have e : i.names.getD k .empty = i.names[k] := by simp [hk]
      rw [e] at b1 b2
      exact ⟨b1, b2, fun h0 => by have := b3 h0; omega, fun h0 => by have := b4 h0; omega, by omega⟩
    refine ⟨by omega, hlen, by omega, fun k hk => (out k hk).1, fun k hk => ?_, fun h0 => ?_, fun k hk => ?_, fun k hk => ?_⟩
    · have := (out (k + 1) hk).2.1 (by omega)
      simpa [show k < i.names.length by omega] using this
    · have := (out 0 (by omega)).2.2.1 rfl
      simpa [h0] using this
    · have := (out (k + 1) (by omega)).2.2.2.1 (by omega)
      simpa [show k < i.starts.length by omega, hk] using this
    · have := (out k (by omega)).2.2.2.2
      simpa [hk] using this
  · cases h
theorem ImgOk.nonneg {i : Img} (h : ImgOk i) : ∀ (k : Nat) (hk : k < i.starts.length), 0 ≤ i.starts[k]
  | 0, hk => by rw [h.first hk]; omega
  | k + 1, hk => Int.le_trans (ImgOk.nonneg h k (by omega)) (h.mono k hk)

theorem ref_Part {w : World} {a b c : Value} {i : Img} (n : Int) (hn : -9223372036854775808 ≤ n ∧ n ≤ 9223372036854775807) (hi : ImgC w a b c i) :
    Calls Tryd.prog 18 #[.agg #[a, b, c], .int .i64 n] w fun e w' => ∃ x, e = .returned (.tuple #[x, .int .i64 (partE i n)]) ∧ Sl encB w' x (partL i n) ∧ Ext w w' := by
  refine ir18_calls fun ρ h0 h1 => ?_
  simp [ir18, h0]
  refine eff_box fun B W hB hE hb _ => ?_
  simp [h0, Value.cells] at hb
  simp [hb.cell]
  refine (ref_CheckImage (hi.ext hE)).mono ?_
  rintro _ w1 ⟨rfl, hw1⟩
  have hb1 := hb.ext hw1
  have hi1 := (hi.ext hE).ext hw1
  by_cases hc : checkImage i = 0
  · have hok := imgOk_of hc
    simp [hc, ir18_k3, hb1.cell, h1, hi1.names.1.is, hi1.names.1.len]
    by_cases hr : 0 ≤ n ∧ n < i.names.length
    · obtain ⟨k, rfl⟩ : ∃ k : Nat, n = k := ⟨n.toNat, by omega⟩
      have hk : k < i.names.length := by omega
      have hks : k < i.starts.length := by rw [hok.starts]; exact hk
      have hlen := hok.len
      have hst := hok.starts
      have h0s := hok.nonneg k hks
      have hts := hok.top k hks
      have hpe : partE i k = 0 := by simp [partE, hc, hk]
      obtain ⟨s0, hs0⟩ : ∃ s0 : Nat, i.starts[k] = s0 := ⟨i.starts[k].toNat, by omega⟩
      obtain ⟨e0, he0, hse, hec⟩ : ∃ e0 : Nat, partEnd i k = e0 ∧ s0 ≤ e0 ∧ e0 ≤ i.code.length := by
        unfold partEnd
        split
        · rename_i hk1
          have h1 := hok.mono k (by omega)
          have h2 := hok.top (k + 1) (by omega)
          have h3 := hok.nonneg (k + 1) (by omega)
          have h4 : i.starts.getD (k + 1) 0 = i.starts[k + 1] := by simp [show k + 1 < i.starts.length by omega]
          rw [h4]
          exact ⟨i.starts[k + 1].toNat, by omega, by omega, by omega⟩
        · exact ⟨i.code.length, rfl, by omega, Nat.le_refl _⟩
      have fin : ∀ ρ2 : Env, ρ2 1 = .int .i64 k → ρ2 2 = .pointer (some ⟨B, 0, none⟩) → ρ2 7 = .int .i64 e0 →
          ir18_k1.wp ⟨Tryd.prog, 48, ir18_V, []⟩ (retK [.tmp 4, .tmp 5] fun e w' => ∃ x, e = .returned (.tuple #[x, .int .i64 (partE i k)]) ∧ Sl encB w' x (partL i k) ∧ Ext w w') (ksOf [.tmp 4, .tmp 5] fun e w' => ∃ x, e = .returned (.tuple #[x, .int .i64 (partE i k)]) ∧ Sl encB w' x (partL i k) ∧ Ext w w') ρ2 w1 := by
        intro ρ2 h1 h2 h7
        have hcap := isSl_len_cap hi1.code.is
        have hcl := hi1.code.len
        have hcode := hok.code
        simp only [ir18_k1, wpi_seq]
        refine raw_ord ir18_o9_ok (Ext w1) fun w2 hw2 _ => ⟨hw2, ?_⟩
        have hs2 := (hi1.starts.1.ext hw2).cell k hks
        have hb2 : ∀ w', Ext w1 w' → ∀ j, w'.cell? ⟨B, j, none⟩ = #[a, b, c][j]? := fun w' h' j => (hb1.ext h').cell j
        have hs2 : ∀ w', Ext w1 w' → w'.cell? (slAddr b k) = some (.int .i64 s0) := fun w' h' => by rw [(hi1.starts.1.ext h').cell k hks, hs0]; rfl
        simp +contextual [ir18_o9, h1, h2, h7, hb2, hw2, hs2, hi1.starts.1.is, hi1.starts.1.len, hks, hi1.code.is, hse, (show e0 ≤ slCap c by omega)]
        refine eff_lit si24 (by decide) (by decide) (by simp) fun B3 W3 hB3 hE3 hb3 _ => ?_
        simp at hb3
        have hE13 := hw2.trans' hE3
        refine ⟨hE13, ?_⟩
        have hsub := (hi1.code.ext hE13).sub (l := s0) (r := e0) (m := slCap c) hse hec (by omega) (Nat.le_refl _)
        refine eff_append ri24 hE13 (by rfl) (by rfl) (Own.lit (n := 0) (sz := 1) hb3 (by simp) (by have := hw2.size; omega) (by decide)) hsub.cells (one_map (fun _ => rfl) _) (by simp; omega) (by simp; omega) fun u4 W4 hE4 ho4 _ _ => ?_
        simp [ir18_k0, hpe]
        refine ⟨?_, (hE.trans' hw1).trans' hE4⟩
        have hl : partL i k = (i.code.take e0).drop s0 := by simp [partL, hpe, he0, hks, hs0]
        rw [hl]
        exact Own.sl (by simpa using ho4) (by simp; omega)
      simp [(show ¬ (k : Int) < 0 by omega), hk, (show ¬ i.names.length ≤ k by omega), ir18_k2, hb1.cell, hi1.code.is, hi1.code.len, h1, hi1.names.1.is, hi1.names.1.len, i64w (n := (k : Int) + 1) (by omega)]
      by_cases hk1 : k + 1 < i.names.length
      · have hk1s : k + 1 < i.starts.length := by omega
        have hc1 := hi1.starts.1.cell (k + 1) hk1s
        have he : i.starts[k + 1] = e0 := by rw [← he0, partEnd, if_pos hk1]; simp [hk1s]
        rw [he] at hc1
        simp [hk1, hi1.starts.1.is, hi1.starts.1.len, hk1s, hc1, encI]
        exact fin _ (by simp [h1]) (by simp) (by simp)
      · have he : (i.code.length : Int) = e0 := by rw [← he0, partEnd, if_neg hk1]
        simp [hk1]
        exact fin _ (by simp [h1]) (by simp) (by simp [he])
    · have hpe : partE i n = 1 := by simp [partE, hc]; omega
      have : n < 0 ∨ (i.names.length : Int) ≤ n := by omega
      rw [if_pos this]
      refine ⟨_, ⟨rfl, hpe.symm⟩, ?_, hE.trans' hw1⟩
      simp [partL, hpe]
      exact Sl.nil _ _
  · simp [hc, partE, partL]
    exact ⟨Sl.nil _ _, hE.trans' hw1⟩
end Go.L16
/- Layer 16: contracts of the reference: Write. -/
namespace Go.L16
open Go Go.Eng Go.RowKit Go.Proofs
set_option maxRecDepth 10000

theorem u8nat (m : Nat) : Value.int .u8 (IntKind.u8.wrap (m : Int)) = encB (UInt8.ofNat m) := by
  unfold IntKind.wrap encB
  simp [IntKind.bits, IntKind.signed]

theorem u8wrap (x : Int) : IntKind.u8.wrap x = x % 256 := by
  unfold IntKind.wrap; simp [IntKind.bits, IntKind.signed]
theorem shr24 (m : Nat) : (m : Int).fdiv (2 ^ min 24 IntKind.i64.bits) = ((m / 16777216 : Nat) : Int) := by
  rw [show (2 ^ min 24 IntKind.i64.bits : Int) = 16777216 from rfl, Int.fdiv_eq_ediv_of_nonneg _ (by omega)]; omega
theorem shr16 (m : Nat) : (m : Int).fdiv (2 ^ min 16 IntKind.i64.bits) = ((m / 65536 : Nat) : Int) := by
  rw [show (2 ^ min 16 IntKind.i64.bits : Int) = 65536 from rfl, Int.fdiv_eq_ediv_of_nonneg _ (by omega)]; omega
theorem shr8 (m : Nat) : (m : Int).fdiv (2 ^ min 8 IntKind.i64.bits) = ((m / 256 : Nat) : Int) := by
  rw [show (2 ^ min 8 IntKind.i64.bits : Int) = 256 from rfl, Int.fdiv_eq_ediv_of_nonneg _ (by omega)]; omega
def be32 (n : Nat) : List UInt8 := [UInt8.ofNat (n / 16777216), UInt8.ofNat (n / 65536), UInt8.ofNat (n / 256), UInt8.ofNat n]
def entryL (s : ByteArray) (n : Int) : List UInt8 := UInt8.ofNat s.size :: s.data.toList ++ be32 n.toNat
def headL (i : Img) (k : Nat) : List UInt8 := UInt8.ofNat i.names.length :: (List.range k).flatMap fun j => entryL (i.names.getD j .empty) (i.starts.getD j 0)
def writeL (i : Img) : List UInt8 := if checkImage i = 0 then headL i i.names.length ++ i.code else []

theorem headL_succ (i : Img) (k : Nat) : headL i (k + 1) = headL i k ++ entryL (i.names.getD k .empty) (i.starts.getD k 0) := by
  simp [headL, List.range_succ]
theorem isName_size {s : ByteArray} (h : isName s = true) : 1 ≤ s.size ∧ s.size ≤ 120 := by
  simp only [isName, Bool.and_eq_true, decide_eq_true_eq] at h
  exact ⟨h.1.2, h.2⟩
theorem headL_len {i : Img} (h : ImgOk i) : ∀ k, k ≤ i.names.length → (headL i k).length ≤ 1 + k * 125
  | 0, _ => by simp [headL]
  | k + 1, hk => by
    have ih := headL_len h k (by omega)
    have hs := isName_size (h.name k (by omega))
    have e : i.names.getD k .empty = i.names[k] := by simp [show k < i.names.length by omega]
    rw [headL_succ, e]
    simp [entryL, be32]
    omega

theorem ref_Write {w : World} {a b c : Value} {i : Img} (hi : ImgC w a b c i) :
    Calls Tryd.prog 23 #[.agg #[a, b, c]] w fun e w' => ∃ x, e = .returned (.tuple #[x, .int .i64 (checkImage i)]) ∧ Sl encB w' x (writeL i) ∧ Ext w w' := by
  refine ir23_calls fun ρ h0 => ?_
  simp [ir23, h0]
  refine eff_box fun B W hB hE hb _ => ?_
  simp [h0, Value.cells] at hb
  simp [hb.cell]
  refine (ref_CheckImage (hi.ext hE)).mono ?_
  rintro _ w1 ⟨rfl, hw1⟩
  have hb1 := hb.ext hw1
  have hi1 := (hi.ext hE).ext hw1
  by_cases hc : checkImage i = 0
  · have hok := imgOk_of hc
    have hlen := hok.len
    have hst := hok.starts
    have hcode := hok.code
    simp [hc, ir23_k4, hb1.cell, hi1.names.1.is, hi1.names.1.len, u8nat]
    refine eff_lit si24 (by decide) (by decide) (by simp [encB, Value.cells]) fun B2 W2 hB2 hE2 hb2 _ => ?_
    simp [encB, Value.cells] at hb2
    simp
    refine loopC 6 i.names.length (fun k ρ' w' => Ext w1 w' ∧ ρ' 1 = .pointer (some ⟨B, 0, none⟩) ∧ Own w1.heap.size 5 1 w' (ρ' 5) ((headL i k).map encB)) (by simp) ⟨hE2, by simp, by simpa [headL, encB] using Own.lit (n := 1) (sz := 1) hb2 (by simp) hB2 (by decide)⟩ ?_
    rintro k ρ' w' hk h6 ⟨hE3, h1, hO⟩
    have hb3 := (hb1.ext hE3).cell
    have hi3 := hi1.ext hE3
    have hhl := headL_len hok k hk
    by_cases hlt : k < i.names.length
    · have hks : k < i.starts.length := by omega
      have hnm := isName_size (hok.name k hlt)
      obtain ⟨s0, hs0⟩ : ∃ s0 : Nat, i.starts[k] = s0 := ⟨i.starts[k].toNat, by have := hok.nonneg k hks; omega⟩
      have hcs := hi3.starts.1.cell k hks
      rw [hs0] at hcs
      simp [ir23_l2, ir23_k1, h6, h1, hb3, hi3.names.1.is, hi3.names.1.len, hlt, hi3.names.1.cell k hlt, u8nat]
      refine eff_lit si24 (by decide) (by decide) (by simp [encB, Value.cells]) fun B4 W4 hB4 hE4 hb4 _ => ?_
      simp [encB, Value.cells] at hb4
      simp
      refine eff_append ri24 (hE3.trans' hE4) (by rfl) (by rfl) (by simpa using hO.ext hE4) (by simpa using hb4.cells (n := 1) (sz := 1) (by simp)) (by simp [Value.oneCell']) (by simp; omega) (by simp; omega) fun u5 W5 hE5 ho5 _ _ => ?_
      have hb5 := (hb1.ext hE5).cell
      have hi5 := hi1.ext hE5
      simp [h6, h1, hb5, hi5.names.1.is, hi5.names.1.len, hlt, hi5.names.1.cell k hlt]
      refine eff_convSB (e := 5) (by kernel_rfl) (by kernel_rfl) (by kernel_rfl) (by rfl) (by omega) fun v6 W6 hE6 hv6 _ => ?_
      simp
      refine eff_append ri24 (hE5.trans' hE6) (by rfl) (by rfl) (by simpa using ho5.ext hE6) hv6.cells (one_map (fun _ => rfl) _) (by simp; omega) (by simp; omega) fun u7 W7 hE7 ho7 _ _ => ?_
      have hb7 := (hb1.ext hE7).cell
      have hi7 := hi1.ext hE7
      have hcs7 := hi7.starts.1.cell k hks
      rw [hs0] at hcs7
      simp [h6, h1, hb7, hi7.starts.1.is, hi7.starts.1.len, hks, hcs7, encI, shfBin, shr24, shr16, shr8, u8nat]
      refine eff_lit si24 (by decide) (by decide) (by simp [encB, Value.cells]) fun B8 W8 hB8 hE8 hb8 _ => ?_
      simp [encB, Value.cells] at hb8
      simp
      refine eff_append ri24 (hE7.trans' hE8) (by rfl) (by rfl) (by simpa using ho7.ext hE8) (by simpa using hb8.cells (n := 4) (sz := 1) (by simp)) (by simp [Value.oneCell']) (by simp; omega) (by simp; omega) fun u9 W9 hE9 ho9 _ _ => ?_
      simp [ir23_k0, h6, h1, i64w (n := (k : Int) + 1) (by omega)]
      refine ⟨hE9, ?_⟩
      have e1 : i.names.getD k .empty = i.names[k] := by simp [hlt]
      have e2 : i.starts.getD k 0 = s0 := by simp [hks, hs0]
      rw [headL_succ, e1, e2]
      simpa [entryL, be32, encB, u8wrap] using ho9
    · have hk' : k = i.names.length := by omega
      subst hk'
      simp [ir23_l2, ir23_k3, h6, h1, hb3, hi3.names.1.is, hi3.names.1.len]
      refine eff_append ri24 hE3 (by rfl) (by rfl) (by simpa using hO) (by simpa using hi3.code.cells) (one_map (fun _ => rfl) _) (by simp; omega) (by simp; omega) fun u5 W5 hE5 ho5 _ _ => ?_
      simp
      have : writeL i = headL i i.names.length ++ i.code := by simp [writeL, hc]
      rw [this]
      refine ⟨Own.sl (by simpa using ho5) (by simp; omega), (hE.trans' hw1).trans' hE5⟩
  · simp [hc, writeL]
    exact ⟨Sl.nil _ _, hE.trans' hw1⟩
end Go.L16
/- Layer 16: contracts of the link package: names, images. -/
namespace Go.L16
open Go Go.Eng Go.RowKit Go.Proofs
set_option maxRecDepth 10000

theorem lk_name1 {w : World} (c : UInt8) : Calls Tryd.prog 81 #[encB c] w fun e w' => e = .returned (.bool (!nameByte c)) ∧ w = w' := by
  refine ir81_calls fun ρ h0 => ?_
  simp [ir81, h0, encB, nameByte]
  have e1 : decide ((c.toNat : Int) < 33) = !decide (33 ≤ c.toNat) := by
    by_cases h : 33 ≤ c.toNat
    · simp [h, (show ¬ (c.toNat : Int) < 33 by omega)]
    · simp [h, (show (c.toNat : Int) < 33 by omega)]
  have e2 : decide (126 < (c.toNat : Int)) = !decide (c.toNat ≤ 126) := by
    by_cases h : c.toNat ≤ 126
    · simp [h, (show ¬ 126 < (c.toNat : Int) by omega)]
    · simp [h, (show 126 < (c.toNat : Int) by omega)]
  rw [e1, e2]

theorem lk_index {w : World} {v : Value} {l : List UInt8} (hl : Sl encB w v l) :
    Calls Tryd.prog 92 #[v, .func (.func 81) #[] #[]] w fun e w' => ∃ n : Int, e = .returned (.int .i64 n) ∧ (0 ≤ n ↔ l.all nameByte = false) ∧ w = w' := by
  have hbd := hl.bd
  refine ir92_calls fun ρ h0 h1 => ?_
  simp [ir92, h0, hl.is, hl.len]
  refine loopC 8 l.length (fun k ρ' w' => w' = w ∧ ρ' 0 = v ∧ ρ' 1 = .func (.func 81) #[] #[] ∧ ρ' 7 = .int .i64 l.length ∧ ∀ j (hj : j < l.length), j < k → nameByte l[j] = true) (by simp) ⟨rfl, by simp [h0], by simp [h1], by simp, by simp⟩ ?_
  rintro k ρ' w' hk h8 ⟨rfl, h0, h1, h7, hall⟩
  by_cases hlt : k < l.length
  · simp [ir92_l2, ir92_k1, h8, h7, hlt, h0, h1, hl.is, hl.len, hl.cell k hlt]
    refine eff_callv (f := 81) (by simp) (fs := #[]) (caps := #[]) (by simp) ?_
    simp
    refine (lk_name1 _).mono ?_
    rintro _ _ ⟨rfl, rfl⟩
    by_cases hn : nameByte l[k] = true
    · simp [hn, ir92_k0, h8, h7, hlt, h0, h1, i64w (n := (k : Int) + 1) (by omega)]
      intro j hj hjk
      by_cases h : j = k
      · subst h; exact hn
      · exact hall j hj (by omega)
    · simp [hn]
      exact ⟨l[k], List.getElem_mem hlt, by simpa using hn⟩
  · have hk' : k = l.length := by omega
    subst hk'
    simp [ir92_l2, ir92_k3, h8, h7]
    intro x hx
    obtain ⟨j, hj, rfl⟩ := List.getElem_of_mem hx
    exact hall j hj hj

theorem lk_contains {w : World} {v : Value} {l : List UInt8} (hl : Sl encB w v l) :
    Calls Tryd.prog 80 #[v, .func (.func 81) #[] #[]] w fun e w' => e = .returned (.bool (!l.all nameByte)) ∧ w = w' := by
  refine ir80_calls fun ρ h0 h1 => ?_
  simp [ir80, h0, h1]
  refine (lk_index hl).mono ?_
  rintro _ _ ⟨n, rfl, hn, rfl⟩
  simp
  cases h : l.all nameByte with
  | false => simp [hn.2 h]
  | true => simp; rw [h] at hn; simp at hn; exact hn

theorem lk_isName {w : World} (s : ByteArray) (hs : s.size ≤ maxLen) :
    Calls Tryd.prog 53 #[.string s] w fun e w' => e = .returned (.bool (isName s)) ∧ Ext w w' := by
  refine ir53_calls fun ρ h0 => ?_
  simp [ir53, h0]
  by_cases hc : 1 ≤ s.size ∧ s.size ≤ 120
  · simp [hc.1, hc.2, (show (1 : Int) ≤ s.size by omega), (show (s.size : Int) ≤ 120 by omega)]
    refine eff_convSB (e := 5) (by kernel_rfl) (by kernel_rfl) (by kernel_rfl) (by rfl) (by omega) fun v6 W6 hE6 hv6 _ => ?_
    simp
    refine (lk_contains hv6).mono ?_
    rintro _ _ ⟨rfl, rfl⟩
    simp [isName, hc.1, hc.2]
    exact hE6
  · have h1 : ¬ ((1 : Int) ≤ s.size ∧ (s.size : Int) ≤ 120) := by omega
    simp [h1]
    refine ⟨?_, ext_refl _⟩
    cases h : isName s with
    | false => rfl
    | true => exact absurd (isName_size h) hc

def lastS (i : Img) (k : Nat) : Int := if k = 0 then 0 else i.starts.getD (k - 1) 0

theorem lk_CheckImage {w : World} {a b c : Value} {i : Img} (hi : ImgC w a b c i) :
    Calls Tryd.prog 19 #[.agg #[a, b, c]] w fun e w' => e = .returned (.int .i64 (checkImage i)) ∧ Ext w w' := by
  have hbd := hi.names.1.bd
  refine ir19_calls fun ρ h0 => ?_
  simp [ir19, h0]
  refine eff_box fun B W hB hE hb _ => ?_
  simp [h0, Value.cells] at hb ⊢
  simp [hb.cell, hi.names.1.is, hi.names.1.len, hi.starts.1.is, hi.starts.1.len, hi.code.is, hi.code.len]
  by_cases hsh : ((60 < (i.names.length : Int) ∨ ¬i.starts.length = i.names.length) ∨ 1200000 < (i.code.length : Int)) ∨ i.names = [] ∧ 0 < i.code.length
  · rw [if_pos hsh]
    have : imgShape i = false := by
      unfold imgShape; simp
      rw [← List.length_eq_zero_iff] at hsh
      simp only [← List.length_eq_zero_iff]
      omega
    exact ⟨by simp [checkImage, this], hE⟩
  · rw [if_neg hsh]
    have hS : imgShape i = true := by
      unfold imgShape; simp
      rw [← List.length_eq_zero_iff] at hsh
      simp only [← List.length_eq_zero_iff]
      omega
    have hlen : i.starts.length = i.names.length := by
      apply Classical.byContradiction; intro h; exact hsh (.inl (.inl (.inr h)))
    simp [ir19_k5, hb.cell, hi.names.1.is, hi.names.1.len]
    refine loopC 41 i.names.length (fun k ρ' w' => Ext W w' ∧ ρ' 1 = .pointer (some ⟨B, 0, none⟩) ∧ ρ' 3 = .int .i64 (lastS i k) ∧ ρ' 39 = a ∧ ρ' 40 = .int .i64 i.names.length ∧ ∀ j, j < k → badAt i j = false) (by simp) ⟨ext_refl W, by simp, by simp [lastS], by simp, by simp, by simp⟩ ?_
    rintro k ρ' w' hk h41 ⟨hE1, h1, h3, h39, h40, hall⟩
    have hi' := hi.ext (hE.trans' hE1)
    have hz := (hb.ext hE1).cell
    by_cases hlt : k < i.names.length
    · have hlts : k < i.starts.length := by omega
      have hsz : i.names[k].size ≤ maxLen := hi.names.2 _ (List.getElem_mem _)
      simp [ir19_l3, ir19_k2, h41, h40, h39, h1, hz, hlt, hi'.names.1.is, hi'.names.1.len, hi'.names.1.cell k hlt, hi'.starts.1.is, hi'.starts.1.len, hi'.starts.1.cell k hlts, hlts, encI]
      refine (lk_isName _ hsz).mono ?_
      rintro _ w2 ⟨rfl, hw2⟩
      have hi2 := hi'.ext hw2
      have hz2 := ((hb.ext hE1).ext hw2).cell
      by_cases hk0 : k = 0
      · subst hk0
        simp [h1, h3, hz2, hi2.names.1.is, hi2.names.1.len, hi2.starts.1.is, hi2.starts.1.len, hi2.code.is, hi2.code.len, hlt, lastS]
        have hb : badAt i 0 = (!isName i.names[0] || decide (i.starts[0] ≠ 0) || decide ((i.code.length : Int) < i.starts[0])) := by
          simp [badAt, hlt, hlts]
        by_cases hbad : badAt i 0 = true
        · rw [if_pos (by rw [hb] at hbad; simp at hbad; rcases hbad with h | h; exact .inl (.inl h); exact .inr h)]
          exact ⟨by rw [checkImage_bad hlt hbad], (hE.trans' hE1).trans' hw2⟩
        · have hg : isName i.names[0] = true ∧ i.starts[0] = 0 ∧ i.starts[0] ≤ i.code.length := by
            rw [hb] at hbad; simp at hbad
            exact ⟨hbad.1.1, hbad.1.2, hbad.2⟩
          rw [if_neg (by rintro (((h | h) | h) | h); · rw [hg.1] at h; cases h
                         · exact h hg.2.1
                         · omega
                         · omega)]
          simp [ir19_k0, ir19_k1, h41, h40, h39, h1, lastS, hlts]
          exact ⟨by decide, hE1.trans' hw2, by simpa using hbad⟩
      · have hk1 : k - 1 < i.names.length := by omega
        have hk1s : k - 1 < i.starts.length := by omega
        have e1 : ((k : Int) - 1) = ((k - 1 : Nat) : Int) := by omega
        simp [h1, h3, hz2, hi2.names.1.is, hi2.names.1.len, hi2.starts.1.is, hi2.starts.1.len, hi2.code.is, hi2.code.len, hlt, hk0, Nat.pos_of_ne_zero hk0, i64w (n := (k : Int) - 1) (by omega)]
        simp [e1, hk1, (show (1 : Int) ≤ k by omega), hi2.names.1.cell (k-1) hk1, hi2.names.1.is, hi2.names.1.len]
        have hb : badAt i k = (!isName i.names[k] || !ltS i.names[k-1] i.names[k] || decide (i.starts[k] < i.starts[k-1]) || decide ((i.code.length : Int) < i.starts[k])) := by
          simp [badAt, hlt, hlts, hk1, hk1s, hk0, Nat.pos_of_ne_zero hk0]
        have hls : lastS i k = i.starts[k-1] := by simp [lastS, hk0, hk1s]
        rw [hls]
        by_cases hbad : badAt i k = true
        · rw [if_pos (by rw [hb] at hbad; simpa [ltS] using hbad)]
          exact ⟨by rw [checkImage_bad hlt hbad], (hE.trans' hE1).trans' hw2⟩
        · rw [if_neg (by rw [hb] at hbad; simpa [ltS] using hbad)]
          simp [ir19_k0, ir19_k1, h41, h40, h39, h1, lastS, hlts, i64w (n := (k : Int) + 1) (by omega)]
          refine ⟨hE1.trans' hw2, fun j hj => ?_⟩
          by_cases hjk : j = k
          · subst hjk; simpa using hbad
          · exact hall j (by omega)
    · simp [ir19_l3, ir19_k4, h41, h40, hlt]
      refine ⟨?_, hE.trans' hE1⟩
      have : (List.range i.names.length).all (fun k => !badAt i k) = true := by
        rw [List.all_eq_true]; intro j hj; simp at hj; simp [hall j (by omega)]
      simp [checkImage, hS, this, tupled]
end Go.L16
/- Layer 16: contracts of the link package: Number, Part. -/
namespace Go.L16
open Go Go.Eng Go.RowKit Go.Proofs
set_option maxRecDepth 10000

theorem lk_nan91 {w : World} (s : ByteArray) : Calls Tryd.prog 91 #[.string s] w fun e w' => e = .returned (.bool false) ∧ w = w' := by
  refine ir91_calls fun ρ h0 => ?_
  simp [ir91, h0]
theorem lk_nan79 {w : World} (s : ByteArray) : Calls Tryd.prog 79 #[.string s] w fun e w' => e = .returned (.bool false) ∧ w = w' := by
  refine ir79_calls fun ρ h0 => ?_
  simp [ir79, h0]
theorem lk_less {w : World} (s t : ByteArray) : Calls Tryd.prog 78 #[.string s, .string t] w fun e w' => e = .returned (.bool (ltS s t)) ∧ w = w' := by
  refine ir78_calls fun ρ h0 h1 => ?_
  simp [ir78, h0, h1]
  refine (lk_nan91 s).mono ?_
  rintro _ _ ⟨rfl, rfl⟩
  simp [h0, h1, ltS]

theorem u64w {n : Int} (h : 0 ≤ n ∧ n < 18446744073709551616) : IntKind.u64.wrap n = n := by
  unfold IntKind.wrap
  simp only [IntKind.bits, IntKind.signed, Bool.false_and, Bool.false_eq_true, if_false]
  omega
theorem shr1 (m : Nat) : (m : Int).fdiv (2 ^ min 1 IntKind.u64.bits) = ((m / 2 : Nat) : Int) := by
  rw [show (2 ^ min 1 IntKind.u64.bits : Int) = 2 from rfl, Int.fdiv_eq_ediv_of_nonneg _ (by omega)]; omega

theorem asc_lt {l : List ByteArray} (h : Asc l) {i j : Nat} (hj : j < l.length) (hij : i < j) : ltS (l[i]'(by omega)) l[j] = true := List.pairwise_iff_getElem.1 h i j (by omega) hj hij
theorem idx_asc {l : List ByteArray} {s : ByteArray} (h : Asc l) {k : Nat} (hk : k < l.length) (hs : l[k] = s) : idx l s = k := by
  have h1 : l.findIdx (fun x => decide (x = s)) = k := by
    rw [List.findIdx_eq hk]
    refine ⟨by simp [hs], fun j hj => ?_⟩
    have := asc_lt h hk hj
    simp
    intro e
    rw [e, hs, ltS_irrefl] at this
    cases this
  unfold idx
  rw [h1, if_pos hk]

theorem asc_found {l : List ByteArray} {s : ByteArray} (hasc : Asc l) {i : Nat} (hi : i < l.length) (h : l[i] = s) : 0 ≤ idx l s ∧ (s ∈ l → idx l s = i) := by
  have := idx_asc hasc hi h
  exact ⟨by omega, fun _ => this⟩
theorem not_found {l : List ByteArray} {s : ByteArray} {i : Nat} (hlo : ∀ x (hx : x < l.length), x < i → ltS l[x] s = true) (hhi : ∀ x (hx : x < l.length), i ≤ x → ltS l[x] s = false) (hasc : Asc l) (hne : ∀ h : i < l.length, l[i] ≠ s) : s ∉ l := by
  intro hs
  obtain ⟨x, hx, rfl⟩ := List.getElem_of_mem hs
  rcases Nat.lt_trichotomy x i with h | h | h
  · have := hlo x hx h
    rw [ltS_irrefl] at this; cases this
  · subst h; exact hne hx rfl
  · have := hhi i (by omega) (Nat.le_refl _)
    rw [asc_lt hasc hx h] at this; cases this

theorem lk_search {w : World} {v : Value} {l : List ByteArray} (s : ByteArray) (hl : Sl Value.string w v l) (hasc : Asc l) :
    Calls Tryd.prog 50 #[v, .string s] w fun e w' => ∃ k : Nat, e = .returned (.tuple #[.int .i64 k, .bool (decide (0 ≤ idx l s))]) ∧ (s ∈ l → idx l s = k) ∧ w = w' := by
  have hbd := hl.bd
  refine ir50_calls fun ρ h0 h1 => ?_
  simp [ir50, h0, hl.is, hl.len]
  refine loopI (fun ρ' w' => w' = w ∧ ρ' 0 = v ∧ ρ' 1 = .string s ∧ ρ' 6 = .int .i64 l.length ∧ ∃ i j : Nat, i ≤ j ∧ j ≤ l.length ∧ ρ' 7 = .int .i64 i ∧ ρ' 8 = .int .i64 j ∧ (∀ x (hx : x < l.length), x < i → ltS l[x] s = true) ∧ (∀ x (hx : x < l.length), j ≤ x → ltS l[x] s = false))
    (fun ρ' _ => (RowKit.intOf (ρ' 8)).toNat - (RowKit.intOf (ρ' 7)).toNat) ⟨rfl, by simp [h0], by simp [h1], by simp, 0, l.length, by omega, by omega, by simp, by simp, by simp, fun x hx hx' => by omega⟩ ?_
  rintro ρ' w' ⟨rfl, h0, h1, h6, i, j, hij, hj, h7, h8, hlo, hhi⟩
  by_cases hlt : i < j
  · obtain ⟨m, hme⟩ : ∃ m, (i + j) / 2 = m := ⟨_, rfl⟩
    have hm : m < l.length := by omega
    have hfd : ((i : Int) + (j : Int)).fdiv (2 ^ min 1 IntKind.u64.bits) = (m : Int) := by
      have := shr1 (i + j)
      rw [hme] at this
      rw [← this]
      congr 1
    simp [ir50_l1, ir50_k0, h7, h8, hlt, h0, h1, i64w (n := (i : Int) + j) (by omega), shfBin, u64w (n := (i : Int) + j) (by omega), hfd, i64w (n := (m : Int)) (by omega), hl.is, hl.len, hm, hl.cell _ hm]
    refine (lk_less _ s).mono ?_
    rintro _ _ ⟨rfl, rfl⟩
    by_cases hls : ltS l[m] s = true
    · simp [hls, h0, h1, h6, h7, h8, i64w (n := (m : Int) + 1) (by omega)]
      refine ⟨⟨m + 1, j, by omega, hj, by simp, rfl, fun x hx hxm => ?_, hhi⟩, by omega⟩
      by_cases hxm' : x = m
      · subst hxm'; exact hls
      · exact ltS_trans (asc_lt hasc hm (by omega)) hls
    · simp [hls, h0, h1, h6, h7, h8]
      refine ⟨⟨i, m, by omega, by omega, rfl, rfl, hlo, fun x hx hxm => ?_⟩, by omega⟩
      by_cases hxm' : x = m
      · subst hxm'; simpa using hls
      · cases h : ltS l[x] s with
        | false => rfl
        | true => exact absurd (ltS_trans (asc_lt hasc hx (by omega)) h) hls
  · have hij' : i = j := by omega
    subst hij'
    by_cases hil : i < l.length
    · by_cases he : l[i] = s
      · simp [ir50_l1, ir50_k2, h7, h8, h6, h0, h1, hil, hl.is, hl.len, hl.cell i hil, he]
        simp [undef]
        have := asc_found hasc hil he
        exact ⟨i, ⟨rfl, this.1⟩, this.2⟩
      · simp [ir50_l1, ir50_k2, h7, h8, h6, h0, h1, hil, hl.is, hl.len, hl.cell i hil, he]
        refine (lk_nan79 _).mono ?_
        rintro _ _ ⟨rfl, rfl⟩
        simp
        have := not_found hlo hhi hasc (fun _ => he)
        have h2 := mt idx_nonneg.1 this
        exact ⟨i, ⟨rfl, by omega⟩, fun h => absurd h this⟩
    · simp [ir50_l1, ir50_k2, h7, h8, h6, h0, h1, hil, undef]
      have := not_found hlo hhi hasc (fun h => absurd h hil)
      have h2 := mt idx_nonneg.1 this
      exact ⟨i, ⟨rfl, by omega⟩, fun h => absurd h this⟩

theorem asc_names {i : Img} (h : ImgOk i) : Asc i.names := by
  refine List.pairwise_iff_getElem.2 fun a b ha hb hab => ?_
  obtain ⟨d, rfl⟩ : ∃ d, b = a + 1 + d := ⟨b - (a + 1), by omega⟩
  induction d with
  | zero => exact h.asc a hb
  | succ d ih => exact ltS_trans (ih (by omega) (by omega)) (h.asc (a + 1 + d) hb)

theorem lk_Number {w : World} {a b c : Value} {i : Img} (s : ByteArray) (hi : ImgC w a b c i) :
    Calls Tryd.prog 15 #[.agg #[a, b, c], .string s] w fun e w' => e = .returned (.tuple #[.int .i64 (numN i s), .bool (numIs i s), .int .i64 (checkImage i)]) ∧ Ext w w' := by
  refine ir15_calls fun ρ h0 h1 => ?_
  simp [ir15, h0]
  refine eff_box fun B W hB hE hb _ => ?_
  simp [h0, Value.cells] at hb
  simp [hb.cell]
  refine (lk_CheckImage (hi.ext hE)).mono ?_
  rintro _ w1 ⟨rfl, hw1⟩
  by_cases hc : checkImage i = 0
  · simp [hc, ir15_k1, (hb.ext hw1).cell, h1]
    refine (lk_search s ((hi.ext hE).ext hw1).names.1 (asc_names (imgOk_of hc))).mono ?_
    rintro _ _ ⟨k, rfl, hk, rfl⟩
    simp
    by_cases hs : 0 ≤ idx i.names s
    · have hk := hk (idx_nonneg.1 hs)
      simp [hs, ir15_k0, numN, numIs, hc]
      exact ⟨hk.symm, hE.trans' hw1⟩
    · simp [hs, (show idx i.names s < 0 by omega), numN, numIs, hc]
      exact hE.trans' hw1
  · simp [hc, numN, numIs]
    exact hE.trans' hw1

theorem lk_Clone {w : World} {v : Value} {l : List UInt8} (hl : Sl encB w v l) (hlen : l.length ≤ 1099511627776) :
    Calls Tryd.prog 52 #[v] w fun e w' => ∃ x, e = .returned x ∧ Sl encB w' x l ∧ Ext w w' ∧ (∀ g, x.ownBlock = some g → w.heap.size ≤ g) ∧ (∃ base, w.heap.size ≤ base ∧ Own base 5 1 w' x (l.map encB)) := by
  refine ir52_calls fun ρ h0 => ?_
  simp [ir52, h0]
  refine eff_eqlNil (e := 5) (by kernel_rfl) (by simpa using hl.is) ?_
  simp
  cases hn : isNilSl v with
  | true =>
    have : l = [] := by
      have h1 := hl.len
      rcases isSl_cases hl.is with ⟨b, o, n, c, rfl, _⟩ | rfl | ⟨b, o, s, rfl⟩
      rotate_left 2
      · simp [isNilSl] at hn
      · simp [isNilSl] at hn
      · simp [slLen] at h1; exact List.length_eq_zero_iff.1 h1.symm
    subst this
    simp
    exact ⟨Sl.nil _ _, ext_refl _, w.heap.size, Nat.le_refl _, Own.nil _ _ _ _⟩
  | false =>
    simp [ir52_k0, h0]
    refine eff_lit si24 (by decide) (by decide) (by simp) fun B3 W3 hB3 hE3 hb3 _ => ?_
    simp at hb3
    simp [h0]
    refine eff_append ri24 hE3 (by rfl) (by rfl) (Own.lit (n := 0) (sz := 1) hb3 (by simp) hB3 (by decide)) (hl.ext hE3).cells (one_map (fun _ => rfl) _) (by simp; omega) (by simp; omega) fun u4 W4 hE4 ho4 _ _ => ?_
    simp at ho4 ⊢
    exact ⟨ho4.sl (by omega), hE4, fun g hg => (ho4.blk g hg).1, w.heap.size, Nat.le_refl _, ho4⟩

theorem lk_Part {w : World} {a b c : Value} {i : Img} (n : Int) (hn : -9223372036854775808 ≤ n ∧ n ≤ 9223372036854775807) (hi : ImgC w a b c i) :
    Calls Tryd.prog 17 #[.agg #[a, b, c], .int .i64 n] w fun e w' => ∃ x, e = .returned (.tuple #[x, .int .i64 (partE i n)]) ∧ Sl encB w' x (partL i n) ∧ Ext w w' ∧ (∃ base, w.heap.size ≤ base ∧ Own base 5 1 w' x ((partL i n).map encB)) := by
  refine jr17_calls fun ρ h0 h1 => ?_
  simp [jr17, h0]
  refine eff_box fun B W hB hE hb _ => ?_
  simp [h0, Value.cells] at hb
  simp [hb.cell]
  refine (lk_CheckImage (hi.ext hE)).mono ?_
  rintro _ w1 ⟨rfl, hw1⟩
  have hb1 := hb.ext hw1
  have hi1 := (hi.ext hE).ext hw1
  by_cases hc : checkImage i = 0
  · have hok := imgOk_of hc
    simp [hc, jr17_k3, hb1.cell, h1, hi1.names.1.is, hi1.names.1.len]
    by_cases hr : 0 ≤ n ∧ n < i.names.length
    · obtain ⟨k, rfl⟩ : ∃ k : Nat, n = k := ⟨n.toNat, by omega⟩
      have hk : k < i.names.length := by omega
      have hks : k < i.starts.length := by rw [hok.starts]; exact hk
      have hlen := hok.len
      have hst := hok.starts
      have h0s := hok.nonneg k hks
      have hts := hok.top k hks
      have hpe : partE i k = 0 := by simp [partE, hc, hk]
      obtain ⟨s0, hs0⟩ : ∃ s0 : Nat, i.starts[k] = s0 := ⟨i.starts[k].toNat, by omega⟩
      obtain ⟨e0, he0, hse, hec⟩ : ∃ e0 : Nat, partEnd i k = e0 ∧ s0 ≤ e0 ∧ e0 ≤ i.code.length := by
        unfold partEnd
        split
        · rename_i hk1
          have h1 := hok.mono k (by omega)
          have h2 := hok.top (k + 1) (by omega)
          have h3 := hok.nonneg (k + 1) (by omega)
          have h4 : i.starts.getD (k + 1) 0 = i.starts[k + 1] := by simp [show k + 1 < i.starts.length by omega]
          rw [h4]
          exact ⟨i.starts[k + 1].toNat, by omega, by omega, by omega⟩
        · exact ⟨i.code.length, rfl, by omega, Nat.le_refl _⟩
      obtain ⟨Post, hPost⟩ : ∃ P : Ending → World → Prop, P = fun e w' => ∃ x, e = .returned (.tuple #[x, .int .i64 (partE i k)]) ∧ Sl encB w' x (partL i k) ∧ Ext w w' ∧ (∃ base, w.heap.size ≤ base ∧ Own base 5 1 w' x ((partL i k).map encB)) := ⟨_, rfl⟩
      rw [← hPost]
      have fin : ∀ ρ2 : Env, ρ2 1 = .int .i64 k → ρ2 2 = .pointer (some ⟨B, 0, none⟩) → ρ2 7 = .int .i64 e0 →
          jr17_k1.wp ⟨Tryd.prog, 48, jr17_V, []⟩ (retK [.tmp 4, .tmp 5] Post) (ksOf [.tmp 4, .tmp 5] Post) ρ2 w1 := by
        intro ρ2 h1 h2 h7
        have hcap := isSl_len_cap hi1.code.is
        have hcl := hi1.code.len
        have hcode := hok.code
        simp only [jr17_k1, wpi_seq]
        refine raw_ord jr17_o9_ok (Ext w1) fun w2 hw2 _ => ⟨hw2, ?_⟩
        have hb2 : ∀ w', Ext w1 w' → ∀ j, w'.cell? ⟨B, j, none⟩ = #[a, b, c][j]? := fun w' h' j => (hb1.ext h').cell j
        have hs2 : ∀ w', Ext w1 w' → w'.cell? (slAddr b k) = some (.int .i64 s0) := fun w' h' => by rw [(hi1.starts.1.ext h').cell k hks, hs0]; rfl
        simp +contextual [jr17_o9, h1, h2, h7, hb2, hw2, hs2, hi1.starts.1.is, hi1.starts.1.len, hks, hi1.code.is, hse, (show e0 ≤ slCap c by omega)]
        have hsub := (hi1.code.ext hw2).sub (l := s0) (r := e0) (m := e0) hse hec (by omega) (by omega)
        refine (lk_Clone hsub (by simp; omega)).mono ?_
        rintro _ w3 ⟨x, rfl, hx, hw3, _, base, hbase, hO⟩
        have hl : partL i k = (i.code.take e0).drop s0 := by simp [partL, hpe, he0, hks, hs0]
        rw [← hl] at hx hO
        simp [jr17_k0, hPost, hpe]
        exact ⟨hx, ((hE.trans' hw1).trans' hw2).trans' hw3, base, by have := hE.size; have := hw1.size; have := hw2.size; omega, hO⟩
      simp [(show ¬ (k : Int) < 0 by omega), hk, (show ¬ i.names.length ≤ k by omega), jr17_k2, hb1.cell, hi1.code.is, hi1.code.len, h1, hi1.names.1.is, hi1.names.1.len, i64w (n := (k : Int) + 1) (by omega), hi1.starts.1.is, hi1.starts.1.len, hst]
      by_cases hk1 : k + 1 < i.names.length
      · have hk1s : k + 1 < i.starts.length := by omega
        have hc1 := hi1.starts.1.cell (k + 1) hk1s
        have he : i.starts[k + 1] = e0 := by rw [← he0, partEnd, if_pos hk1]; simp [hk1s]
        rw [he] at hc1
        simp [hk1, hi1.starts.1.is, hi1.starts.1.len, hk1s, hc1, encI]
        exact fin _ (by simp [h1]) (by simp) (by simp)
      · have he : (i.code.length : Int) = e0 := by rw [← he0, partEnd, if_neg hk1]
        simp [hk1]
        exact fin _ (by simp [h1]) (by simp) (by simp [he])
    · have hpe : partE i n = 1 := by simp [partE, hc]; omega
      have : n < 0 ∨ (i.names.length : Int) ≤ n := by omega
      rw [if_pos this]
      refine ⟨_, ⟨rfl, hpe.symm⟩, ?_, hE.trans' hw1, w.heap.size, Nat.le_refl _, ?_⟩
      · simp [partL, hpe]
        exact Sl.nil _ _
      · simp [partL, hpe]
        exact Own.nil _ _ _ _
  · simp [hc, partE, partL]
    exact ⟨Sl.nil _ _, hE.trans' hw1, w.heap.size, Nat.le_refl _, Own.nil _ _ _ _⟩
end Go.L16
/- Layer 16: contracts of the link package: objects. -/
namespace Go.L16
open Go Go.Eng Go.RowKit Go.Proofs
set_option maxRecDepth 10000

theorem ir100_calls2 {v0 v1 : Value} {w : World} {R : Ending → World → Prop} (h : ∀ ρ : Env, ρ 0 = v0 → ρ 1 = v1 → ir100.wp ⟨Tryd.prog, 23, ir100_V, []⟩ (retK [.tmp 3] R) (ksOf [.tmp 3] R) ρ w) :
    Calls Tryd.prog 100 #[v0, v1] w R := by
  obtain ⟨ir0, h1, h2⟩ := Option.map_eq_some_iff.1 ir100_ok
  exact calls_ir (args := #[v0, v1]) Tryd.func100 (c := Tryd.f100.body.getD .skip) rfl h1 h2 (by kernel_rfl) (show rvsOf Tryd.prog ir100_V Tryd.f100.results.toList = some [.tmp 3] by kernel_rfl) (Nat.le_of_ble_eq_true rfl) (h _ rfl rfl)

theorem bu119 (n c r : Value) : Tryd.prog.built 119 [(0, .agg #[n, c, r])] = some #[n, c, r] := by kernel_rfl
theorem bu116 : Tryd.prog.built 116 [(0, .func (.func 87) #[] #[]), (1, .func (.func 88) #[] #[]), (2, .func (.func 89) #[] #[]), (3, .func (.func 90) #[] #[])] = some #[.func (.func 87) #[] #[], .func (.func 88) #[] #[], .func (.func 89) #[] #[], .func (.func 90) #[] #[]] := by kernel_rfl
theorem z116 : zeroCellsOf Tryd.prog 116 = some #[.nilFunc, .nilFunc, .nilFunc, .nilFunc] := by kernel_rfl
theorem sz116 : sizeIs Tryd.prog 116 4 = true := by kernel_rfl

theorem lk_rel99 {w : World} (r : Rel) (hr : r.name.size ≤ maxLen) : Calls Tryd.prog 99 #[.agg #[.int .i64 r.pos, .string r.name]] w fun e w' => e = .returned (.bool (!isName r.name)) ∧ Ext w w' := by
  refine ir99_calls fun ρ h0 => ?_
  simp [ir99, h0]
  refine eff_box fun B W hB hE hb _ => ?_
  simp [h0, Value.cells] at hb
  simp [hb.cell]
  refine (lk_isName _ hr).mono ?_
  rintro _ w1 ⟨rfl, hw1⟩
  simp
  exact hE.trans' hw1

def posIn (o : Obj) (r : Rel) : Bool := decide (0 ≤ r.pos) && decide (r.pos ≤ (o.code.length : Int) - 2)
def zeroAt (o : Obj) (r : Rel) : Bool := decide ((o.code.getD r.pos.toNat 0).toNat = 0) && decide ((o.code.getD (r.pos.toNat + 1) 0).toNat = 0)

theorem lk_rel100 {w : World} {B : Nat} {n c rv : Value} {o : Obj} (ho : ObjC w n c rv o) (hb : Blk w B #[n, c, rv] 119) (r : Rel) (hr : posIn o r = true) :
    Calls Tryd.prog 100 #[.agg #[.int .i64 r.pos, .string r.name], .pointer (some ⟨B, 0, none⟩)] w fun e w' => e = .returned (.bool (!zeroAt o r)) ∧ Ext w w' := by
  refine ir100_calls2 fun ρ h0 h1 => ?_
  simp [ir100, h0]
  refine eff_box fun B2 W hB hE hb2 _ => ?_
  simp [h0, Value.cells] at hb2
  simp only [posIn, Bool.and_eq_true, decide_eq_true_eq] at hr
  have hbd := ho.code.bd
  obtain ⟨p, hp⟩ : ∃ p : Nat, r.pos = p := ⟨r.pos.toNat, by omega⟩
  have hp1 : p + 1 < o.code.length := by omega
  have hc := ho.code.ext hE
  simp [hb2.cell, (hb.ext hE).cell, h1, hp, hc.is, hc.len, (show p < o.code.length by omega), hp1, hc.cell p (by omega), hc.cell (p + 1) hp1, i64w (n := (p : Int) + 1) (by omega), encB]
  by_cases hz : o.code[p].toNat = 0
  · by_cases hz1 : o.code[p + 1].toNat = 0
    · simp [hz, hz1, zeroAt, hp, (show p < o.code.length by omega), hp1, hE]
    · simp [hz, hz1, zeroAt, hp, (show p < o.code.length by omega), hp1, hE]
  · simp [hz, zeroAt, hp, (show p < o.code.length by omega), hp1, hE]

theorem lk_indexR {w : World} {v : Value} {rs : List Rel} {f : Nat} {caps : Array Value} {p : Rel → Bool} (hcb : callB Tryd.prog f = true) (hl : SlR w v rs)
    (hf : ∀ r ∈ rs, ∀ w', Ext w w' → Calls Tryd.prog f (#[.agg #[.int .i64 r.pos, .string r.name]] ++ caps) w' fun e w'' => e = .returned (.bool (p r)) ∧ Ext w' w'') :
    Calls Tryd.prog 112 #[v, .func (.func f) #[] caps] w fun e w' => ∃ n : Int, e = .returned (.int .i64 n) ∧ (0 ≤ n ↔ rs.any p = true) ∧ Ext w w' := by
  have hbd := hl.bd
  refine ir112_calls fun ρ h0 h1 => ?_
  simp [ir112, h0, hl.is, hl.len]
  refine loopC 8 rs.length (fun k ρ' w' => Ext w w' ∧ ρ' 0 = v ∧ ρ' 1 = .func (.func f) #[] caps ∧ ρ' 7 = .int .i64 rs.length ∧ ∀ j (hj : j < rs.length), j < k → p rs[j] = false) (by simp) ⟨ext_refl _, by simp [h0], by simp [h1], by simp, by simp⟩ ?_
  rintro k ρ' w' hk h8 ⟨hE, h0, h1, h7, hall⟩
  have hl' := hl.ext hE
  by_cases hlt : k < rs.length
  · simp [ir112_l2, ir112_k1, h8, h7, hlt, h0, h1, hl'.is, hl'.len, hl'.pos k hlt, hl'.name k hlt]
    refine eff_callv (f := f) hcb (fs := #[]) (caps := caps) (by simp) ?_
    simp
    refine (hf _ (List.getElem_mem hlt) w' hE).mono ?_
    rintro _ w2 ⟨rfl, hw2⟩
    by_cases hn : p rs[k] = true
    · simp [hn]
      exact ⟨⟨_, List.getElem_mem hlt, hn⟩, hE.trans' hw2⟩
    · simp [hn, ir112_k0, h8, h7, hlt, h0, h1, i64w (n := (k : Int) + 1) (by omega)]
      refine ⟨hE.trans' hw2, fun j hj hjk => ?_⟩
      by_cases h : j = k
      · subst h; simpa using hn
      · exact hall j hj (by omega)
  · have hk' : k = rs.length := by omega
    subst hk'
    simp [ir112_l2, ir112_k3, h8, h7]
    refine ⟨fun x hx => ?_, hE⟩
    obtain ⟨j, hj, rfl⟩ := List.getElem_of_mem hx
    exact hall j hj hj

theorem lk_containsR {w : World} {v : Value} {rs : List Rel} {f : Nat} {caps : Array Value} {p : Rel → Bool} (hcb : callB Tryd.prog f = true) (hl : SlR w v rs)
    (hf : ∀ r ∈ rs, ∀ w', Ext w w' → Calls Tryd.prog f (#[.agg #[.int .i64 r.pos, .string r.name]] ++ caps) w' fun e w'' => e = .returned (.bool (p r)) ∧ Ext w' w'') :
    Calls Tryd.prog 98 #[v, .func (.func f) #[] caps] w fun e w' => e = .returned (.bool (rs.any p)) ∧ Ext w w' := by
  refine ir98_calls fun ρ h0 h1 => ?_
  simp [ir98, h0, h1]
  refine (lk_indexR hcb hl hf).mono ?_
  rintro _ w1 ⟨n, rfl, hn, hw1⟩
  simp
  refine ⟨?_, hw1⟩
  cases h : rs.any p with
  | false => rw [h] at hn; simp at hn; simpa using hn
  | true => simpa using hn.2 h

theorem lk_named {w : World} {n c r : Value} {o : Obj} (ho : ObjC w n c r o) :
    Calls Tryd.prog 87 #[.agg #[n, c, r]] w fun e w' => e = .returned (.bool (isName o.name && o.relocs.all fun r => isName r.name)) ∧ Ext w w' := by
  refine ir87_calls fun ρ h0 => ?_
  simp [ir87, h0]
  refine eff_box fun B W hB hE hb _ => ?_
  simp [h0, Value.cells] at hb
  simp [hb.cell, ho.name]
  refine (lk_isName _ ho.size).mono ?_
  rintro _ w1 ⟨rfl, hw1⟩
  by_cases hn : isName o.name = true
  · simp [hn, (hb.ext hw1).cell]
    refine (lk_containsR (f := 99) (p := fun r => !isName r.name) (by simp) (ho.rels.ext (hE.trans' hw1)) fun r hr w' hw' => by simpa using lk_rel99 r (ho.rels.wf r hr).2).mono ?_
    rintro _ w2 ⟨rfl, hw2⟩
    simp
    exact ⟨by rw [List.not_all_eq_any_not], (hE.trans' hw1).trans' hw2⟩
  · simp [hn]
    exact hE.trans' hw1

theorem lk_short {w : World} {n c r : Value} {o : Obj} (ho : ObjC w n c r o) :
    Calls Tryd.prog 88 #[.agg #[n, c, r]] w fun e w' => e = .returned (.bool (decide (o.code.length ≤ 20000) && decide (o.relocs.length ≤ 2000))) ∧ Ext w w' := by
  refine ir88_calls fun ρ h0 => ?_
  simp [ir88, h0]
  refine eff_box fun B W hB hE hb _ => ?_
  simp [h0, Value.cells] at hb
  simp [hb.cell, ho.code.is, ho.code.len, ho.rels.is, ho.rels.len]
  have e1 : decide ((o.code.length : Int) ≤ 20000) = decide (o.code.length ≤ 20000) := by rw [decide_eq_decide]; omega
  have e2 : decide ((o.relocs.length : Int) ≤ 2000) = decide (o.relocs.length ≤ 2000) := by rw [decide_eq_decide]; omega
  rw [e1, e2]
  exact ⟨rfl, hE⟩

def placedAt (o : Obj) (i : Nat) : Bool := match o.relocs[i]? with
  | some r => posIn o r && !(decide (0 < i) && decide (r.pos < (o.relocs.getD (i - 1) ⟨0, .empty⟩).pos + 2))
  | none => true
def placedB (o : Obj) : Bool := (List.range o.relocs.length).all (placedAt o)
def lastP (o : Obj) (k : Nat) : Int := if k = 0 then -2 else (o.relocs.getD (k - 1) ⟨0, .empty⟩).pos
theorem z54' : zeroCellsOf Tryd.prog 54 = some #[.int .i64 0, .string .empty] := z54

theorem lk_placed {w : World} {n c r : Value} {o : Obj} (ho : ObjC w n c r o) :
    Calls Tryd.prog 89 #[.agg #[n, c, r]] w fun e w' => e = .returned (.bool (placedB o)) ∧ Ext w w' := by
  have hbd := ho.rels.bd
  have hcd := ho.code.bd
  refine ir89_calls fun ρ h0 => ?_
  simp [ir89, h0]
  refine eff_box fun B W hB hE hb _ => ?_
  simp [h0, Value.cells] at hb
  simp [hb.cell, ho.rels.is, ho.rels.len]
  refine loopC 10 o.relocs.length (fun k ρ' w' => Ext W w' ∧ ρ' 1 = .pointer (some ⟨B, 0, none⟩) ∧ ρ' 3 = .int .i64 (lastP o k) ∧ ρ' 8 = r ∧ ρ' 9 = .int .i64 o.relocs.length ∧ ∀ j, j < k → placedAt o j = true) (by simp) ⟨ext_refl _, by simp, by simp [lastP], by simp, by simp, by simp⟩ ?_
  rintro k ρ' w' hk h10 ⟨hE1, h1, h3, h8, h9, hall⟩
  by_cases hlt : k < o.relocs.length
  · have ho' := ho.ext (hE.trans' hE1)
    simp [ir89_l3, ir89_k2, h10, h9, h8, hlt, ho'.rels.is, ho'.rels.len, ho'.rels.pos k hlt, ho'.rels.name k hlt]
    refine eff_var z54 (fun v => by simp) (by simp [Value.cells]) (by simp [Value.cells]) sz54 fun Br W3 hBr hE3 hbr _ => ?_
    simp [Value.cells] at hbr
    have ho3 := ho'.ext hE3
    have hb3 := ((hb.ext hE1).ext hE3).cell
    have hlast : -2 ≤ lastP o k ∧ lastP o k ≤ (o.code.length : Int) - 2 := by
      unfold lastP
      split
      · omega
      · rename_i h0
        have := hall (k - 1) (by omega)
        have hk1 : k - 1 < o.relocs.length := by omega
        simp only [placedAt, List.getElem?_eq_getElem hk1, posIn, Bool.and_eq_true, decide_eq_true_eq] at this
        have e : o.relocs.getD (k - 1) ⟨0, .empty⟩ = o.relocs[k - 1] := by simp [hk1]
        rw [e]; omega
    have hpa : placedAt o k = (decide (0 ≤ o.relocs[k].pos) && decide (o.relocs[k].pos ≤ (o.code.length : Int) - 2) && !decide (o.relocs[k].pos < lastP o k + 2)) := by
      simp only [placedAt, List.getElem?_eq_getElem hlt, posIn, lastP]
      by_cases h0 : k = 0
      · subst h0
        rw [Bool.eq_iff_iff]; simp; omega
      · simp [h0, Nat.pos_of_ne_zero h0]
    simp [hbr.cell, h1, h3, hb3, ho3.code.is, ho3.code.len, i64w (n := lastP o k + 2) (by omega), i64w (n := (o.code.length : Int) - 2) (by omega)]
    by_cases hp : placedAt o k = true
    · rw [if_neg (by rw [hpa] at hp; simp at hp; omega)]
      simp [ir89_k0, ir89_k1, h10, h9, h8, h1, hbr.cell, i64w (n := (k : Int) + 1) (by omega)]
      refine ⟨hE1.trans' hE3, by simp [lastP, hlt], fun j hj => ?_⟩
      by_cases hjk : j = k
      · subst hjk; exact hp
      · exact hall j (by omega)
    · rw [if_pos (by rw [hpa] at hp; simp at hp; omega)]
      refine ⟨?_, (hE.trans' hE1).trans' hE3⟩
      simp only [Bool.false_eq, placedB, List.all_eq_false, List.mem_range]
      exact ⟨k, hlt, hp⟩
  · have hk' : k = o.relocs.length := by omega
    subst hk'
    simp [ir89_l3, ir89_k4, h10, h9]
    refine ⟨?_, hE.trans' hE1⟩
    simp only [placedB, List.all_eq_true, List.mem_range]
    exact fun j hj => hall j hj

theorem lk_empty {w : World} {n c r : Value} {o : Obj} (ho : ObjC w n c r o) (hp : ∀ r ∈ o.relocs, posIn o r = true) :
    Calls Tryd.prog 90 #[.agg #[n, c, r]] w fun e w' => e = .returned (.bool (o.relocs.all (zeroAt o))) ∧ Ext w w' := by
  refine ir90_calls fun ρ h0 => ?_
  simp [ir90, h0]
  refine eff_box fun B W hB hE hb _ => ?_
  simp [h0, Value.cells] at hb
  simp [hb.cell]
  have ho' := ho.ext hE
  refine (lk_containsR (f := 100) (caps := #[.pointer (some ⟨B, 0, none⟩)]) (p := fun r => !zeroAt o r) (by simp) ho'.rels fun r hr w' hw' => by simpa using lk_rel100 (ho'.ext hw') (hb.ext hw') r (hp r hr)).mono ?_
  rintro _ w2 ⟨rfl, hw2⟩
  simp
  exact ⟨by rw [← List.not_all_eq_any_not], hE.trans' hw2⟩

theorem retK_c1 {t n B : Nat} {ρ : Env} {w : World} {cs : Array Value} {T : TypeId} {R : Ending → World → Prop} (hp : ρ t = .pointer (some ⟨B, 0, none⟩)) (hb : Blk w B cs T) (hn : cs.size = n) (h : R (.returned (.agg cs)) w) : retK [.cellN t n] R ρ w := by
  subst hn
  simp only [retK, resVals, RV.val, hp, pv1_loadN, row_blk hb, Option.map_some, Option.bind_some]
  exact h

def rulesV : Value := .agg #[.func (.func 87) #[] #[], .func (.func 88) #[] #[], .func (.func 89) #[] #[], .func (.func 90) #[] #[]]
theorem lk_rules {w : World} : Calls Tryd.prog 74 #[] w fun e w' => e = .returned rulesV ∧ Ext w w' := by
  refine ir74_calls fun ρ => ?_
  simp [ir74]
  refine eff_alloc z116 fun B W hB hE hb _ => ?_
  simp [bu116]
  refine eff_storeN (by simp) hb (by simp [Value.cells]) (by simp [Value.cells]; decide) sz116 fun W2 hO2 hb2 => ?_
  simp [Value.cells] at hb2
  simp
  refine retK_c1 (by simp) hb2 rfl ?_
  exact ⟨rfl, hO2.ext hE hB⟩

def ruleB (o : Obj) : Nat → Bool
  | 0 => isName o.name && o.relocs.all fun r => isName r.name
  | 1 => decide (o.code.length ≤ 20000) && decide (o.relocs.length ≤ 2000)
  | 2 => placedB o
  | _ => o.relocs.all (zeroAt o)
def ruleF (k : Nat) : Nat := 87 + k

theorem posIn_of {o : Obj} (h : placedB o = true) : ∀ r ∈ o.relocs, posIn o r = true := by
  intro r hr
  obtain ⟨j, hj, rfl⟩ := List.getElem_of_mem hr
  simp only [placedB, List.all_eq_true, List.mem_range] at h
  have := h j hj
  simp only [placedAt, List.getElem?_eq_getElem hj, Bool.and_eq_true] at this
  exact this.1

theorem lk_rule {w : World} {n c r : Value} {o : Obj} (ho : ObjC w n c r o) (k : Nat) (hk : k < 4) (hall : ∀ j, j < k → ruleB o j = true) :
    Calls Tryd.prog (ruleF k) #[.agg #[n, c, r]] w fun e w' => e = .returned (.bool (ruleB o k)) ∧ Ext w w' := by
  match k, hk with
  | 0, _ => exact lk_named ho
  | 1, _ => exact lk_short ho
  | 2, _ => exact lk_placed ho
  | 3, _ => exact lk_empty ho (posIn_of (hall 2 (by omega)))

theorem rules_all (o : Obj) : (List.range 4).all (ruleB o) = true ↔ ∀ k, k < 4 → ruleB o k = true := by
  simp only [List.all_eq_true, List.mem_range]
theorem checkObj_rules (o : Obj) : checkObj o = if (List.range 4).all (ruleB o) = true then 0 else 161 := by
  have hw : ∀ b : Prop, ∀ [Decidable b], (checkObj o = 0 ↔ b) → checkObj o = if b then 0 else 161 := by
    intro b _ h
    split
    · rename_i hb; exact h.2 hb
    · rename_i hb
      unfold checkObj at h ⊢
      split at h
      · exact absurd (h.1 rfl) hb
      · rename_i hc; rw [if_neg hc]
  have key : checkObj o = 0 ↔ ∀ k, k < 4 → ruleB o k = true := by
    have h0 : checkObj o = 0 ↔ (objShape o && (List.range o.relocs.length).all (fun i => !relBadAt o i)) = true := by
      unfold checkObj; split <;> simp_all
    rw [h0]
    simp only [Bool.and_eq_true, objShape, decide_eq_true_eq, List.all_eq_true, List.mem_range, Bool.not_eq_true']
    have rel : ∀ i (hi : i < o.relocs.length), (relBadAt o i = false ↔ placedAt o i = true ∧ isName o.relocs[i].name = true ∧ zeroAt o o.relocs[i] = true) := by
      intro i hi
      simp only [relBadAt, placedAt, List.getElem?_eq_getElem hi, relBad, posIn, zeroAt, Bool.or_eq_false_iff, Bool.not_eq_false', decide_eq_false_iff_not, Bool.and_eq_true, decide_eq_true_eq, Bool.not_eq_true', Bool.and_eq_false_imp]
      constructor
      · rintro ⟨⟨⟨⟨⟨h1, h2⟩, h3⟩, h4⟩, h5⟩, h6⟩
        exact ⟨⟨⟨by omega, by omega⟩, h4⟩, h3, by omega, by omega⟩
      · rintro ⟨⟨⟨h1, h2⟩, h4⟩, h3, h5, h6⟩
        exact ⟨⟨⟨⟨⟨by omega, by omega⟩, h3⟩, h4⟩, by omega⟩, by omega⟩
    constructor
    · rintro ⟨⟨⟨h1, h2⟩, h3⟩, h4⟩ k hk
      match k, hk with
      | 0, _ =>
        simp only [ruleB, Bool.and_eq_true, List.all_eq_true]
        refine ⟨h1, fun r hr => ?_⟩
        obtain ⟨j, hj, rfl⟩ := List.getElem_of_mem hr
        exact ((rel j hj).1 (h4 j hj)).2.1
      | 1, _ => simp [ruleB, h2, h3]
      | 2, _ =>
        simp only [ruleB, placedB, List.all_eq_true, List.mem_range]
        exact fun j hj => ((rel j hj).1 (h4 j hj)).1
      | 3, _ =>
        simp only [ruleB, List.all_eq_true]
        intro r hr
        obtain ⟨j, hj, rfl⟩ := List.getElem_of_mem hr
        exact ((rel j hj).1 (h4 j hj)).2.2
    · intro h
      have a0 := h 0 (by omega)
      have a1 := h 1 (by omega)
      have a2 := h 2 (by omega)
      have a3 := h 3 (by omega)
      simp only [ruleB, placedB, Bool.and_eq_true, List.all_eq_true, List.mem_range, decide_eq_true_eq] at a0 a1 a2 a3
      exact ⟨⟨⟨a0.1, a1.1⟩, a1.2⟩, fun i hi => (rel i hi).2 ⟨a2 i hi, a0.2 _ (List.getElem_mem hi), a3 _ (List.getElem_mem hi)⟩⟩
  exact hw _ (key.trans (rules_all o).symm)

theorem lk_Check {w : World} {n c r : Value} {o : Obj} (ho : ObjC w n c r o) :
    Calls Tryd.prog 44 #[.agg #[n, c, r]] w fun e w' => e = .returned (.int .i64 (checkObj o)) ∧ Ext w w' := by
  refine ir44_calls fun ρ h0 => ?_
  simp [ir44, h0]
  refine eff_box fun B W hB hE hb _ => ?_
  simp [h0, Value.cells] at hb
  simp
  refine lk_rules.mono ?_
  rintro _ w1 ⟨rfl, hw1⟩
  simp
  refine loopC 6 4 (fun k ρ' w' => Ext w1 w' ∧ ρ' 1 = .pointer (some ⟨B, 0, none⟩) ∧ ρ' 5 = rulesV ∧ ∀ j, j < k → ruleB o j = true) (by simp) ⟨ext_refl _, by simp, by simp, by simp⟩ ?_
  rintro k ρ' w' hk h6 ⟨hE1, h1, h5, hall⟩
  by_cases hlt : k < 4
  · simp [ir44_l2, ir44_k1, h6, (show (k : Int) < 4 by omega)]
    refine eff_indexA (n := 4) (e := 115) (v := .func (.func (ruleF k)) #[] #[]) (cs := #[.func (.func 87) #[] #[], .func (.func 88) #[] #[], .func (.func 89) #[] #[], .func (.func 90) #[] #[]]) (inf := _) (by kernel_rfl) rfl (by kernel_rfl) (by simpa [rulesV] using h5) (by simpa using h6) hlt (by match k, hlt with | 0, _ => rfl | 1, _ => rfl | 2, _ => rfl | 3, _ => rfl) (by kernel_rfl) ?_
    have hb1 := (hb.ext hw1).ext hE1
    simp [h1, hb1.cell, bu119]
    refine eff_callv (f := ruleF k) (by match k, hlt with | 0, _ => exact cc87 | 1, _ => exact cc88 | 2, _ => exact cc89 | 3, _ => exact cc90) (fs := #[]) (caps := #[]) (by simp) ?_
    simp
    refine (lk_rule (ho.ext ((hE.trans' hw1).trans' hE1)) k hlt hall).mono ?_
    rintro _ w2 ⟨rfl, hw2⟩
    by_cases hr : ruleB o k = true
    · simp [hr, ir44_k0, h6, h1, h5, i64w (n := (k : Int) + 1) (by omega)]
      refine ⟨hlt, hE1.trans' hw2, fun j hj => ?_⟩
      by_cases hjk : j = k
      · subst hjk; exact hr
      · exact hall j (by omega)
    · simp [hr]
      refine ⟨?_, ((hE.trans' hw1).trans' hE1).trans' hw2⟩
      rw [checkObj_rules, if_neg]
      exact fun h => hr ((rules_all o).1 h k hlt)
  · have hk' : k = 4 := by omega
    subst hk'
    simp [ir44_l2, ir44_k3, h6]
    refine ⟨?_, (hE.trans' hw1).trans' hE1⟩
    rw [checkObj_rules, if_pos ((rules_all o).2 hall)]
end Go.L16
