/- Texts of mine for the claims about layer 1 (token), joined: L01A. -/
import Derived.Test.YtmpmccjmcclalaaGreatDoorJau
import Derived.Test.YtmpmccjmcclalaaGreatDoorJas
set_option linter.all false
set_option linter.unusedSimpArgs false
set_option linter.unusedVariables false
/- Layer 1: contracts: bytes, runs, words, signs. -/
namespace Go.L01
open Go Go.Eng Go.RowKit Go.Proofs
set_option maxRecDepth 100000
set_option maxHeartbeats 2000000

/-! ### What the program's tables hold -/
structure G (w : World) : Prop where
  sp : ∀ c : Nat, c < 256 → w.cell? ⟨0, c, none⟩ = some (.int .u8 (if Lib.isSp (UInt8.ofNat c) then 1 else 0))
  pow : Lib.TabIs Tryz.prog w "internal/strconv.uint64pow10" .u64 Lib.pow10Tab
  es : ∃ te pe, w.cell? ⟨2, 0, none⟩ = some (.iface te pe)
  er : ∃ te pe, w.cell? ⟨3, 0, none⟩ = some (.iface te pe)
theorem G.ext {w w' : World} (h : G w) (hE : Ext w w') : G w' := by
  refine ⟨fun c hc => hE.cell (h.sp c hc), ?_, let ⟨te, pe, h1⟩ := h.es; ⟨te, pe, hE.cell h1⟩, let ⟨te, pe, h1⟩ := h.er; ⟨te, pe, hE.cell h1⟩⟩
  have hp := h.pow
  unfold Lib.TabIs World.var? at hp ⊢
  cases hg : Tryz.prog.globalNamed "internal/strconv.uint64pow10" with
  | none => rw [hg] at hp; cases hp
  | some g =>
    rw [hg] at hp
    simp only [Option.bind_some] at hp ⊢
    cases hh : w.heap[g]? with
    | none => rw [hh] at hp; cases hp
    | some o => rw [hE.block g (Array.getElem?_eq_some_iff.1 hh).1]; exact hp

def encT (b : Bs) : Value := .string (mkS b)
abbrev SlT (w : World) (v : Value) (l : List Bs) : Prop := Sl encT w v l
@[simp] theorem mkS_get (b : Bs) (i : Nat) : (mkS b)[i]? = b[i]? := by
  show (mkS b).data[i]? = _
  simp [mkS]
theorem str_get {b : Bs} {i : Nat} (h : i < b.length) : ((mkS b)[i]?).map (fun c : UInt8 => Value.int .u8 c.toNat) = some (encB b[i]) := by
  rw [mkS_get, List.getElem?_eq_getElem h]; rfl
theorem tw_len {p : UInt8 → Bool} : ∀ (s : Bs) (k : Nat), k ≤ s.length → (∀ j (hj : j < s.length), j < k → p s[j] = true) → (∀ hk : k < s.length, p s[k] = false) → (s.takeWhile p).length = k
  | [], k, hk, _, _ => by simp at hk; subst hk; rfl
  | a :: s, 0, _, _, h2 => by
    have : p a = false := h2 (by simp)
    simp [List.takeWhile_cons, this]
  | a :: s, k + 1, hk, h1, h2 => by
    have ha : p a = true := h1 0 (by simp) (by omega)
    have ih := tw_len s k (by simpa using hk) (fun j hj hjk => h1 (j + 1) (by simpa using hj) (by omega)) (fun hk => h2 (by simpa using hk))
    simp [List.takeWhile_cons, ha, ih]

@[simp] theorem cb38 : callB Tryz.prog 38 = true := by kernel_rfl
@[simp] theorem cb57 : callB Tryz.prog 57 = true := by kernel_rfl
@[simp] theorem cb42 : callB Tryz.prog 42 = true := by kernel_rfl
@[simp] theorem cb58 : callB Tryz.prog 58 = true := by kernel_rfl
@[simp] theorem cb46 : callB Tryz.prog 46 = true := by kernel_rfl
@[simp] theorem cb47 : callB Tryz.prog 47 = true := by kernel_rfl
@[simp] theorem cb18 : callB Tryz.prog 18 = true := by kernel_rfl
@[simp] theorem cb19 : callB Tryz.prog 19 = true := by kernel_rfl
@[simp] theorem cb20 : callB Tryz.prog 20 = true := by kernel_rfl
@[simp] theorem cb21 : callB Tryz.prog 21 = true := by kernel_rfl
@[simp] theorem cb44 : callB Tryz.prog 44 = true := by kernel_rfl
@[simp] theorem cb45 : callB Tryz.prog 45 = true := by kernel_rfl
@[simp] theorem cb15 : callB Tryz.prog 15 = true := by kernel_rfl
@[simp] theorem cb16 : callB Tryz.prog 16 = true := by kernel_rfl

theorem u8_eq (c : UInt8) (n : Nat) (hn : n < 256) : ((c.toNat : Int) = (n : Int)) ↔ c = UInt8.ofNat n := by
  rw [Int.ofNat_inj, ← UInt8.toNat_inj]
  have : (UInt8.ofNat n).toNat = n := by simp; omega
  rw [this]
theorem lt2 (c : UInt8) (a b : Nat) : (decide ((a : Int) ≤ (c.toNat : Int)) && decide ((c.toNat : Int) ≤ (b : Int))) = (decide (a ≤ c.toNat) && decide (c.toNat ≤ b)) := by
  rw [Bool.eq_iff_iff]
  simp only [Bool.and_eq_true, decide_eq_true_eq]
  omega
theorem t_letter (c : UInt8) (w : World) : Calls Tryz.prog 38 #[encB c] w fun e w' => e = .returned (.bool (letter c)) ∧ w' = w := by
  refine ir38_calls fun ρ h0 => ?_
  simp [ir38, h0, encB, letter]
  exact lt2 c 97 122
theorem t_digit (c : UInt8) (w : World) : Calls Tryz.prog 57 #[encB c] w fun e w' => e = .returned (.bool (digit c)) ∧ w' = w := by
  refine ir57_calls fun ρ h0 => ?_
  simp [ir57, h0, encB, digit]
  exact lt2 c 48 57
theorem r_letter (c : UInt8) (w : World) : Calls Tryz.prog 42 #[encB c] w fun e w' => e = .returned (.bool (letter c)) ∧ w' = w := by
  refine ir42_calls fun ρ h0 => ?_
  simp [ir42, h0, encB, letter]
  exact lt2 c 97 122
theorem r_digit (c : UInt8) (w : World) : Calls Tryz.prog 58 #[encB c] w fun e w' => e = .returned (.bool (digit c)) ∧ w' = w := by
  refine ir58_calls fun ρ h0 => ?_
  simp [ir58, h0, encB, digit]
  exact lt2 c 48 57
theorem t_part (c : UInt8) (w : World) : Calls Tryz.prog 41 #[encB c] w fun e w' => e = .returned (.bool (part c)) ∧ w' = w := by
  refine ir41_calls fun ρ h0 => ?_
  simp [ir41, h0]
  refine (t_letter c w).mono ?_
  rintro _ _ ⟨rfl, rfl⟩
  cases hl : letter c with
  | true => simp [part, hl]
  | false =>
    simp [h0]
    refine (t_digit c _).mono ?_
    rintro _ _ ⟨rfl, rfl⟩
    simp [part, hl]
theorem t_blank (c : UInt8) (w : World) : Calls Tryz.prog 109 #[encB c] w fun e w' => e = .returned (.bool (blank c)) ∧ w' = w := by
  refine ir109_calls fun ρ h0 => ?_
  simp [ir109, h0, encB, blank]
  rw [Bool.eq_iff_iff]
  simp only [Bool.or_eq_true, decide_eq_true_eq, beq_iff_eq]
  exact or_congr (or_congr (u8_eq c 32 (by decide)) (u8_eq c 9 (by decide))) (u8_eq c 10 (by decide))

theorem str_ix {b : Bs} {i : Nat} (h : i < b.length) : Option.map (fun c : UInt8 => Value.int .u8 (c.toNat : Int)) (mkS b)[i]? = some (encB b[i]) := str_get h

theorem r_run (s : Bs) (hs : s.length < 4611686018427387904) (w : World) : Calls Tryz.prog 43 #[.string (mkS s)] w fun e w' => e = .returned (.int .i64 (runL s)) ∧ w' = w := by
  refine ir43_calls fun ρ h0 => ?_
  simp [ir43]
  refine loopC 3 s.length (fun k ρ' w' => w' = w ∧ ρ' 0 = .string (mkS s) ∧ ∀ j (hj : j < s.length), j < k → part s[j] = true) (by simp) ⟨rfl, by simp [h0], by simp⟩ ?_
  rintro k ρ' w' hk h3 ⟨rfl, h0, hall⟩
  by_cases hlt : k < s.length
  · have fin : part s[k] = false → runL s = k := fun hp => tw_len s k (by omega) (fun j hj h => hall j hj h) (fun _ => hp)
    simp [ir43_l1, h3, h0, hlt]
    refine (r_letter s[k] _).mono ?_
    rintro _ _ ⟨rfl, rfl⟩
    cases hl : letter s[k] with
    | true =>
      simp [ir43_k0, h3, i64w (n := (k : Int) + 1) (by omega), h0]
      intro j hj hjk
      by_cases e : j = k
      · subst e; simp [part, hl]
      · exact hall j hj (by omega)
    | false =>
      simp [h3, h0, hlt]
      refine (r_digit s[k] _).mono ?_
      rintro _ _ ⟨rfl, rfl⟩
      cases hd : digit s[k] with
      | true =>
        simp [ir43_k0, h3, i64w (n := (k : Int) + 1) (by omega), h0]
        intro j hj hjk
        by_cases e : j = k
        · subst e; simp [part, hd]
        · exact hall j hj (by omega)
      | false => simp [ir43_k2, h3, fin (by simp [part, hl, hd])]
  · have hk' : k = s.length := by omega
    subst hk'
    simp [ir43_l1, h3, h0, ir43_k2, undef]
    rw [runL, tw_len s s.length (Nat.le_refl _) (fun j hj h => hall j hj h) (fun h => by omega)]
theorem r_digits (s : Bs) (hs : s.length < 4611686018427387904) (w : World) : Calls Tryz.prog 85 #[.string (mkS s)] w fun e w' => e = .returned (.int .i64 (digitsL s)) ∧ w' = w := by
  refine ir85_calls fun ρ h0 => ?_
  simp [ir85]
  refine loopC 3 s.length (fun k ρ' w' => w' = w ∧ ρ' 0 = .string (mkS s) ∧ ∀ j (hj : j < s.length), j < k → digit s[j] = true) (by simp) ⟨rfl, by simp [h0], by simp⟩ ?_
  rintro k ρ' w' hk h3 ⟨rfl, h0, hall⟩
  by_cases hlt : k < s.length
  · have fin : digit s[k] = false → digitsL s = k := fun hp => tw_len s k (by omega) (fun j hj h => hall j hj h) (fun _ => hp)
    simp [ir85_l1, h3, h0, hlt]
    refine (r_digit s[k] _).mono ?_
    rintro _ _ ⟨rfl, rfl⟩
    cases hd : digit s[k] with
    | true =>
      simp [ir85_k0, h3, i64w (n := (k : Int) + 1) (by omega), h0]
      intro j hj hjk
      by_cases e : j = k
      · subst e; exact hd
      · exact hall j hj (by omega)
    | false => simp [ir85_k2, h3, fin hd]
  · have hk' : k = s.length := by omega
    subst hk'
    simp [ir85_l1, h3, h0, ir85_k2, undef]
    rw [digitsL, tw_len s s.length (Nat.le_refl _) (fun j hj h => hall j hj h) (fun h => by omega)]
theorem r_comment (s : Bs) (hs : s.length < 4611686018427387904) (w : World) : Calls Tryz.prog 65 #[.string (mkS s)] w fun e w' => e = .returned (.int .i64 (comLen s)) ∧ w' = w := by
  refine ir65_calls fun ρ h0 => ?_
  simp [ir65]
  refine loopC 3 s.length (fun k ρ' w' => w' = w ∧ ρ' 0 = .string (mkS s) ∧ ∀ j (hj : j < s.length), j < k → s[j] ≠ 10) (by simp) ⟨rfl, by simp [h0], by simp⟩ ?_
  rintro k ρ' w' hk h3 ⟨rfl, h0, hall⟩
  by_cases hlt : k < s.length
  · have fin : s[k] = 10 → comLen s = k := fun hp => tw_len s k (by omega) (fun j hj h => by simpa using hall j hj h) (fun _ => by simpa using hp)
    have hu := u8_eq s[k] 10 (by decide)
    simp [ir65_l1, h3, h0, hlt]
    by_cases h10 : s[k] = 10
    · have h10' : (s[k].toNat : Int) = 10 := hu.2 h10
      simp [h10', ir65_k2, h3, fin h10]
    · have h10' : ¬ (s[k].toNat : Int) = 10 := fun h => h10 (hu.1 h)
      simp [h10', ir65_k0, h3, i64w (n := (k : Int) + 1) (by omega), h0]
      intro j hj hjk
      by_cases e : j = k
      · subst e; exact h10
      · exact hall j hj (by omega)
  · have hk' : k = s.length := by omega
    subst hk'
    simp [ir65_l1, h3, h0, ir65_k2]
    rw [comLen, tw_len s s.length (Nat.le_refl _) (fun j hj h => by simpa using hall j hj h) (fun h => by omega)]

theorem r_in {w : World} {v : Value} {l : List Bs} (s : Bs) (hl : SlT w v l) : Calls Tryz.prog 45 #[v, .string (mkS s)] w fun e w' => e = .returned (.bool (l.contains s)) ∧ w' = w := by
  have hbd := hl.bd
  refine ir45_calls fun ρ h0 h1 => ?_
  simp [ir45]
  refine loopC 5 l.length (fun k ρ' w' => w' = w ∧ ρ' 0 = v ∧ ρ' 1 = .string (mkS s) ∧ ∀ j (hj : j < l.length), j < k → l[j] ≠ s) (by simp) ⟨rfl, by simp [h0], by simp [h1], by simp⟩ ?_
  rintro k ρ' w' hk h5 ⟨rfl, h0, h1, hall⟩
  by_cases hlt : k < l.length
  · simp [ir45_l2, ir45_k1, h5, h0, h1, hl.is, hl.len, hlt, hl.cell k hlt, encT, mkS_inj]
    by_cases he : l[k] = s
    · simp [he]
      exact he ▸ List.getElem_mem hlt
    · simp [he, ir45_k0, h5, i64w (n := (k : Int) + 1) (by omega), h0, h1]
      intro j hj hjk
      by_cases e : j = k
      · subst e; exact he
      · exact hall j hj (by omega)
  · have hk' : k = l.length := by omega
    subst hk'
    simp [ir45_l2, h5, h0, hl.is, hl.len, ir45_k3]
    intro hm
    obtain ⟨j, hj, rfl⟩ := List.getElem_of_mem hm
    exact hall j hj hj rfl
theorem r_SameStrings {w : World} {v u : Value} {l m : List Bs} (hl : SlT w v l) (hm : SlT w u m) :
    Calls Tryz.prog 17 #[v, u] w fun e w' => e = .returned (.bool (decide (l = m))) ∧ Ext w w' := by
  have hbd := hl.bd
  refine ir17_calls fun ρ h0 h1 => ?_
  simp [ir17, h0, h1, hl.is, hl.len, hm.is, hm.len]
  by_cases hlen : l.length = m.length
  · simp [hlen, ir17_k5]
    refine loopC 5 m.length (fun k ρ' w' => Ext w w' ∧ ρ' 0 = v ∧ ρ' 1 = u ∧ ∀ j (hj : j < m.length), j < k → l[j]'(by omega) = m[j]) (by simp) ⟨ext_refl _, by simp [h0], by simp [h1], by simp⟩ ?_
    rintro k ρ' w' hk h5 ⟨hE, h0, h1, hall⟩
    have hl' := hl.ext hE
    have hm' := hm.ext hE
    by_cases hlt : k < m.length
    · have hltl : k < l.length := by omega
      simp [ir17_l3, ir17_k2, h5, h0, h1, hl'.is, hl'.len, hm'.is, hm'.len, hlt, hltl, hl'.cell k hltl, hm'.cell k hlt, encT, mkS_inj]
      intro w2 hE2
      by_cases he : l[k] = m[k]
      · simp [he, ir17_k0, ir17_k1, h5, i64w (n := (k : Int) + 1) (by omega), h0, h1]
        refine ⟨hE.trans' hE2, fun j hj hjk => ?_⟩
        by_cases e : j = k
        · subst e; exact he
        · exact hall j hj (by omega)
      · simp [he, ir17_k0]
        refine ⟨fun e => he (by subst e; rfl), hE.trans' hE2⟩
    · have hk' : k = m.length := by omega
      subst hk'
      simp [ir17_l3, h5, h0, hl'.is, hl'.len, hlen, ir17_k4]
      exact ⟨List.ext_getElem hlen fun j h1 h2 => hall j h2 h2, hE⟩
  · have : l ≠ m := fun e => hlen (by rw [e])
    simp [hlen, this]
    exact ext_refl _
end Go.L01
