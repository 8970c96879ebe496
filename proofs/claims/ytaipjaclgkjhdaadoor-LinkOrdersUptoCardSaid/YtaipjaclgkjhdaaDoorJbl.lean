/- Texts of mine for the claims about layer 16 (link), joined: L16s, L16t. -/
import Derived.Test.YtaipjaclgkjhdaaDoorJbj
import Derived.Test.YtaipjaclgkjhdaaDoorJbk
set_option linter.all false
set_option linter.unusedSimpArgs false
set_option linter.unusedVariables false
/- Layer 16: contracts of the link package: the reader. -/
namespace Go.L16
open Go Go.Eng Go.RowKit Go.Proofs
set_option maxRecDepth 100000

theorem bu93 : Tryd.prog.built 93 [] = some #[] := by kernel_rfl
/-- What is given up for. -/
def shortV : Value := .iface 93 (.agg #[])
def shortC : List PanicEntry := [{ v := shortV, recovered := false }]

theorem slSub0 {α : Type} {enc : α → Value} {w : World} {v : Value} {xs : List α} (h : Sl enc w v xs) (n : Nat) (hn : n ≤ xs.length) : Sl enc w (slSub v 1 0 n n) (xs.take n) := by
  have hc := isSl_len_cap h.is
  have := h.sub (l := 0) (r := n) (m := n) (by omega) hn (Nat.le_refl _) (by have := h.len; omega)
  simpa using this
theorem slSubN {α : Type} {enc : α → Value} {w : World} {v : Value} {xs : List α} (h : Sl enc w v xs) (n : Nat) (hn : n ≤ xs.length) : Sl enc w (slSub v 1 n (slLen v) (slCap v)) (xs.drop n) := by
  have hc := isSl_len_cap h.is
  have hl := h.len
  have := h.sub (l := n) (r := xs.length) (m := slCap v) (by omega) (Nat.le_refl _) (by omega) (Nat.le_refl _)
  rw [List.take_length, ← hl] at this
  exact this

theorem lk_take {w0 w : World} {rB : Nat} {lv : Value} {rest : List UInt8} (hl : Sl encB w0 lv rest) (hE : Ext w0 w) (hb : Blk w rB #[lv] 96) (n : Nat) :
    Calls Tryd.prog 62 #[.pointer (some ⟨rB, 0, none⟩), .int .i64 n] w fun e w' =>
      (n ≤ rest.length ∧ ∃ x lv', e = .returned x ∧ Sl encB w0 x (rest.take n) ∧ Only rB w w' ∧ Blk w' rB #[lv'] 96 ∧ Sl encB w0 lv' (rest.drop n)) ∨ (rest.length < n ∧ e = .panicked shortC ∧ w' = w) := by
  have hlw := hl.ext hE
  have hcap := isSl_len_cap hl.is
  refine ir62_calls fun ρ h0 h1 => ?_
  simp [ir62, h0, h1, hb.cell, hl.is, hl.len]
  by_cases hn : rest.length < n
  · have hn' : ¬ n ≤ rest.length := by omega
    simp [hn, bu93]
    refine eff_panic (t := 93) (v := .agg #[]) (by simp) ?_
    simp [hn', hn]
    rfl
  · have hn' : n ≤ rest.length := by omega
    have hlen := hl.len
    simp [hn, ir62_k0, h0, h1, hb.cell, hl.is, (show n ≤ slCap lv by omega), hlen, hn']
    have h2 := slSubN hl n hn'
    refine eff_store1 (B := rB) (i := 0) (by simp) hb (by simp) (by simp; exact isSl_cells (by rw [← hlen]; exact h2.is)) (by simp; exact isSl_one (by rw [← hlen]; exact h2.is)) sz24 fun W7 hO7 hb7 => ?_
    simp at hb7 ⊢
    refine ⟨slSub0 hl n hn', hO7, _, hb7, ?_⟩
    rw [← hlen]; exact h2

theorem lk_one {w0 w : World} {rB : Nat} {lv : Value} {rest : List UInt8} (hl : Sl encB w0 lv rest) (hE : Ext w0 w) (hB : w0.heap.size ≤ rB) (hb : Blk w rB #[lv] 96) :
    Calls Tryd.prog 61 #[.pointer (some ⟨rB, 0, none⟩)] w fun e w' =>
      (∃ z r lv', rest = z :: r ∧ e = .returned (.int .i64 z.toNat) ∧ Only rB w w' ∧ Blk w' rB #[lv'] 96 ∧ Sl encB w0 lv' r) ∨ (rest = [] ∧ e = .panicked shortC ∧ w' = w) := by
  obtain ⟨Post, hPost⟩ : ∃ P : Ending → World → Prop, P = fun e w' => (∃ z r lv', rest = z :: r ∧ e = .returned (.int .i64 z.toNat) ∧ Only rB w w' ∧ Blk w' rB #[lv'] 96 ∧ Sl encB w0 lv' r) ∨ (rest = [] ∧ e = .panicked shortC ∧ w' = w) := ⟨_, rfl⟩
  rw [← hPost]
  refine ir61_calls fun ρ h0 => ?_
  simp [ir61, h0]
  refine (lk_take hl hE hb 1).mono ?_
  rintro e w' (⟨hn, x, lv', rfl, hx, hO, hb', hl'⟩ | ⟨hn, rfl, rfl⟩)
  · cases rest with
    | nil => simp at hn
    | cons z r =>
      have hx' := hx.ext (hO.ext hE hB)
      have hc := hx'.cell 0 (by simp)
      have hz := z.toNat_lt
      simp at hc hl'
      simp [hx.is, hx.len, hc, encB, i64w (n := (z.toNat : Int)) (by omega)]
      rw [hPost]
      exact .inl ⟨z, r, lv', rfl, rfl, hO, hb', hl'⟩
  · have : rest = [] := by cases rest; rfl; simp at hn
    subst this
    simp
    rw [hPost]
    exact .inr ⟨rfl, rfl, rfl⟩

theorem word_step (n c : Nat) (hn : n < 16777216) (hc : c < 256) : IntKind.i64.wrap ((BitVec.ofInt IntKind.i64.bits (IntKind.i64.wrap ((n : Int) * 2 ^ min 8 IntKind.i64.bits)) ||| BitVec.ofInt IntKind.i64.bits (c : Int)).toNat : Int) = ((n * 256 + c : Nat) : Int) := by
  rw [shl_fact n 256 8 rfl (by omega)]
  exact or64 _ _ 8 (by decide) (by omega) (by omega) (by omega) (by omega)

def wordUpto (b : List UInt8) (k : Nat) : Nat := (b.take k).foldl (fun n c => n * 256 + c.toNat) 0
theorem wordUpto_lt (b : List UInt8) : ∀ k, k ≤ b.length → wordUpto b k < 256 ^ k
  | 0, _ => by simp [wordUpto]
  | k + 1, hk => by
    have ih := wordUpto_lt b k (by omega)
    have hz := (b[k]'(by omega)).toNat_lt
    unfold wordUpto at ih ⊢
    rw [List.take_succ_eq_append_getElem (by omega), List.foldl_append]
    simp only [List.foldl_cons, List.foldl_nil, Nat.pow_succ]
    omega

theorem lk_word {w0 w : World} {rB : Nat} {lv : Value} {rest : List UInt8} (hl : Sl encB w0 lv rest) (hE : Ext w0 w) (hB : w0.heap.size ≤ rB) (hb : Blk w rB #[lv] 96) :
    Calls Tryd.prog 63 #[.pointer (some ⟨rB, 0, none⟩)] w fun e w' =>
      (4 ≤ rest.length ∧ ∃ lv', e = .returned (.int .i64 (be4 rest)) ∧ Only rB w w' ∧ Blk w' rB #[lv'] 96 ∧ Sl encB w0 lv' (rest.drop 4)) ∨ (rest.length < 4 ∧ e = .panicked shortC ∧ w' = w) := by
  obtain ⟨Post, hPost⟩ : ∃ P : Ending → World → Prop, P = fun e w' => (4 ≤ rest.length ∧ ∃ lv', e = .returned (.int .i64 (be4 rest)) ∧ Only rB w w' ∧ Blk w' rB #[lv'] 96 ∧ Sl encB w0 lv' (rest.drop 4)) ∨ (rest.length < 4 ∧ e = .panicked shortC ∧ w' = w) := ⟨_, rfl⟩
  rw [← hPost]
  refine ir63_calls fun ρ h0 => ?_
  simp [ir63, h0]
  refine (lk_take hl hE hb 4).mono ?_
  rintro e w' (⟨hn, x, lv', rfl, hx, hO, hb', hl'⟩ | ⟨hn, rfl, rfl⟩)
  · have hx' := hx.ext (hO.ext hE hB)
    have h4 : (rest.take 4).length = 4 := by simp; omega
    have hxl := hx.len
    rw [h4] at hxl
    simp [hx.is, hxl]
    refine loopC 9 4 (fun k ρ' W' => W' = w' ∧ ρ' 7 = x ∧ ρ' 8 = .int .i64 4 ∧ ρ' 3 = .int .i64 (wordUpto (rest.take 4) k)) (by simp) ⟨rfl, by simp, by simp, by simp [wordUpto]⟩ ?_
    rintro k ρ' W' hk h9 ⟨rfl, h7, h8, h3⟩
    by_cases hlt : k < 4
    · have hkl : k < (rest.take 4).length := by omega
      have hc := hx'.cell k hkl
      have hu := wordUpto_lt (rest.take 4) k (by omega)
      have hp : 256 ^ k ≤ 16777216 := by
        have : k = 0 ∨ k = 1 ∨ k = 2 ∨ k = 3 := by omega
        rcases this with rfl | rfl | rfl | rfl <;> decide
      have hz := ((rest.take 4)[k]).toNat_lt
      have hs : wordUpto (rest.take 4) (k + 1) = wordUpto (rest.take 4) k * 256 + ((rest.take 4)[k]).toNat := by
        unfold wordUpto
        rw [List.take_succ_eq_append_getElem hkl, List.foldl_append]
        rfl
      have hstep := word_step (wordUpto (rest.take 4) k) ((rest.take 4)[k]).toNat (by omega) (by omega)
      simp only [ir63_l2, ir63_k1, ir63_k0]
      simp [h9, h8, (show (k : Int) < 4 by omega), h7, hx.is, hxl, hlt, hc, encB, h3, -List.getElem_take, i64w (n := (((rest.take 4)[k]).toNat : Int)) (by omega), i64w (n := (k : Int) + 1) (by omega)]
      rw [hs]
      simpa [-List.getElem_take] using hstep
    · have : k = 4 := by omega
      subst this
      simp [ir63_l2, h9, h8, ir63_k3, h3]
      rw [hPost]
      refine .inl ⟨hn, lv', ?_, hO, hb', hl'⟩
      have e4 : wordUpto (rest.take 4) 4 = be4 rest := by
        match rest, hn with
        | a :: b :: c :: d :: r, _ => simp [wordUpto, be4]; omega
      rw [e4]
  · have : ¬ 4 ≤ rest.length := by omega
    simp
    rw [hPost]
    exact .inr ⟨hn, rfl, rfl⟩
end Go.L16
/- Layer 16: contracts of the link package: Read. -/
namespace Go.L16
open Go Go.Eng Go.RowKit Go.Proofs
set_option maxRecDepth 100000

theorem ifc20 : Tryd.prog.underlying 20 = some (.interface (Tryd.prog.methodsAt 20)) := by kernel_rfl
theorem und93 : Tryd.prog.underlying 93 = some (.struct #[]) := by kernel_rfl
theorem z93 : zeroCellsOf Tryd.prog 93 = some #[] := by kernel_rfl

/-- The closure that Read defers. -/
theorem lk_read1 {w : World} {B2 B3 : Nat} : CallsDIn Fence.wide 0 Tryd.prog 60 #[.pointer (some ⟨B2, 0, none⟩), .pointer (some ⟨B3, 0, none⟩)] .returning w fun e u' w' => (∃ v, e = .returned v) ∧ u' = .returning ∧ w' = w := by
  refine jr60_calls fun ρ h0 h1 => ?_
  simp [jr60, recV, recU]
  refine eff_eqlNilI ifc20 (by simp) ?_
  simp

theorem lk_read1p {w : World} {B2 B3 : Nat} {cs : Array Value} {x : Value} (hc : cs.size = 3) (h2 : Blk w B2 cs 26) (h3 : Blk w B3 #[x] 29) (hne : B2 ≠ B3) :
    CallsDIn Fence.wide 0 Tryd.prog 60 #[.pointer (some ⟨B2, 0, none⟩), .pointer (some ⟨B3, 0, none⟩)] (.panicking shortC) w fun e u' w' => (∃ v, e = .returned v) ∧ settle u' = .returning ∧
      (∃ W, Ext w W ∧ ∃ W2, Only B2 W W2 ∧ Only B3 W2 w') ∧ Blk w' B2 #[.slice none 0 0, .slice none 0 0, .slice none 0 0] 26 ∧ Blk w' B3 #[.int .i64 4] 29 := by
  refine jr60_calls fun ρ h0 h1 => ?_
  simp [jr60, recV, recU, shortC]
  refine eff_eqlNilI' (u := 93) (v := .agg #[]) ifc20 (by simp [shortV]) ?_
  simp
  refine eff_assert (a := 93) (v := .agg #[]) und93 (by simp) (by simp [shortV]) ?_
  simp
  refine eff_alloc z93 fun B W hB hE hb hS => ?_
  have h2' := h2.ext hE
  have h3' := h3.ext hE
  simp
  refine eff_storeN (by simp) hb (by simp [Value.cells]) (by simp [Value.cells]) (by kernel_rfl) fun W1 hO1 hb1 => ?_
  have h2'' := hO1.blk h2' (by have := h2.lt; omega)
  have h3'' := hO1.blk h3' (by have := h3.lt; omega)
  simp [bu26]
  refine eff_storeN (B := B2) (by simp [h0]) h2'' (by simp [Value.cells, hc]) (by simp [Value.cells]) (by simp [hc]; exact sz26) fun W2 hO2 hb2 => ?_
  simp [Value.cells] at hb2 ⊢
  refine eff_store1 (B := B3) (i := 0) (by simp [h1]) (hO2.blk h3'' (Ne.symm hne)) (by simp) (by simp [Value.cells]) (by simp [Value.oneCell]) (by kernel_rfl) fun W3 hO3 hb3 => ?_
  simp at hb3 ⊢
  refine ⟨by rfl, ⟨W1, hO1.ext hE hB, W2, hO2, hO3⟩, hO3.blk hb2 hne, hb3⟩

/-- The state of Read's loop. -/
structure LD (b : List UInt8) (n : Nat) (w W : World) (B2 B3 rB k : Nat) (ρ' : Env) (W' : World) (rest : List UInt8) (lv : Value) (l1 : List (ByteArray × Int)) (nv sv : Value) : Prop where
  h2 : ρ' 2 = .pointer (some ⟨B2, 0, none⟩)
  h3 : ρ' 3 = .pointer (some ⟨B3, 0, none⟩)
  h4 : ρ' 4 = .pointer (some ⟨rB, 0, none⟩)
  h10 : ρ' 10 = .int .i64 n
  hg : ρ' gS = .tuple #[.func (.func 60) #[] #[.pointer (some ⟨B2, 0, none⟩), .pointer (some ⟨B3, 0, none⟩)]]
  ext : Ext w W'
  sz : W.heap.size ≤ W'.heap.size
  b2 : Blk W' B2 #[nv, sv, .slice none 0 0] 26
  b3 : Blk W' B3 #[.int .i64 0] 29
  bx : Blk W' rB #[lv] 96
  sl : Sl encB w lv rest
  own : OwnS W.heap.size W' [⟨nv, 9, 1, l1.map fun p : ByteArray × Int => Value.string p.1⟩, ⟨sv, 3, 1, l1.map fun p : ByteArray × Int => Eng.encI p.2⟩]
  len : l1.length = k
  rl : rest.length ≤ b.length
  ok : ∀ p ∈ l1, p.1.size ≤ 255 ∧ 0 ≤ p.2 ∧ p.2 < 4294967296
  rel : readGo n (b.drop 1) = (readGo (n - k) rest).map fun p => (l1 ++ p.1, p.2)

theorem retK_cN1 {t u n B C : Nat} {cs : Array Value} {x : Value} {T U : TypeId} {R : Ending → World → Prop} {ρ : Env} {w : World} (hp : ρ t = .pointer (some ⟨B, 0, none⟩)) (hb : Blk w B cs T) (hn : cs.size = n) (hq : ρ u = .pointer (some ⟨C, 0, none⟩)) (hc : Blk w C #[x] U)
    (h : R (.returned (.tuple #[.agg cs, x])) w) : retK [.cellN t n, .cell1 u] R ρ w := by
  subst hn
  have h1 : w.cell? ⟨C, 0, none⟩ = some x := by rw [hc.cell]; rfl
  simp only [retK, resVals, RV.val, hp, hq, pv1_loadN, row_blk hb, Option.map_some, Option.bind_some, pv1_load1, h1]
  exact h

theorem bu96 {v : Value} (h : isSl v = true) : Tryd.prog.built 96 [(0, v)] = some #[v] := by
  rcases isSl_cases h with ⟨b, o, n, c, rfl, _⟩ | rfl | ⟨b, o, s, rfl⟩ <;> kernel_rfl
theorem cb60 : callB Tryd.prog 60 = true := by kernel_rfl
theorem resVals_23 (d : Nat) (h2 : d ≠ 2) (h3 : d ≠ 3) (ρ : Env) (v : Value) (w : World) : resVals (upd ρ d v) w [.cellN 2 3, .cell1 3] = resVals ρ w [.cellN 2 3, .cell1 3] := by
  simp [resVals, RV.val, Ne.symm h2, Ne.symm h3]
theorem hpn_of {R : Ending → World → Prop} {l : List Nat} (hl : ∀ d ∈ l, d ≠ gS ∧ d ≠ 2 ∧ d ≠ 3) : ∀ d ∈ l, ∀ ρ v c w, (ksD Tryd.prog [.cellN 2 3, .cell1 3] R).pn (upd ρ d v) c w → (ksD Tryd.prog [.cellN 2 3, .cell1 3] R).pn ρ c w :=
  fun d hd ρ v c w h => endK_upd (hl d hd).1 (fun w => resVals_23 d (hl d hd).2.1 (hl d hd).2.2 ρ v w) h

theorem lk_Read {w : World} {v : Value} {b : List UInt8} (hv : Sl encB w v b) (hlen : b.length ≤ 1000000) : Calls Tryd.prog 24 #[v] w (ReadPost w b) := by
  refine jr24_calls fun ρ h0 hg => ?_
  simp [jr24, h0]
  refine eff_alloc z26 fun B2 W2 hB2 hE2 hb2 hS2 => ?_
  simp
  refine eff_alloc (z := #[.int .i64 0]) (by kernel_rfl) fun B3 W3 hB3 hE3 hb3 hS3 => ?_
  simp
  have hne : B2 ≠ B3 := by omega
  have fail : ∀ (ρ2 : Env) (W' : World) (cs : Array Value) (x : Value), ρ2 2 = .pointer (some ⟨B2, 0, none⟩) → ρ2 3 = .pointer (some ⟨B3, 0, none⟩) → ρ2 gS = .tuple #[.func (.func 60) #[] #[.pointer (some ⟨B2, 0, none⟩), .pointer (some ⟨B3, 0, none⟩)]] →
      Ext w W' → cs.size = 3 → Blk W' B2 cs 26 → Blk W' B3 #[x] 29 → readI b = none → endK Tryd.prog [.cellN 2 3, .cell1 3] (ReadPost w b) (.panicking shortC) ρ2 W' := by
    intro ρ2 W' cs x h2 h3 hg hE hcs hb2 hb3 hn
    refine end_defer (by simp [shortC]) hg cb60 ((lk_read1p hcs hb2 hb3 hne).mono ?_)
    rintro e u' w' ⟨⟨v, rfl⟩, hu, ⟨W, hE1, W2', hO2, hO3⟩, c2, c3⟩
    show LeavesV _ _ _ _ [] (settle u') w'
    rw [hu]
    refine leaves_ret (retK_cN1 h2 c2 rfl h3 c3 ?_)
    refine ⟨_, _, _, by rw [readE, hn]; rfl, ?_, hO3.ext (hO2.ext (hE.trans' hE1) hB2) (by have := hE2.size; omega)⟩
    simp only [readL, hn, Option.getD_none]
    exact imgC_empty _
  have hg' : ρ 1000000000 = .tuple #[] := hg
  have fin : ∀ (ρ2 : Env) (W' : World) (cs : Array Value) (x : Value), ρ2 2 = .pointer (some ⟨B2, 0, none⟩) → ρ2 3 = .pointer (some ⟨B3, 0, none⟩) → ρ2 gS = .tuple #[.func (.func 60) #[] #[.pointer (some ⟨B2, 0, none⟩), .pointer (some ⟨B3, 0, none⟩)]] →
      cs.size = 3 → Blk W' B2 cs 26 → Blk W' B3 #[x] 29 → ReadPost w b (.returned (.tuple #[.agg cs, x])) W' → endK Tryd.prog [.cellN 2 3, .cell1 3] (ReadPost w b) .returning ρ2 W' := by
    intro ρ2 W' cs x h2 h3 hg hcs hb2 hb3 hp
    refine end_defer (by simp) hg cb60 (lk_read1.mono ?_)
    rintro e u' w' ⟨⟨v, rfl⟩, rfl, rfl⟩
    exact leaves_ret (retK_cN1 h2 hb2 hcs h3 hb3 hp)
  refine eff_defer (f := 60) (caps := #[.pointer (some ⟨B2, 0, none⟩), .pointer (some ⟨B3, 0, none⟩)]) (by simp) trivial ?_
  simp [gS, hg', h0, isSl_cells hv.is]
  simp [bu96 hv.is]
  refine eff_box fun rB W hB hE hb hS => ?_
  simp [Value.cells] at hb ⊢
  have hEW : Ext w W := (hE2.trans' hE3).trans' hE
  have hbs2 := hE2.size
  have hbs3 := hE3.size
  refine (lk_one hv hEW (by omega) hb).mono ?_
  rintro e w1 (⟨z, r, lv, rfl, rfl, hO1, hbx1, hl1⟩ | ⟨rfl, rfl, rfl⟩)
  rotate_left
  · simp
    exact fail _ _ _ _ (by simp) (by simp) (by simp [gS]) hEW rfl ((hb2.ext hE3).ext hE) (hb3.ext hE) rfl
  simp
  have hz := z.toNat_lt
  refine loopC 11 z.toNat (fun k ρ' W' => ∃ rest lv l1 nv sv, LD (z :: r) z.toNat w W B2 B3 rB k ρ' W' rest lv l1 nv sv) (by simp) ⟨r, lv, [], _, _, by simp, by simp, by simp, by simp, by simp [gS], hO1.ext hEW (by omega), by rw [hO1.size]; exact Nat.le_refl _, hO1.blk ((hb2.ext hE3).ext hE) (by omega), hO1.blk (hb3.ext hE) (by omega), hbx1, hl1, by simpa using OwnS.consNil (OwnS.consNil (l := []) trivial 3 1) 9 1, rfl, by simp, by simp, by simp⟩ ?_
  rintro k ρ' W' hk h11 ⟨rest, lv, l1, nv, sv, h2, h3, h4, h10, hg, hE', hsz, b2, b3, bx, sl, own, hll, hrl, hok, hrel⟩
  have hrd : readI (z :: r) = (readGo z.toNat r).bind fun p => if checkImage ⟨p.1.map (·.1), p.1.map (·.2), p.2⟩ = 0 then some ⟨p.1.map (·.1), p.1.map (·.2), p.2⟩ else none := rfl
  simp only [List.drop_succ_cons, List.drop_zero] at hrel
  by_cases hlt : k < z.toNat
  · obtain ⟨n', hn'⟩ : ∃ n', z.toNat - k = n' + 1 := ⟨z.toNat - k - 1, by omega⟩
    rw [hn'] at hrel
    have bad : readGo (n' + 1) rest = none → readI (z :: r) = none := fun h => by rw [hrd, hrel, h]; rfl
    simp [jr24_l3, jr24_k2, h11, h10, hlt]
    have fb : ∀ w5, Blk w5 B2 #[nv, sv, .slice none 0 0] 26 → ∀ j, w5.cell? ⟨B2, j, none⟩ = #[nv, sv, .slice none 0 0][j]? := fun w5 h j => h.cell j
    refine raw_ord jr24_o5_ok (fun w2 => Ext w w2 ∧ Blk w2 B2 #[nv, sv, .slice none 0 0] 26) (fun w2 hw2 _ => ⟨⟨hE'.trans' hw2, b2.ext hw2⟩, ?_⟩) (hpn_of (by simp [OT.takes, jr24_o5, gS]))
    have hE2' := hE'.trans' hw2
    have b22 := b2.ext hw2
    have hrB : w.heap.size ≤ rB := by omega
    simp +contextual [jr24_o5, h2, h4, fb, b22]
    refine (lk_one sl hE2' hrB (bx.ext hw2)).mono ?_
    rintro e w4 (⟨c, r4, lv4, rfl, rfl, hO4, bx4, sl4⟩ | ⟨rfl, rfl, rfl⟩)
    rotate_left
    · simp
      exact fail _ _ _ _ (by simp [h2]) (by simp [h3]) (by simp [gS]; exact hg) hE2' rfl b22 (b3.ext hw2) (bad (by simp [readGo]))
    have hE4 := hO4.ext hE2' hrB
    have b24 := hO4.blk b22 (by omega)
    have b34 := hO4.blk (b3.ext hw2) (by omega)
    have hclt := c.toNat_lt
    simp [hE4, b24]
    refine (lk_take sl4 hE4 bx4 c.toNat).mono ?_
    rintro e w5 (⟨hn5, x5, lv5, rfl, hx5, hO5, bx5, sl5⟩ | ⟨hn5, rfl, rfl⟩)
    rotate_left
    · simp
      exact fail _ _ _ _ (by simp [h2]) (by simp [h3]) (by simp [gS]; exact hg) hE4 rfl b24 b34 (bad (by rw [readGo, if_pos (by omega)]))
    have hE5 := hO5.ext hE4 hrB
    have b25 := hO5.blk b24 (by omega)
    have b35 := hO5.blk b34 (by omega)
    obtain ⟨nm, hnm⟩ : ∃ nm, nm = mkS (r4.take c.toNat) := ⟨_, rfl⟩
    have fs : ∀ w6, Ext w w6 → pv1 w6 .b2s x5 = some (.string nm) := fun w6 h => by rw [b2s_of (hx5.ext h), hnm]
    simp +contextual [hE5, b25, fs]
    have hwW : w.heap.size ≤ W.heap.size := hEW.size
    have hnms : nm.size = c.toNat := by rw [hnm]; simp; omega
    have hsz5 : W.heap.size ≤ w5.heap.size := by rw [hO5.size, hO4.size]; exact Nat.le_trans hsz hw2.size
    have own5 := ((own.ext hw2).only hO4 (show rB < W.heap.size by omega)).only hO5 (show rB < W.heap.size by omega)
    refine eff_lit si22 (by decide) (by decide) (by simp [Value.cells]) fun B6 W6 hB6 hE6 hb6 _ => ?_
    simp [Value.cells] at hb6
    have own6 := own5.ext hE6
    have hsz6 := Nat.le_trans hsz5 hE6.size
    refine ⟨⟨hE5.trans' hE6, b25.ext hE6⟩, ?_⟩
    refine eff_appendS ri22 hsz6 (by rfl) (by rfl) (by simpa using own6) (by simpa using hb6.cells (n := 1) (by simp)) (by simp [Value.oneCell']) (by simp; omega) (by simp; omega) fun nv' W7 hB7 own7 => ?_
    simp [h2]
    have b27 := (b25.ext hE6).below hB7 (by omega)
    refine eff_store1 (B := B2) (i := 0) (by simp) b27 (by simp) (by simp; exact isSl_cells own7.head.isl) (by simp; exact isSl_one own7.head.isl) sz22 fun W8 hO8 hb8 => ?_
    simp at hb8 ⊢
    have hE8 : Ext w W8 := hO8.ext (Below.trans (hE5.trans' hE6) (hB7.mono hwW)) hB2
    have hsz8 : W.heap.size ≤ W8.heap.size := by rw [hO8.size]; exact Nat.le_trans hsz6 hB7.size
    have own8 := own7.only hO8 (show B2 < W.heap.size by omega)
    have b38 := hO8.blk ((b35.ext hE6).below hB7 (by omega)) (Ne.symm hne)
    have bx8 := hO8.blk ((bx5.ext hE6).below hB7 (by omega)) (by omega)
    have fb8 : ∀ w5, Blk w5 B2 #[nv', sv, .slice none 0 0] 26 → ∀ j, w5.cell? ⟨B2, j, none⟩ = #[nv', sv, .slice none 0 0][j]? := fun w5 h j => h.cell j
    simp only [jr24_k0]
    refine raw_ord jr24_o6_ok (fun w2 => Ext w w2 ∧ Blk w2 B2 #[nv', sv, .slice none 0 0] 26) (fun w9 hw9 _ => ⟨⟨hE8.trans' hw9, hb8.ext hw9⟩, ?_⟩) (hpn_of (by simp [OT.takes, jr24_o6, gS]))
    have hE9 := hE8.trans' hw9
    have b29 := hb8.ext hw9
    simp +contextual [jr24_o6, h2, h4, fb8, b29]
    refine (lk_word sl5 hE9 hrB (bx8.ext hw9)).mono ?_
    rintro e w10 (⟨hn10, lv10, rfl, hO10, bx10, sl10⟩ | ⟨hn10, rfl, rfl⟩)
    rotate_left
    · simp
      exact fail _ _ _ _ (by simp [h2]) (by simp [h3]) (by simp [gS]; exact hg) hE9 rfl b29 (b38.ext hw9) (bad (by rw [readGo, if_pos (by simp at hn10; omega)]))
    have hE10 := hO10.ext hE9 hrB
    have b210 := hO10.blk b29 (by omega)
    have b310 := hO10.blk (b38.ext hw9) (by omega)
    have own10 := (own8.ext hw9).only hO10 (show rB < W.heap.size by omega)
    have hsz10 : W.heap.size ≤ w10.heap.size := by rw [hO10.size]; exact Nat.le_trans hsz8 hw9.size
    have hbe := be4_lt (r4.drop c.toNat)
    simp +contextual [hE10, b210]
    refine eff_lit si23 (by decide) (by decide) (by simp [Value.cells]) fun B11 W11 hB11 hE11 hb11 _ => ?_
    simp [Value.cells] at hb11
    have own11 := own10.ext hE11
    have hsz11 := Nat.le_trans hsz10 hE11.size
    refine ⟨⟨hE10.trans' hE11, b210.ext hE11⟩, ?_⟩
    refine eff_appendS ri23 hsz11 (by rfl) (by rfl) (by simpa using own11.swap) (by simpa using hb11.cells (n := 1) (by simp)) (by simp [Value.oneCell']) (by simp; omega) (by simp; omega) fun sv' W12 hB12 own12 => ?_
    simp [h2]
    have b212 := (b210.ext hE11).below hB12 (by omega)
    refine eff_store1 (B := B2) (i := 1) (by simp) b212 (by simp) (by simp; exact isSl_cells own12.head.isl) (by simp; exact isSl_one own12.head.isl) sz23 fun W13 hO13 hb13 => ?_
    simp at hb13 ⊢
    have hE13 : Ext w W13 := hO13.ext (Below.trans (hE10.trans' hE11) (hB12.mono hwW)) hB2
    have own13 := (own12.only hO13 (show B2 < W.heap.size by omega)).swap
    have hshort : ¬ r4.length < c.toNat + 4 := by simp at hn10; omega
    simp [jr24_k1, h11, i64w (n := (k : Int) + 1) (by omega)]
    refine ⟨(r4.drop c.toNat).drop 4, lv10, l1 ++ [(nm, (be4 (r4.drop c.toNat) : Int))], nv', sv', by simp [h2], by simp [h3], by simp [h4], by simp [h10], by simp [gS]; exact hg, hE13, by rw [hO13.size]; exact Nat.le_trans hsz11 hB12.size, hb13,
      hO13.blk ((b310.ext hE11).below hB12 (by omega)) (Ne.symm hne), hO13.blk ((bx10.ext hE11).below hB12 (by omega)) (by omega), by simpa using sl10, by simpa [Eng.encI] using own13, by simp [hll], by simp at hrl ⊢; omega, ?_, ?_⟩
    · intro q hq
      rcases List.mem_append.1 hq with hq | hq
      · exact hok q hq
      · simp at hq; subst hq; exact ⟨by simp only [hnms]; omega, by simp only []; omega, by simp only []; omega⟩
    · rw [show (z :: r).drop 1 = r from rfl, hrel, readGo, if_neg hshort, ← hnm]
      have : z.toNat - (k + 1) = n' := by omega
      rw [this]
      simp [Option.map_map, Function.comp_def]
  · have hk' : k = z.toNat := by omega
    subst hk'
    have hgo : readGo z.toNat r = some (l1, rest) := by rw [hrel]; simp [readGo]
    have hri : readI (z :: r) = if checkImage ⟨l1.map (·.1), l1.map (·.2), rest⟩ = 0 then some ⟨l1.map (·.1), l1.map (·.2), rest⟩ else none := by rw [hrd, hgo]; rfl
    obtain ⟨img, himg⟩ : ∃ i : Img, i = ⟨l1.map (·.1), l1.map (·.2), rest⟩ := ⟨_, rfl⟩
    rw [← himg] at hri
    simp [jr24_l3, h11, h10, jr24_k5, h4, bx.cell]
    have hwW : w.heap.size ≤ W.heap.size := hEW.size
    refine (lk_Clone (sl.ext hE') (by omega)).mono ?_
    rintro _ w5 ⟨x5, rfl, hx5, hE5, _, base5, hb5, hOc⟩
    simp [h2]
    have own5 := own.ext hE5
    refine eff_store1 (B := B2) (i := 2) (by simp) (b2.ext hE5) (by simp) (by simp; exact isSl_cells hx5.is) (by simp; exact isSl_one hx5.is) sz24 fun W6 hO6 hb6 => ?_
    simp at hb6 ⊢
    have hE6 : Ext w W6 := hO6.ext (hE'.trans' hE5) hB2
    have own6 := own5.only hO6 (show B2 < W.heap.size by omega)
    have b36 := hO6.blk (b3.ext hE5) (Ne.symm hne)
    have hOc6 := hOc.only hO6 (show B2 < base5 by have := hE'.size; omega)
    have key : ∀ W7, OwnS W.heap.size W7 [⟨nv, 9, 1, l1.map fun p : ByteArray × Int => Value.string p.1⟩, ⟨sv, 3, 1, l1.map fun p : ByteArray × Int => Eng.encI p.2⟩] → Sl encB W7 x5 rest → ImgC W7 nv sv x5 img := by
      intro W7 h h5
      obtain ⟨k2, _, k3, _, _⟩ := h
      dsimp only at k2 k3
      have hzl := z.toNat_lt
      rw [himg]
      refine ⟨⟨Own.sl (enc := Value.string) (by simpa [Function.comp_def] using k2) (by simp; omega), fun s hs => ?_⟩, ⟨Own.sl (enc := Eng.encI) (by simpa [Function.comp_def] using k3) (by simp; omega), fun n hn => ?_⟩, h5⟩
      · obtain ⟨p, hp, rfl⟩ := List.mem_map.1 hs
        have := (hok p hp).1
        simp only [maxLen]; omega
      · obtain ⟨p, hp, rfl⟩ := List.mem_map.1 hn
        have := hok p hp
        omega
    have hsl6 : ∀ W7, Own base5 5 1 W7 x5 (rest.map encB) → Sl encB W7 x5 rest := fun W7 h => Own.sl h hx5.bd
    have hI6 := key W6 own6 (hsl6 _ hOc6)
    simp [h2, hb6.cell]
    refine (lk_CheckImage hI6).mono ?_
    rintro _ w7 ⟨rfl, hE7⟩
    have b27 := hb6.ext hE7
    have b37 := b36.ext hE7
    have hE7w := hE6.trans' hE7
    by_cases hck : checkImage img = 0
    · rw [if_pos hck] at hri
      simp [hck, jr24_k4]
      have hrow := row_blk b27
      simp only [List.size_toArray, List.length_cons, List.length_nil] at hrow
      simp [h2, hrow]
      refine eff_storeN (B := B2) (by simp [h2]) b27 (by simp [Value.cells]) (by simp [Value.cells, isSl_one hI6.names.1.is, isSl_one hI6.starts.1.is, isSl_one hI6.code.is]) sz26 fun W8 hO8 hb8 => ?_
      simp [Value.cells] at hb8 ⊢
      refine eff_store1 (B := B3) (i := 0) (by simp [h3]) (hO8.blk b37 (Ne.symm hne)) (by simp) (by simp [Value.cells]) (by simp [Value.oneCell]) (by kernel_rfl) fun W9 hO9 hb9 => ?_
      simp at hb9 ⊢
      have hB3W : B3 < W.heap.size := by omega
      have hB2W : B2 < W.heap.size := by omega
      have h6s := hE'.size
      refine fin _ _ _ _ (by simp [h2]) (by simp [h3]) (by simp [gS]; exact hg) rfl (hO9.blk hb8 hne) hb9 ⟨nv, sv, x5, by simp [readE, hri], ?_, hO9.ext (hO8.ext hE7w hB2) (by omega)⟩
      rw [show readL (z :: r) = img by simp [readL, hri]]
      refine key W9 (((own6.ext hE7).only hO8 hB2W).only hO9 hB3W) (hsl6 _ (((hOc6.ext hE7).only hO8 (by omega)).only hO9 (by omega)))
    · rw [if_neg hck] at hri
      simp [hck, bu26]
      refine eff_storeN (B := B2) (by simp [h2]) b27 (by simp [Value.cells]) (by simp [Value.cells]) sz26 fun W8 hO8 hb8 => ?_
      simp [Value.cells] at hb8 ⊢
      refine eff_store1 (B := B3) (i := 0) (by simp [h3]) (hO8.blk b37 (Ne.symm hne)) (by simp) (by simp [Value.cells]) (by simp [Value.oneCell]) (by kernel_rfl) fun W9 hO9 hb9 => ?_
      simp at hb9 ⊢
      refine fin _ _ _ _ (by simp [h2]) (by simp [h3]) (by simp [gS]; exact hg) rfl (hO9.blk hb8 hne) hb9 ⟨_, _, _, by rw [readE, hri]; rfl, ?_, hO9.ext (hO8.ext hE7w hB2) (by omega)⟩
      simp only [readL, hri, Option.getD_none]
      exact imgC_empty _
end Go.L16
