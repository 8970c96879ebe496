/- Texts of mine for the claims about layer 16 (link), joined: L16v, L16w, L16x, L16y. -/
import Derived.Test.YtaipjaclgkjhdaaDoorJbl
import Derived.Test.YtaipjaclgkjhdaaDoorShelf
import Derived.Test.YtaipjaclgkjhdaaDoorJbm
set_option linter.all false
set_option linter.unusedSimpArgs false
set_option linter.unusedVariables false
/- Layer 16: contracts of the link package: Write. -/
namespace Go.L16
open Go Go.Eng Go.RowKit Go.Proofs
set_option maxRecDepth 100000

abbrev IsB (B b : Nat) (bs : List UInt8) (w : World) : Prop := LibA.IsBuffer 83 (fun _ => none) 5 B b 0 (bs.map encB) w
theorem one_encB (bs : List UInt8) : ∀ v ∈ bs.map encB, v.oneCell' = true := one_map (fun _ => rfl) bs
theorem byteCells_enc (l : List UInt8) : Lib.byteCells l = l.map encB := by
  rfl
theorem blk_of_three {w : World} {b : Nat} {x y z : Value} (h : LibA.Three w b 0 83 (fun _ => none) x y z) : Blk w b #[x, y, z] 83 := by
  obtain ⟨cs, hb, h0, h1, h2, hr⟩ := h
  have : cs = #[x, y, z] := by
    apply Array.ext_getElem?
    intro i
    rcases (show i = 0 ∨ i = 1 ∨ i = 2 ∨ 3 ≤ i by omega) with rfl | rfl | rfl | h3
    · rw [h0]; rfl
    · rw [h1]; rfl
    · rw [h2]; rfl
    · rw [hr i (.inr (by omega)), Array.getElem?_eq_none (by simpa using h3)]
  subst this
  exact ⟨hb⟩
theorem three_of_blk {w : World} {b : Nat} {x y z : Value} (h : Blk w b #[x, y, z] 83) : LibA.Three w b 0 83 (fun _ => none) x y z := LibA.three_whole h.heap

theorem cell_blk_lt {w : World} {a : Addr} {v : Value} (h : w.cell? a = some v) : a.block < w.heap.size := by
  unfold World.cell? at h
  cases ho : w.heap[a.block]? with
  | none => simp [ho] at h
  | some o => exact (Array.getElem?_eq_some_iff.1 ho).1

theorem lk_bbyte {w : World} {B b : Nat} {bs : List UInt8} (h : IsB B b bs w) (hBw : B ≤ w.heap.size) (c : UInt8) (hl : bs.length ≤ 100000000) :
    Calls Tryd.prog 55 #[.pointer (some ⟨b, 0, none⟩), encB c] w fun e w' => e = .returned .nilIface ∧ IsB B b (bs ++ [c]) w' ∧ Below B w w' := by
  refine (Tryd.buf_byte B b _ c.toNat w h hBw (one_encB bs) (by simp; omega)).mono ?_
  rintro e w' ⟨rfl, h1, h2, _⟩
  exact ⟨rfl, by simpa [IsB, encB] using h1, h2⟩
theorem lk_bstr {w : World} {B b : Nat} {bs : List UInt8} (h : IsB B b bs w) (hBw : B ≤ w.heap.size) (s : ByteArray) (hl : bs.length + s.size ≤ 100000000) :
    Calls Tryd.prog 56 #[.pointer (some ⟨b, 0, none⟩), .string s] w fun e w' => (∃ v, e = .returned v) ∧ IsB B b (bs ++ s.data.toList) w' ∧ Below B w w' := by
  refine (Tryd.buf_str B b _ s w h hBw (one_encB bs) (by simp; omega)).mono ?_
  rintro e w' ⟨rfl, h1, h2, _⟩
  exact ⟨⟨_, rfl⟩, by simpa [IsB, byteCells_enc] using h1, h2⟩

theorem lk_bwrite {w : World} {B b : Nat} {bs cs : List UInt8} {v : Value} (h : IsB B b bs w) (hBw : B ≤ w.heap.size) (hv : Sl encB w v cs) (hb : ∀ a n c, cs ≠ [] → v = .slice (some a) n c → a.block ≠ b) (hl : bs.length + cs.length ≤ 100000000) :
    Calls Tryd.prog 58 #[.pointer (some ⟨b, 0, none⟩), v] w fun e w' => (∃ v, e = .returned v) ∧ IsB B b (bs ++ cs) w' ∧ Below B w w' := by
  have hlen := hv.len
  by_cases hcs0 : cs ≠ []
  · rcases isSl_cases hv.is with ⟨g, o, n, c, rfl, hc⟩ | rfl | ⟨g, o, sp, rfl⟩
    rotate_left
    · simp [slLen] at hlen
      exact absurd (List.length_eq_zero_iff.1 hlen.symm) hcs0
    · simp [slLen] at hlen
      exact absurd (List.length_eq_zero_iff.1 hlen.symm) hcs0
    simp only [slLen] at hlen
    refine (Tryd.buf_write B b _ (cs.map encB) ⟨g, o, none⟩ n c w h hBw (one_encB bs) (by simp [hlen]) (hb _ _ _ hcs0 rfl) (fun j v hj => ?_) (one_encB cs) (by simp; omega)).mono ?_
    · obtain ⟨hj1, rfl⟩ := List.getElem?_eq_some_iff.1 hj
      have := hv.cell j (by simpa using hj1)
      simp only [slAddr] at this
      rw [add_lit, this]
      simp
    · rintro e w' ⟨rfl, h1, h2, _⟩
      exact ⟨⟨_, rfl⟩, by simpa [IsB] using h1, h2⟩
  · have : cs = [] := by simpa using hcs0
    subst this
    have hvi := hv.is
    simp only [List.length_nil] at hlen
    refine ir58_calls fun ρ h0 h1 => ?_
    obtain ⟨hB, v0, lr, hbk, hown, hne⟩ := h
    have hblk := blk_of_three hbk
    simp [ir58, h0, h1]
    refine eff_store1 (B := b) (i := 2) (by simp) hblk (by simp) (by simp [Value.cells]) (by simp) (by kernel_rfl) fun W1 hO1 hb1 => ?_
    simp at hb1
    simp [h0, h1, hvi, hlen]
    have hI1 : IsB B b bs W1 := ⟨hB, v0, 0, three_of_blk hb1, hown.kept (only_grownBy hO1) (.inr hne), hne⟩
    refine (Tryd.buf_grow B b 0 _ W1 hI1).mono ?_
    rintro e w' (⟨rfl, xs, hxs, hI2, hB2, _, _⟩ | ⟨rfl, rfl, hno⟩)
    · have : xs = [] := List.length_eq_zero_iff.1 hxs
      subst this
      rw [List.append_nil] at hI2
      obtain ⟨_, lr2, hc2⟩ := hI2.cases
      have hend : IsB B b bs w' ∧ Below B w w' := ⟨hI2, (only_below hO1 hB).trans hB2⟩
      have hco : ∀ (x : Value), isSl x = true → slLen x = 0 → ∀ (Q : Ks) (K : Env → World → Prop) (ρ : Env), ρ 29 = x → ρ 30 = v → K (upd ρ 31 (.int .i64 0)) w' → effW Tryd.prog Q (some 31) (.call { callee := .builtin .copy, args := #[(.tmp 29), (.tmp 30)], argTypes := #[24, 24] }) 3 K ρ w' := by
        intro x hx hx0 Q K ρ h29 h30 hk
        refine effE_ok (v := .int .i64 0) (w' := w') ?_ hk
        have hmin : ∀ n, Nat.min (slLen v) n = 0 := fun n => by rw [hlen]; exact Nat.zero_min n
        obtain ⟨a1, n1, c1, rfl⟩ : ∃ a n c, x = .slice a n c := by rcases isSl_cases hx with ⟨g, o, n, c, rfl, _⟩ | rfl | ⟨g, o, s, rfl⟩ <;> exact ⟨_, _, _, rfl⟩
        obtain ⟨a2, n2, c2, rfl⟩ : ∃ a n c, v = .slice a n c := by rcases isSl_cases hvi with ⟨g, o, n, c, rfl, _⟩ | rfl | ⟨g, o, s, rfl⟩ <;> exact ⟨_, _, _, rfl⟩
        simp [execOp, effOp, resolve, invoke, builtin, h29, h30, run_copy_none (P := Tryd.prog) w' 24 24 3 5 a1 a2 n1 c1 n2 c2 (by kernel_rfl) (by kernel_rfl) (hmin _)]
        rfl
      rcases hc2 with ⟨hnil, hb2⟩ | ⟨g, cap, cur, hb2, hBg, hg, hnc, hcm, hcs, htk, hgb⟩
      · have hblk2 := (blk_of_three hb2).cell
        have hbs : bs = [] := by simpa using hnil
        subst hbs
        simp [ir58_k0, h0, h1, hblk2]
        refine hco (.slice none 0 0) (by rfl) rfl _ _ _ (by simp; rfl) (by simp) ?_
        simp
        exact hend
      · have hblk2 := (blk_of_three hb2).cell
        simp at hnc
        simp [ir58_k0, h0, h1, hblk2, isSl, hnc, slLen, slCap]
        refine hco (.slice (some ⟨g, if cap = bs.length then 0 else bs.length, none⟩) 0 (cap - bs.length)) (by simp [isSl]) rfl _ _ _ (by by_cases hcb : cap = bs.length <;> simp [slSub, hcb]) (by simp) ?_
        simp
        exact hend
    · obtain ⟨_, _, _, _, hno⟩ := hno
      omega
theorem lk_bytes {w : World} {B b : Nat} {bs : List UInt8} (h : IsB B b bs w) (hl : bs.length ≤ 100000000) :
    Calls Tryd.prog 59 #[.pointer (some ⟨b, 0, none⟩)] w fun e w' => ∃ x, e = .returned x ∧ Sl encB w' x bs ∧ Ext w w' := by
  refine ir59_calls fun ρ h0 => ?_
  obtain ⟨hB, lr, hc⟩ := h.cases
  rcases hc with ⟨hnil, hb2⟩ | ⟨g, cap, cur, hb2, hBg, hg, hnc, hcm, hcs, htk, hgb⟩
  · have hblk2 := (blk_of_three hb2).cell
    have hbs : bs = [] := by simpa using hnil
    subst hbs
    simp [ir59, h0, hblk2, ir59_k0]
    intro w' hw'
    exact ⟨Sl.nil _ _, hw'⟩
  · have hblk2 := (blk_of_three hb2).cell
    simp at hnc htk
    simp [ir59, h0, hblk2, ir59_k0, isSl, hnc, slLen, slCap]
    intro w' hw'
    have hO : Own B 5 1 w (.slice (some ⟨g, 0, none⟩) bs.length cap) (bs.map encB) := .inr ⟨g, 0, bs.length, cap, cur, rfl, hBg, hg, by simp, hnc, hcm, by simp [hcs], by simpa using htk⟩
    have hS := (Own.sl hO (by omega)).sub (l := 0) (r := bs.length) (m := cap) (by omega) (Nat.le_refl _) hnc (Nat.le_refl _)
    simp at hS
    exact ⟨hS.ext hw', hw'⟩

theorem lk_bword {w : World} {B b : Nat} {bs : List UInt8} (h : IsB B b bs w) (hBw : B ≤ w.heap.size) (n : Nat) (hn : n < 4294967296) (hl : bs.length + 4 ≤ 100000000) :
    Calls Tryd.prog 57 #[.pointer (some ⟨b, 0, none⟩), .int .i64 n] w fun e w' => (∃ v, e = .returned v) ∧ IsB B b (bs ++ be32 n) w' ∧ Below B w w' := by
  refine ir57_calls fun ρ h0 h1 => ?_
  simp [ir57, h0, h1, shfBin, shr24, shr16, shr8, u8nat]
  refine eff_lit si24 (by decide) (by decide) (by simp [encB, Value.cells]) fun B8 W8 hB8 hE8 hb8 _ => ?_
  simp [encB, Value.cells] at hb8
  have hs : Sl encB W8 (.slice (some ⟨B8, 0, none⟩) 4 4) (be32 n) := Own.sl (e := 5) (base := B8) (.inr ⟨B8, 0, 4, 4, _, rfl, Nat.le_refl _, hb8.heap, by simp [be32], by omega, by decide, by simp, by simp [be32, encB, u8wrap]⟩) (by simp [be32])
  have hbl := h.lt
  simp
  refine (lk_bwrite (h.old hE8) (Nat.le_trans hBw hE8.size) hs (fun a n c _ ha => by cases ha; simp; omega) (by simp [be32]; omega)).mono ?_
  rintro e w' ⟨⟨v, rfl⟩, h2, h3⟩
  simp
  exact ⟨h2, (hE8.mono hBw).trans h3⟩

theorem lk_Write {w : World} {a b c : Value} {i : Img} (hi : ImgC w a b c i) :
    Calls Tryd.prog 22 #[.agg #[a, b, c]] w fun e w' => ∃ x, e = .returned (.tuple #[x, .int .i64 (checkImage i)]) ∧ Sl encB w' x (writeL i) ∧ Ext w w' := by
  refine ir22_calls fun ρ h0 => ?_
  simp [ir22, h0]
  refine eff_box fun B W hB hE hb _ => ?_
  simp [h0, Value.cells] at hb
  simp [hb.cell]
  refine (lk_CheckImage (hi.ext hE)).mono ?_
  rintro _ w1 ⟨rfl, hw1⟩
  have hb1 := hb.ext hw1
  have hi1 := (hi.ext hE).ext hw1
  by_cases hc : checkImage i = 0
  · have hok := imgOk_of hc
    have hlen := hok.len
    have hst := hok.starts
    have hcode := hok.code
    simp [hc, ir22_k4]
    refine eff_alloc (z := #[.slice none 0 0, .int .i64 0, .int .i8 0]) (by kernel_rfl) fun D W2 hD hE2 hd2 hS2 => ?_
    have hb2 := hb1.ext hE2
    have hi2 := hi1.ext hE2
    have hI2 : IsB D D [] W2 := LibA.zero_isBuffer (Nat.le_refl _) (three_of_blk hd2)
    simp [hb2.cell, hi2.names.1.is, hi2.names.1.len, u8nat]
    refine (lk_bbyte hI2 (by omega) _ (by simp)).mono ?_
    rintro _ W3 ⟨rfl, hI3, hB3⟩
    have hw13 : Ext w1 W3 := Below.trans hE2 (hB3.mono hD)
    have hb3 := hb1.ext hw13
    have hi3 := hi1.ext hw13
    simp [hb3.cell, hi3.names.1.is, hi3.names.1.len]
    refine loopC 22 i.names.length (fun k ρ' w' => Ext w1 w' ∧ D ≤ w'.heap.size ∧ ρ' 1 = .pointer (some ⟨B, 0, none⟩) ∧ ρ' 5 = .pointer (some ⟨D, 0, none⟩) ∧ ρ' 20 = a ∧ ρ' 21 = .int .i64 i.names.length ∧ IsB D D (headL i k) w') (by simp) ⟨hw13, by have := hB3.size; omega, by simp, by simp, by simp, by simp, by simpa [headL] using hI3⟩ ?_
    rintro k ρ' w' hk h22 ⟨hE4, hDs, h1, h5, h20, h21, hI4⟩
    have hb4 := (hb1.ext hE4).cell
    have hi4 := hi1.ext hE4
    have hhl := headL_len hok k hk
    by_cases hlt : k < i.names.length
    · have hks : k < i.starts.length := by omega
      have hnm := isName_size (hok.name k hlt)
      obtain ⟨s0, hs0⟩ : ∃ s0 : Nat, i.starts[k] = s0 := ⟨i.starts[k].toNat, by have := hok.nonneg k hks; omega⟩
      simp [ir22_l2, ir22_k1, h22, h21, h20, h1, h5, hi4.names.1.is, hi4.names.1.len, hlt, hi4.names.1.cell k hlt, u8nat]
      refine (lk_bbyte hI4 hDs _ (by omega)).mono ?_
      rintro _ W5 ⟨rfl, hI5, hB5⟩
      simp [h5]
      refine (lk_bstr hI5 (Nat.le_trans hDs hB5.size) i.names[k] (by simp; omega)).mono ?_
      rintro _ W6 ⟨⟨_, rfl⟩, hI6, hB6⟩
      have hw16 : Ext w1 W6 := Below.trans hE4 ((hB5.trans hB6).mono hD)
      have hb6 := (hb1.ext hw16).cell
      have hi6 := hi1.ext hw16
      have hcs := hi6.starts.1.cell k hks
      rw [hs0] at hcs
      simp [h1, h5, hb6, hi6.starts.1.is, hi6.starts.1.len, hks, hcs, Eng.encI]
      have hen : (entryL i.names[k] s0).length ≤ 125 := by simp [entryL, be32]; omega
      refine (lk_bword hI6 (by have := hB5.size; have := hB6.size; omega) s0 (by have := hok.top k hks; omega) (by simp; omega)).mono ?_
      rintro _ W7 ⟨⟨_, rfl⟩, hI7, hB7⟩
      simp [ir22_k0, h22, h1, h5, h20, h21, i64w (n := (k : Int) + 1) (by omega)]
      have e1 : i.names.getD k .empty = i.names[k] := by simp [hlt]
      have e2 : i.starts.getD k 0 = s0 := by simp [hks, hs0]
      refine ⟨Below.trans hw16 (hB7.mono hD), by have := hB5.size; have := hB6.size; have := hB7.size; omega, ?_⟩
      rw [headL_succ, e1, e2]
      simpa [entryL] using hI7
    · have hk' : k = i.names.length := by omega
      subst hk'
      simp [ir22_l2, h22, h21, ir22_k3, h5, h1, hb4]
      refine (lk_bwrite hI4 hDs hi4.code (fun g n cc hne hgc => ?_) (by omega)).mono ?_
      · have h0 := hi.code.cell 0 (List.length_pos_iff.2 hne)
        rw [hgc] at h0
        have := cell_blk_lt h0
        simp only [slAddr] at this
        have := hE.size
        have := hw1.size
        omega
      rintro _ W5 ⟨⟨_, rfl⟩, hI5, hB5⟩
      simp [h5]
      refine (lk_bytes hI5 (by simp; omega)).mono ?_
      rintro _ W6 ⟨x, rfl, hx, hE6⟩
      simp
      have : writeL i = headL i i.names.length ++ i.code := by simp [writeL, hc]
      rw [this]
      exact ⟨hx, ((hE.trans' hw1).trans' (Below.trans hE4 (hB5.mono hD))).trans' hE6⟩
  · simp [hc, writeL]
    exact ⟨Sl.nil _ _, hE.trans' hw1⟩
end Go.L16
/- Layer 16: the chapter's examples. -/
namespace Go.L16
open Go Go.Eng Go.RowKit Go.Proofs
set_option maxRecDepth 100000

def sF : ByteArray := ⟨#[102]⟩
def sG : ByteArray := ⟨#[103]⟩
def sH : ByteArray := ⟨#[104]⟩
def sM : ByteArray := ⟨#[109]⟩
def sX : ByteArray := ⟨#[120]⟩
def oM : Obj := ⟨sM, [7, 0, 0, 9], [⟨1, sF⟩]⟩
def oF : Obj := ⟨sF, [1, 0, 0, 0, 0], [⟨1, sF⟩, ⟨3, sG⟩]⟩
def oG : Obj := ⟨sG, [5], []⟩
def oH : Obj := ⟨sH, [0, 0], [⟨0, sX⟩]⟩
def fourL : List Obj := [oM, oF, oG, oH]
def fourP : List Obj := [oH, oM, oG, oF]


theorem isReached_of {l : List Obj} {roots R : List ByteArray} (hasc : Asc R) (hr : ∀ s ∈ roots, s ∈ R) (hc : ∀ s ∈ R, ∀ n ∈ needsAt l s, n ∈ R) (hre : ∀ s ∈ R, Reach l roots s) : IsReached l roots R := by
  refine ⟨hasc, fun s => ⟨hre s, fun h => ?_⟩⟩
  induction h with
  | root h => exact hr _ h
  | step _ hn ih => exact hc _ ih _ hn
def iM : Img := ⟨[sF, sG, sM], [0, 5, 6], [1, 0, 0, 0, 1, 5, 7, 0, 0, 9]⟩
def iG : Img := ⟨[sG], [0], [5]⟩
def bG : List UInt8 := [1, 1, 103, 0, 0, 0, 0, 5]

instance (s : ByteArray) (l : List ByteArray) : Decidable (s ∈ l) := decidable_of_iff (l.any (fun x => decide (x = s)) = true) (by simp)
instance (l : List ByteArray) : Decidable (Asc l) := inferInstanceAs (Decidable (l.Pairwise _))
theorem rM : IsReached fourL [sM] [sF, sG, sM] := by
  have hm : Reach fourL [sM] sM := .root (by simp)
  have hf : Reach fourL [sM] sF := .step hm (by decide)
  have hg : Reach fourL [sM] sG := .step hf (by decide)
  exact isReached_of (by decide) (by decide) (by decide) (by simp only [List.mem_cons, List.not_mem_nil, or_false]; rintro s (rfl | rfl | rfl) <;> assumption)
theorem rMH : IsReached fourL [sM, sH] [sF, sG, sH, sM, sX] := by
  have hm : Reach fourL [sM, sH] sM := .root (by simp)
  have hh : Reach fourL [sM, sH] sH := .root (by simp)
  have hf : Reach fourL [sM, sH] sF := .step hm (by decide)
  have hg : Reach fourL [sM, sH] sG := .step hf (by decide)
  have hx : Reach fourL [sM, sH] sX := .step hh (by decide)
  exact isReached_of (by decide) (by decide) (by decide) (by simp only [List.mem_cons, List.not_mem_nil, or_false]; rintro s (rfl | rfl | rfl | rfl | rfl) <;> assumption)
theorem rH : IsReached fourL [sH] [sH, sX] := by
  have hh : Reach fourL [sH] sH := .root (by simp)
  have hx : Reach fourL [sH] sX := .step hh (by decide)
  exact isReached_of (by decide) (by decide) (by decide) (by simp only [List.mem_cons, List.not_mem_nil, or_false]; rintro s (rfl | rfl) <;> assumption)
theorem rG : IsReached fourL [sG] [sG] := by
  have hg : Reach fourL [sG] sG := .root (by simp)
  exact isReached_of (by decide) (by decide) (by decide) (by simp only [List.mem_cons, List.not_mem_nil, or_false]; rintro s rfl; assumption)
theorem rP : IsReached fourP [sM] [sF, sG, sM] := by
  have hm : Reach fourP [sM] sM := .root (by simp)
  have hf : Reach fourP [sM] sF := .step hm (by decide)
  have hg : Reach fourP [sM] sG := .step hf (by decide)
  exact isReached_of (by decide) (by decide) (by decide) (by simp only [List.mem_cons, List.not_mem_nil, or_false]; rintro s (rfl | rfl | rfl) <;> assumption)

theorem askM : askedE fourL [sM] = 0 := by decide
theorem askMH : askedE fourL [sM, sH] = 0 := by decide
theorem askH : askedE fourL [sH] = 0 := by decide
theorem askG : askedE fourL [sG] = 0 := by decide
theorem askP : askedE fourP [sM] = 0 := by decide
theorem linkE_M : linkE fourL [sM] = 0 := by
  simp only [linkE, askM, missingL, reachedL_eq rM]; decide
theorem linkE_MH : linkE fourL [sM, sH] = 160 := by
  simp only [linkE, askMH, missingL, reachedL_eq rMH]; decide
theorem linkE_G : linkE fourL [sG] = 0 := by
  simp only [linkE, askG, missingL, reachedL_eq rG]; decide
theorem linkE_P : linkE fourP [sM] = 0 := by
  simp only [linkE, askP, missingL, reachedL_eq rP]; decide
theorem miss_H : missingA fourL [sH] = [sX] := by
  simp only [missingA, askH, missingL, reachedL_eq rH]; decide
theorem linkI_M : linkI fourL [sM] = iM := by
  simp only [linkI, linkE_M, reachedL_eq rM]; decide
theorem linkI_G : linkI fourL [sG] = iG := by
  simp only [linkI, linkE_G, reachedL_eq rG]; decide
theorem without_P : withoutL fourP [sM] = [oM, oG, oF] := by
  simp only [withoutL, linkE_P, reachedL_eq rP]; decide
theorem num_M : numN iM sG = 1 ∧ numIs iM sG = true ∧ checkImage iM = 0 := by decide
theorem part_M : partE iM 2 = 0 ∧ partL iM 2 = [7, 0, 0, 9] := by decide
theorem write_G : writeL iG = bG ∧ checkImage iG = 0 := by decide
theorem read_G : readE bG = 0 ∧ readL bG = iG := by decide
end Go.L16
/- Layer 16: contracts of the laws' helpers: four, linked. -/
namespace Go.L16
open Go Go.Eng Go.RowKit Go.Proofs
set_option maxRecDepth 100000

theorem bu54 (n : Int) (s : ByteArray) : Tryd.prog.built 54 [(0, .int .i64 n), (1, .string s)] = some #[.int .i64 n, .string s] := by kernel_rfl
theorem bu54' (s : ByteArray) : Tryd.prog.built 54 [(1, .string s)] = some #[.int .i64 0, .string s] := by kernel_rfl
theorem bu45 (s : ByteArray) (b o n c b' o' n' c' : Nat) : Tryd.prog.built 45 [(0, .string s), (1, .slice (some ⟨b, o, none⟩) n c), (2, .slice (some ⟨b', o', none⟩) n' c')] = some #[.string s, .slice (some ⟨b, o, none⟩) n c, .slice (some ⟨b', o', none⟩) n' c'] := by kernel_rfl
theorem bu45' (s : ByteArray) (b o n c : Nat) : Tryd.prog.built 45 [(0, .string s), (1, .slice (some ⟨b, o, none⟩) n c)] = some #[.string s, .slice (some ⟨b, o, none⟩) n c, .slice none 0 0] := by kernel_rfl

theorem slLit {α : Type} {enc : α → Value} {e : Nat} {W : World} {B n : Nat} {xs : List α} (hb : Blk W B (xs.map enc).toArray e) (hn : n = xs.length) (hl : xs.length ≤ 1000) : Sl enc W (.slice (some ⟨B, 0, none⟩) n n) xs := by
  subst hn
  exact Own.sl (Own.lit hb (by simp) (Nat.le_refl _) (by simp only [maxLen]; omega)) (by omega)
theorem slRLit {e : Nat} {W : World} {B n : Nat} {rs : List Rel} (hb : Blk W B (relV rs).toArray e) (hn : n = rs.length) (hl : rs.length ≤ 1000) (hwf : ∀ r ∈ rs, (-9223372036854775808 ≤ r.pos ∧ r.pos ≤ 9223372036854775807) ∧ r.name.size ≤ maxLen) : SlR W (.slice (some ⟨B, 0, none⟩) n n) rs := by
  subst hn
  exact SlR.ofOwn (Own.lit hb (by rw [relV_len]) (Nat.le_refl _) (by simp only [maxLen]; omega)) (by omega) hwf

theorem law_four {w : World} : Calls Tryd.prog 49 #[] w fun e w' => ∃ v, e = .returned v ∧ SlO w' v fourL ∧ Ext w w' := by
  refine ir49_calls fun ρ => ?_
  simp [ir49]
  refine eff_lit si24 (by decide) (by decide) (by simp [Value.cells]) fun B1 W1 hB1 hE1 hb1 _ => ?_
  simp [Value.cells] at hb1
  have s1 : Sl encB W1 (.slice (some ⟨B1, 0, none⟩) 4 4) [7, 0, 0, 9] := slLit (by simpa [encB] using hb1) rfl (by simp)
  simp [bu54]
  refine eff_lit si43 (by decide) (by decide) (by simp [Value.cells]) fun B3 W3 hB3 hE3 hb3 _ => ?_
  simp [Value.cells] at hb3
  have s3 : SlR W3 (.slice (some ⟨B3, 0, none⟩) 1 1) [⟨1, sF⟩] := slRLit (by simpa [relV, sF] using hb3) rfl (by simp) (by simp [sF]; decide)
  simp [bu45]
  refine eff_lit si24 (by decide) (by decide) (by simp [Value.cells]) fun B5 W5 hB5 hE5 hb5 _ => ?_
  simp [Value.cells] at hb5
  have s5 : Sl encB W5 (.slice (some ⟨B5, 0, none⟩) 5 5) [1, 0, 0, 0, 0] := slLit (by simpa [encB] using hb5) rfl (by simp)
  simp [bu54]
  refine eff_lit si43 (by decide) (by decide) (by simp [Value.cells]) fun B8 W8 hB8 hE8 hb8 _ => ?_
  simp [Value.cells] at hb8
  have s8 : SlR W8 (.slice (some ⟨B8, 0, none⟩) 2 2) [⟨1, sF⟩, ⟨3, sG⟩] := slRLit (by simpa [relV, sF, sG] using hb8) rfl (by simp) (by simp [sF, sG]; decide)
  simp [bu45]
  refine eff_lit si24 (by decide) (by decide) (by simp [Value.cells]) fun B10 W10 hB10 hE10 hb10 _ => ?_
  simp [Value.cells] at hb10
  have s10 : Sl encB W10 (.slice (some ⟨B10, 0, none⟩) 1 1) [5] := slLit (by simpa [encB] using hb10) rfl (by simp)
  simp [bu45']
  refine eff_lit si24 (by decide) (by decide) (by simp [Value.cells]) fun B12 W12 hB12 hE12 hb12 _ => ?_
  simp [Value.cells] at hb12
  have s12 : Sl encB W12 (.slice (some ⟨B12, 0, none⟩) 2 2) [0, 0] := slLit (by simpa [encB] using hb12) rfl (by simp)
  simp [bu54']
  refine eff_lit si43 (by decide) (by decide) (by simp [Value.cells]) fun B14 W14 hB14 hE14 hb14 _ => ?_
  simp [Value.cells] at hb14
  have s14 : SlR W14 (.slice (some ⟨B14, 0, none⟩) 1 1) [⟨0, sX⟩] := slRLit (by simpa [relV, sX] using hb14) rfl (by simp) (by simp [sX]; decide)
  simp [bu45]
  refine eff_lit si42 (by decide) (by decide) (by simp [Value.cells]) fun B16 W16 hB16 hE16 hb16 _ => ?_
  simp [Value.cells] at hb16
  have e14 := hE16
  have e12 := hE14.trans' e14
  have e10 := hE12.trans' e12
  have e8 := hE10.trans' e10
  have e5 := hE8.trans' e8
  have e3 := hE5.trans' e5
  have e1 := hE3.trans' e3
  simp
  refine ⟨⟨by simp [isSl], rfl, by simp [fourL], fun i hi => ?_⟩, hE1.trans' e1⟩
  have hc := hb16.cell
  simp only [fourL, List.length_cons, List.length_nil] at hi
  simp only [slAddr]
  rcases (show i = 0 ∨ i = 1 ∨ i = 2 ∨ i = 3 by omega) with rfl | rfl | rfl | rfl
  · exact ⟨_, _, _, by rw [hc]; rfl, by rw [hc]; rfl, by rw [hc]; rfl, rfl, by simp [fourL, oM, sM]; decide, s1.ext e1, s3.ext e3⟩
  · exact ⟨_, _, _, by rw [hc]; rfl, by rw [hc]; rfl, by rw [hc]; rfl, rfl, by simp [fourL, oF, sF]; decide, s5.ext e5, s8.ext e8⟩
  · exact ⟨_, _, _, by rw [hc]; rfl, by rw [hc]; rfl, by rw [hc]; rfl, rfl, by simp [fourL, oG, sG]; decide, s10.ext e10, ⟨rfl, rfl, by simp [fourL, oG], by simp [fourL, oG], by simp [fourL, oG], by simp [fourL, oG]⟩⟩
  · exact ⟨_, _, _, by rw [hc]; rfl, by rw [hc]; rfl, by rw [hc]; rfl, rfl, by simp [fourL, oH, sH]; decide, s12.ext e12, s14.ext e14⟩
theorem slSLit {e : Nat} {W : World} {B n : Nat} {xs : List ByteArray} (hb : Blk W B (xs.map Value.string).toArray e) (hn : n = xs.length) (hl : xs.length ≤ 1000) (hs : ∀ s ∈ xs, s.size ≤ maxLen) : SlS W (.slice (some ⟨B, 0, none⟩) n n) xs := ⟨slLit hb hn hl, hs⟩
theorem small_maxLen {n : Nat} (h : n ≤ 1000) : n ≤ maxLen := by simp only [maxLen]; omega

/-- The slots of linked ahead of its last calls. -/
structure LkF (ρ : Env) (B4 B14 B17 : Nat) (l ms pt bv : Value) : Prop where
  h1 : ρ 1 = l
  h2 : ρ 2 = .pointer (some ⟨B4, 0, none⟩)
  h3 : ρ 3 = .int .i64 0
  h5 : ρ 5 = .int .i64 160
  h6 : ρ 6 = ms
  h7 : ρ 7 = .int .i64 0
  h8 : ρ 8 = .int .i64 1
  h9 : ρ 9 = .bool true
  h10 : ρ 10 = .int .i64 0
  h11 : ρ 11 = pt
  h12 : ρ 12 = .int .i64 0
  h13 : ρ 13 = .pointer (some ⟨B14, 0, none⟩)
  h14 : ρ 14 = .int .i64 0
  h15 : ρ 15 = bv
  h16 : ρ 16 = .int .i64 0
  h17 : ρ 17 = .pointer (some ⟨B17, 0, none⟩)
  h18 : ρ 18 = .int .i64 0
structure LkW (w : World) (B4 B14 B17 : Nat) (l ms pt bv a b c ga gb gc ra rb rc : Value) : Prop where
  hl : SlO w l fourL
  b4 : Blk w B4 #[a, b, c] 26
  cM : ImgC w a b c iM
  b14 : Blk w B14 #[ga, gb, gc] 26
  cG : ImgC w ga gb gc iG
  b17 : Blk w B17 #[ra, rb, rc] 26
  cR : ImgC w ra rb rc iG
  ms : SlS w ms [sX]
  pt : Sl encB w pt [7, 0, 0, 9]
  bv : Sl encB w bv bG
theorem LkW.ext {w w' : World} {B4 B14 B17 : Nat} {l ms pt bv a b c ga gb gc ra rb rc : Value} (h : LkW w B4 B14 B17 l ms pt bv a b c ga gb gc ra rb rc) (hE : Ext w w') : LkW w' B4 B14 B17 l ms pt bv a b c ga gb gc ra rb rc :=
  ⟨h.hl.ext hE, h.b4.ext hE, h.cM.ext hE, h.b14.ext hE, h.cG.ext hE, h.b17.ext hE, h.cR.ext hE, h.ms.ext hE, h.pt.ext hE, h.bv.ext hE⟩

theorem linked_k1 {w0 w : World} {ρ : Env} {B4 B14 B17 : Nat} {l ms pt bv a b c ga gb gc ra rb rc x : Value} (hE : Ext w0 w) (hf : LkF ρ B4 B14 B17 l ms pt bv) (hw : LkW w B4 B14 B17 l ms pt bv a b c ga gb gc ra rb rc) (h19 : ρ 19 = x) (h20 : ρ 20 = .int .i64 0) (hx : SlO w x [oM, oG, oF]) :
    ir14_k1.wp ⟨Tryd.prog, 182, ir14_V, []⟩ (retK [.tmp 0] fun e w' => e = .returned (.bool true) ∧ Ext w0 w') (ksOf [.tmp 0] fun e w' => e = .returned (.bool true) ∧ Ext w0 w') ρ w := by
  obtain ⟨h1, h2, h3, h5, h6, h7, h8, h9, h10, h11, h12, h13, h14, h15, h16, h17, h18⟩ := hf
  simp -implicitDefEqProofs [ir14_k1, h3, h5, h7, h10, h12, h14, h16, h18, h20, ir14_k0, h2, hw.b4.cell]
  refine eff_lit si22 (by decide) (by decide) (by simp [Value.cells]) fun B1 W1 hB1 hE1 hb1 _ => ?_
  simp [Value.cells] at hb1
  have s1 : SlS W1 (.slice (some ⟨B1, 0, none⟩) 3 3) [sF, sG, sM] := slSLit (by simpa [sF, sG, sM] using hb1) rfl (by simp) (by simp [sF, sG, sM]; decide)
  have hw1 := hw.ext hE1
  simp -implicitDefEqProofs
  refine (ref_SameStrings hw1.cM.names.1 s1.1).mono ?_
  rintro _ W2 ⟨rfl, hE2⟩
  have hw2 := hw1.ext hE2
  have d1 : decide (iM.names = [sF, sG, sM]) = true := by decide
  rw [d1]
  simp -implicitDefEqProofs [h2, hw2.b4.cell]
  refine eff_lit si23 (by decide) (by decide) (by simp [Value.cells]) fun B3 W3 hB3 hE3 hb3 _ => ?_
  simp [Value.cells] at hb3
  have s3 : Sl Eng.encI W3 (.slice (some ⟨B3, 0, none⟩) 3 3) [0, 5, 6] := slLit (by simpa [Eng.encI] using hb3) rfl (by simp)
  have hw3 := hw2.ext hE3
  simp -implicitDefEqProofs
  refine (ref_SameInts hw3.cM.starts.1 s3).mono ?_
  rintro _ W4 ⟨rfl, hE4⟩
  have hw4 := hw3.ext hE4
  have d2 : decide (iM.starts = [0, 5, 6]) = true := by decide
  rw [d2]
  simp -implicitDefEqProofs [h2, hw4.b4.cell]
  refine eff_lit si24 (by decide) (by decide) (by simp [Value.cells]) fun B5 W5 hB5 hE5 hb5 _ => ?_
  simp [Value.cells] at hb5
  have s5 : Sl encB W5 (.slice (some ⟨B5, 0, none⟩) 10 10) [1, 0, 0, 0, 1, 5, 7, 0, 0, 9] := slLit (by simpa [encB] using hb5) rfl (by simp)
  have hw5 := hw4.ext hE5
  simp -implicitDefEqProofs
  refine (ref_SameBytes hw5.cM.code s5).mono ?_
  rintro _ _ ⟨rfl, rfl⟩
  have d3 : decide (iM.code = [1, 0, 0, 0, 1, 5, 7, 0, 0, 9]) = true := by decide
  rw [d3]
  have hmc := hw5.ms.1.cell 0 (by simp)
  simp at hmc
  simp -implicitDefEqProofs [h6, h8, h9, h11, hw5.ms.1.is, hw5.ms.1.len, hmc, sX]
  refine eff_lit si24 (by decide) (by decide) (by simp [Value.cells]) fun B6 W6 hB6 hE6 hb6 _ => ?_
  simp [Value.cells] at hb6
  have s6 : Sl encB W6 (.slice (some ⟨B6, 0, none⟩) 4 4) [7, 0, 0, 9] := slLit (by simpa [encB] using hb6) rfl (by simp)
  have hw6 := hw5.ext hE6
  simp -implicitDefEqProofs
  refine (ref_SameBytes hw6.pt s6).mono ?_
  rintro _ _ ⟨rfl, rfl⟩
  simp -implicitDefEqProofs [h15]
  refine eff_lit si24 (by decide) (by decide) (by simp [Value.cells]) fun B7 W7 hB7 hE7 hb7 _ => ?_
  simp [Value.cells] at hb7
  have s7 : Sl encB W7 (.slice (some ⟨B7, 0, none⟩) 8 8) bG := slLit (by simpa [encB, bG] using hb7) rfl (by simp [bG])
  have hw7 := hw6.ext hE7
  simp -implicitDefEqProofs
  refine (ref_SameBytes hw7.bv s7).mono ?_
  rintro _ _ ⟨rfl, rfl⟩
  simp -implicitDefEqProofs [h17, h13, hw7.b17.cell, hw7.b14.cell]
  refine (ref_Same hw7.cR hw7.cG).mono ?_
  rintro _ W8 ⟨rfl, hE8⟩
  have x8 : Ext w W8 := ((((((hE1.trans' hE2).trans' hE3).trans' hE4).trans' hE5).trans' hE6).trans' hE7).trans' hE8
  have hx8 := hx.ext x8
  obtain ⟨n, c0, r0, k0, _, _, ho⟩ := hx8.obj 0 (by simp)
  have hn := ho.name
  simp [oM, sM] at hn
  subst hn
  simp at k0
  simp -implicitDefEqProofs [h19, hx8.is, hx8.len, k0]
  exact hE.trans' x8

theorem linked_raw {w0 w : World} {ρ : Env} {B4 B14 B17 : Nat} {l ms pt bv a b c ga gb gc ra rb rc : Value} (hE : Ext w0 w) (hf : LkF ρ B4 B14 B17 l ms pt bv) (hw : LkW w B4 B14 B17 l ms pt bv a b c ga gb gc ra rb rc) :
    (IR.raw (rawReg ir14_body 10)).wp ⟨Tryd.prog, 182, ir14_V, []⟩ (ir14_k1.wp ⟨Tryd.prog, 182, ir14_V, []⟩ (retK [.tmp 0] fun e w' => e = .returned (.bool true) ∧ Ext w0 w') (ksOf [.tmp 0] fun e w' => e = .returned (.bool true) ∧ Ext w0 w')) (ksOf [.tmp 0] fun e w' => e = .returned (.bool true) ∧ Ext w0 w') ρ w := by
  refine raw_ord ir14_o10_ok (Ext w) fun w2 hw2 _ => ⟨hw2, ?_⟩
  obtain ⟨K, hK⟩ : ∃ K : Env → World → Prop, K = ir14_k1.wp ⟨Tryd.prog, 182, ir14_V, []⟩ (retK [.tmp 0] fun e w' => e = .returned (.bool true) ∧ Ext w0 w') (ksOf [.tmp 0] fun e w' => e = .returned (.bool true) ∧ Ext w0 w') := ⟨_, rfl⟩
  rw [← hK]
  obtain ⟨n0, c0, r0, a0, a1, a2, q0⟩ := hw.hl.obj 0 (by simp [fourL])
  obtain ⟨n1, c1, r1, b0, b1, b2, q1⟩ := hw.hl.obj 1 (by simp [fourL])
  obtain ⟨n2, c2, r2, d0, d1, d2, q2⟩ := hw.hl.obj 2 (by simp [fourL])
  obtain ⟨n3, c3, r3, e0, e1, e2, q3⟩ := hw.hl.obj 3 (by simp [fourL])
  simp at a0 a1 a2 b0 b1 b2 d0 d1 d2 e0 e1 e2
  have kc : ∀ {j : Nat} {v : Value}, w.cell? (slAddr l j) = some v → ∀ w', Ext w w' → w'.cell? (slAddr l j) = some v := fun h w' hE => hE.cell h
  have hlen := hw.hl.len
  simp [fourL] at hlen
  obtain ⟨h1, h2, h3, h5, h6, h7, h8, h9, h10, h11, h12, h13, h14, h15, h16, h17, h18⟩ := hf
  have mk : ∀ (W : World) (B : Nat), Ext w W → Blk W B #[n3, c3, r3, n0, c0, r0, n2, c2, r2, n1, c1, r1] 45 → SlO W (.slice (some ⟨B, 0, none⟩) 4 4) fourP := by
    intro W B hEW hb
    have hc := hb.cell
    refine ⟨by simp [isSl], rfl, by simp [fourP], fun i hi => ?_⟩
    simp only [fourP, List.length_cons, List.length_nil] at hi
    simp only [slAddr]
    rcases (show i = 0 ∨ i = 1 ∨ i = 2 ∨ i = 3 by omega) with rfl | rfl | rfl | rfl
    · exact ⟨n3, c3, r3, by rw [hc]; rfl, by rw [hc]; rfl, by rw [hc]; rfl, q3.ext hEW⟩
    · exact ⟨n0, c0, r0, by rw [hc]; rfl, by rw [hc]; rfl, by rw [hc]; rfl, q0.ext hEW⟩
    · exact ⟨n2, c2, r2, by rw [hc]; rfl, by rw [hc]; rfl, by rw [hc]; rfl, q2.ext hEW⟩
    · exact ⟨n1, c1, r1, by rw [hc]; rfl, by rw [hc]; rfl, by rw [hc]; rfl, q1.ext hEW⟩
  simp +contextual -implicitDefEqProofs [ir14_o10, h1, hw2, hw.hl.is, hlen, kc a0, kc a1, kc a2, kc b0, kc b1, kc b2, kc d0, kc d1, kc d2, kc e0, kc e1, kc e2]
  have os : ∀ {n c r : Value} {o : Obj} {W : World}, ObjC W n c r o → n.cells = #[n] ∧ c.cells = #[c] ∧ r.cells = #[r] := fun q => ⟨by rw [q.name]; rfl, isSl_cells q.code.is, isSl_cells q.rels.is⟩
  constructor
  · refine eff_lit si42 (by decide) (by decide) (by simp [Value.cells]) fun B1 W1 hB1 hE1 hb1 _ => ?_
    simp [Value.cells] at hb1
    have hw1 := hw2.trans' hE1
    have hv1 := mk W1 B1 hw1 (by simpa using hb1)
    refine ⟨hw1, eff_lit si22 (by decide) (by decide) (by simp [Value.cells]) fun B3 W3 hB3 hE3 hb3 _ => ?_⟩
    simp [Value.cells] at hb3
    have hu : SlS W3 (.slice (some ⟨B3, 0, none⟩) 1 1) [sM] := slSLit (by simpa [sM] using hb3) rfl (by simp) (by simp [sM]; decide)
    have hEW := hw1.trans' hE3
    have hv := hv1.ext hE3
    refine ⟨hEW, ?_⟩
    simp -implicitDefEqProofs
    refine (lk_Without hv hu).mono ?_
    rintro _ W3 ⟨x, rfl, hx, hE3⟩
    rw [without_P] at hx
    rw [linkE_P]
    have hE4 := hEW.trans' hE3
    simp -implicitDefEqProofs [hE4]
    rw [hK]
    exact linked_k1 (hE.trans' hE4) ⟨by simp [h1], by simp [h2], by simp [h3], by simp [h5], by simp [h6], by simp [h7], by simp [h8], by simp [h9], by simp [h10], by simp [h11], by simp [h12], by simp [h13], by simp [h14], by simp [h15], by simp [h16], by simp [h17], by simp [h18]⟩ (hw.ext hE4) (by simp) (by simp) hx
  · refine eff_lit si22 (by decide) (by decide) (by simp [Value.cells]) fun B3 W3 hB3 hE3 hb3 _ => ?_
    simp [Value.cells] at hb3
    have hu3 : SlS W3 (.slice (some ⟨B3, 0, none⟩) 1 1) [sM] := slSLit (by simpa [sM] using hb3) rfl (by simp) (by simp [sM]; decide)
    have hw1 := hw2.trans' hE3
    refine ⟨hw1, eff_lit si42 (by decide) (by decide) (by simp [Value.cells]) fun B1 W1 hB1 hE1 hb1 _ => ?_⟩
    simp [Value.cells] at hb1
    have hEW := hw1.trans' hE1
    have hv := mk W1 B1 hEW (by simpa using hb1)
    have hu := hu3.ext hE1
    refine ⟨hEW, ?_⟩
    simp -implicitDefEqProofs
    refine (lk_Without hv hu).mono ?_
    rintro _ W3 ⟨x, rfl, hx, hE3⟩
    rw [without_P] at hx
    rw [linkE_P]
    have hE4 := hEW.trans' hE3
    simp -implicitDefEqProofs [hE4]
    rw [hK]
    exact linked_k1 (hE.trans' hE4) ⟨by simp [h1], by simp [h2], by simp [h3], by simp [h5], by simp [h6], by simp [h7], by simp [h8], by simp [h9], by simp [h10], by simp [h11], by simp [h12], by simp [h13], by simp [h14], by simp [h15], by simp [h16], by simp [h17], by simp [h18]⟩ (hw.ext hE4) (by simp) (by simp) hx

theorem law_linked {w : World} : Calls Tryd.prog 14 #[] w fun e w' => e = .returned (.bool true) ∧ Ext w w' := by
  refine ir14_calls fun ρ => ?_
  simp [ir14]
  refine law_four.mono ?_
  rintro _ w1 ⟨l, rfl, hl, hE1⟩
  simp -implicitDefEqProofs
  refine eff_lit si22 (by decide) (by decide) (by simp [Value.cells]) fun B2 W2 hB2 hE2 hb2 _ => ?_
  simp [Value.cells] at hb2
  have hM : SlS W2 (.slice (some ⟨B2, 0, none⟩) 1 1) [sM] := slSLit (by simpa [sM] using hb2) rfl (by simp) (by simp [sM]; decide)
  simp -implicitDefEqProofs
  refine (lk_Link (hl.ext hE2) hM).mono ?_
  rintro _ w3 ⟨a, b, c, rfl, hI, hE3, _⟩
  rw [linkI_M] at hI
  rw [linkE_M]
  simp -implicitDefEqProofs
  refine eff_var z26 (fun v => by simp) (by simp [Value.cells]) (by simp [Value.cells, isSl_one hI.names.1.is, isSl_one hI.starts.1.is, isSl_one hI.code.is]) sz26 fun B4 W4 hB4 hE4 hb4 _ => ?_
  simp [Value.cells] at hb4
  have x4 := (hE2.trans' hE3).trans' hE4
  simp -implicitDefEqProofs
  refine eff_lit si22 (by decide) (by decide) (by simp [Value.cells]) fun B5 W5 hB5 hE5 hb5 _ => ?_
  simp [Value.cells] at hb5
  have hMH : SlS W5 (.slice (some ⟨B5, 0, none⟩) 2 2) [sM, sH] := slSLit (by simpa [sM, sH] using hb5) rfl (by simp) (by simp [sM, sH]; decide)
  have x5 := x4.trans' hE5
  simp -implicitDefEqProofs
  refine (lk_Link (hl.ext x5) hMH).mono ?_
  rintro _ w6 ⟨a', b', c', rfl, hI', hE6, _⟩
  rw [linkE_MH]
  simp -implicitDefEqProofs
  refine eff_var z26 (fun v => by simp) (by simp [Value.cells]) (by simp [Value.cells, isSl_one hI'.names.1.is, isSl_one hI'.starts.1.is, isSl_one hI'.code.is]) sz26 fun B7 W7 hB7 hE7 hb7 _ => ?_
  have x7 := (x5.trans' hE6).trans' hE7
  simp -implicitDefEqProofs
  refine eff_lit si22 (by decide) (by decide) (by simp [Value.cells]) fun B8 W8 hB8 hE8 hb8 _ => ?_
  simp [Value.cells] at hb8
  have hH : SlS W8 (.slice (some ⟨B8, 0, none⟩) 1 1) [sH] := slSLit (by simpa [sH] using hb8) rfl (by simp) (by simp [sH]; decide)
  have x8 := x7.trans' hE8
  simp -implicitDefEqProofs
  refine (lk_Missing (hl.ext x8) hH).mono ?_
  rintro _ w9 ⟨ms, rfl, hms, hE9⟩
  rw [miss_H] at hms
  rw [askH]
  have x9 := x8.trans' hE9
  have y9 : Ext W4 w9 := (((hE5.trans' hE6).trans' hE7).trans' hE8).trans' hE9
  have hb9 := hb4.ext y9
  have hI9 := (hI.ext hE4).ext y9
  have r9 : Eng.rowAt w9 ⟨B4, 0, none⟩ 0 3 = some [a, b, c] := row_blk hb9
  simp -implicitDefEqProofs [r9]
  refine (lk_Number sG hI9).mono ?_
  rintro _ w10 ⟨rfl, hE10⟩
  rw [num_M.1, num_M.2.1, num_M.2.2]
  have hb10 := hb9.ext hE10
  simp -implicitDefEqProofs [hb10.cell]
  refine (lk_Part 2 (by omega) (hI9.ext hE10)).mono ?_
  rintro _ w11 ⟨pt, rfl, hpt, hE11, _⟩
  rw [part_M.2] at hpt
  rw [part_M.1]
  have x11 := (x9.trans' hE10).trans' hE11
  simp -implicitDefEqProofs
  refine eff_lit si22 (by decide) (by decide) (by simp [Value.cells]) fun B12 W12 hB12 hE12 hb12 _ => ?_
  simp [Value.cells] at hb12
  have hG : SlS W12 (.slice (some ⟨B12, 0, none⟩) 1 1) [sG] := slSLit (by simpa [sG] using hb12) rfl (by simp) (by simp [sG]; decide)
  have x12 := x11.trans' hE12
  simp -implicitDefEqProofs
  refine (lk_Link (hl.ext x12) hG).mono ?_
  rintro _ w13 ⟨ga, gb, gc, rfl, hIG, hE13, _⟩
  rw [linkI_G] at hIG
  rw [linkE_G]
  simp -implicitDefEqProofs
  refine eff_var z26 (fun v => by simp) (by simp [Value.cells]) (by simp [Value.cells, isSl_one hIG.names.1.is, isSl_one hIG.starts.1.is, isSl_one hIG.code.is]) sz26 fun B14 W14 hB14 hE14 hb14 _ => ?_
  simp [Value.cells] at hb14
  simp -implicitDefEqProofs [hb14.cell]
  refine (lk_Write (hIG.ext hE14)).mono ?_
  rintro _ w15 ⟨bv, rfl, hbv, hE15⟩
  rw [write_G.1] at hbv
  rw [write_G.2]
  simp -implicitDefEqProofs
  refine (lk_Read hbv (by decide)).mono ?_
  rintro _ w16 ⟨ra, rb, rc, rfl, hIR, hE16⟩
  rw [read_G.2] at hIR
  rw [read_G.1]
  simp -implicitDefEqProofs
  refine eff_var z26 (fun v => by simp) (by simp [Value.cells]) (by simp [Value.cells, isSl_one hIR.names.1.is, isSl_one hIR.starts.1.is, isSl_one hIR.code.is]) sz26 fun B17 W17 hB17 hE17 hb17 _ => ?_
  simp [Value.cells] at hb17
  have y17 : Ext W14 W17 := (hE15.trans' hE16).trans' hE17
  have x17 := ((x12.trans' hE13).trans' hE14).trans' y17
  simp -implicitDefEqProofs
  have z12 : Ext w11 W17 := ((hE12.trans' hE13).trans' hE14).trans' y17
  refine linked_raw (B4 := B4) (B14 := B14) (B17 := B17) (l := l) (ms := ms) (pt := pt) (bv := bv) (hE1.trans' x17) ⟨by simp, by simp, by simp, by simp, by simp, by simp, by simp, by simp, by simp, by simp, by simp, by simp, by simp, by simp, by simp, by simp, by simp⟩
    ⟨hl.ext x17, ((hb10.ext hE11).ext z12), ((hI9.ext hE10).ext hE11).ext z12, hb14.ext y17, (hIG.ext hE14).ext y17, hb17, hIR.ext hE17, ((hms.ext hE10).ext hE11).ext z12, hpt.ext z12, (hbv.ext hE16).ext hE17⟩
end Go.L16
/- Layer 16: the laws LinkImages and LinkBytes. -/
namespace Go.L16
open Go Go.Eng Go.RowKit Go.Proofs
set_option maxRecDepth 100000

theorem qlinked {w0 w : World} (h : Ext w0 w) : Calls Tryd.prog 14 #[] w fun e w' => e = .returned (.bool true) ∧ Ext w0 w' :=
  law_linked.mono fun _ _ hh => ⟨hh.1, h.trans' hh.2⟩

theorem law3 {w : World} {a b c : Value} {i : Img} {n : Int} {s : ByteArray} (hi : ImgC w a b c i) (hn : -9223372036854775808 ≤ n ∧ n ≤ 9223372036854775807) :
    Calls Tryd.prog 3 #[.agg #[a, b, c], .int .i64 n, .string s] w fun e w' => e = .returned (.bool true) ∧ Ext w w' := by
  refine ir3_calls fun ρ h0 h1 h2 => ?_
  simp -implicitDefEqProofs [ir3, h0, h1, h2]
  refine eff_box fun B W hB hE hb _ => ?_
  simp [h0, Value.cells] at hb
  simp -implicitDefEqProofs [hb.cell]
  refine (law_small (hi.ext hE)).mono ?_
  rintro _ w1 ⟨rfl, hE1⟩
  have b1 := hb.ext hE1
  have i1 := (hi.ext hE).ext hE1
  have x1 := hE.trans' hE1
  simp -implicitDefEqProofs [h2]
  split
  · refine (qlinked x1).mono ?_
    rintro _ w2 ⟨rfl, hE2⟩
    simp -implicitDefEqProofs
    exact hE2
  · simp -implicitDefEqProofs [ir3_k1, h1, h2, b1.cell]
    refine (lk_Number s i1).mono ?_
    rintro _ w2 ⟨rfl, hE2⟩
    simp -implicitDefEqProofs [h1, h2, (b1.ext hE2).cell]
    refine (ref_Number s (i1.ext hE2)).mono ?_
    rintro _ w3 ⟨rfl, hE3⟩
    have e3 := hE2.trans' hE3
    simp -implicitDefEqProofs [h1, h2, (b1.ext e3).cell]
    refine (lk_Part n hn (i1.ext e3)).mono ?_
    rintro _ w4 ⟨p, rfl, hp, hE4, _⟩
    have e4 := e3.trans' hE4
    simp -implicitDefEqProofs [h1, h2, (b1.ext e4).cell]
    refine (ref_Part n hn (i1.ext e4)).mono ?_
    rintro _ w5 ⟨q, rfl, hq, hE5⟩
    have e5 := e4.trans' hE5
    have x5 := x1.trans' e5
    have b5 := b1.ext e5
    have i5 := i1.ext e5
    have p5 := hp.ext hE5
    simp -implicitDefEqProofs [-qwps, qwps_eff]
    refine qE_call (.bool true) cc14 (fun w' hw' => ?_) ?_
    · simp
      exact qlinked hw'
    simp -implicitDefEqProofs [-qwps, qwps_eff, qwps_asg, qwps_nil, b5.cell]
    refine qE_call (.int .i64 (checkImage i)) cc19 (fun w' hw' => ?_) ?_
    · simp
      exact (lk_CheckImage (i5.ext hw')).mono fun e w'' hh => ⟨hh.1, hw'.trans' hh.2⟩
    simp -implicitDefEqProofs [-qwps, qwps_eff, qwps_asg, qwps_nil, b5.cell]
    refine qE_call (.int .i64 (checkImage i)) cc20 (fun w' hw' => ?_) ?_
    · simp
      exact (ref_CheckImage (i5.ext hw')).mono fun e w'' hh => ⟨hh.1, hw'.trans' hh.2⟩
    simp -implicitDefEqProofs [-qwps, qwps_eff, qwps_asg, qwps_nil, b5.cell]
    refine qE_call (.bool true) cc21 (fun w' hw' => ?_) ?_
    · simp
      exact (ref_SameBytes (p5.ext hw') (hq.ext hw')).mono fun e w'' hh => ⟨by rw [hh.1]; simp, by rw [← hh.2]; exact hw'⟩
    simp -implicitDefEqProofs [-qwps, qwps_eff, qwps_asg, qwps_nil, ir3_k0]
    intro w' hw'
    exact x5.trans' hw'
end Go.L16
