/- Texts of mine for the claims about layer 16 (link), joined: L16d, L16e, L16f, L16g, L16h, L16i, L16j. -/
import Derived.Test.YtaipjaclgkjhdaaDoorJbe
import Derived.Laws.StructEq
set_option linter.all false
set_option linter.unusedSimpArgs false
set_option linter.unusedVariables false
/- Layer 16: contracts of the reference: SameObjects. -/
namespace Go.L16
open Go Go.Eng Go.RowKit Go.Proofs
set_option maxRecDepth 10000
theorem beq_bytes_list (s t : ByteArray) : (s.toList == t.toList) = decide (s = t) := by
  rw [ByteArray.toList_eq, ByteArray.toList_eq]
  by_cases h : s = t
  · subst h; simp
  · have : s.data.toList ≠ t.data.toList := fun e => h (toList_inj' e)
    simp [h]
    intro e
    exact this (by rw [e])
theorem neq54 (a b : Int) (s t : ByteArray) (w : World) : (binOp .neq 54 (.agg #[.int .i64 a, .string s]) (.agg #[.int .i64 b, .string t])).run Tryd.prog w = .ok (.bool (!(decide (a = b) && decide (s = t)))) w := by
  have hf : ∃ f g, (Tryd.prog.fieldsOf 54).toList = [f, g] ∧ (f.name != "_") = true ∧ (g.name != "_") = true ∧ f.type = 3 ∧ g.type = 9 ∧ f.offset = 0 ∧ g.offset = 1 := by
    have h := (by kernel_rfl : (Tryd.prog.fieldsOf 54).toList.map (fun f => (f.name != "_", f.type, f.offset)) = [(true, 3, 0), (true, 9, 1)])
    obtain ⟨f, l1, hL, h1, h2⟩ := List.map_eq_cons_iff.1 h
    obtain ⟨g, l2, hL2, h3, h4⟩ := List.map_eq_cons_iff.1 h2
    have hl2 : l2 = [] := List.map_eq_nil_iff.1 h4
    subst hl2; subst hL2
    simp only [Prod.mk.injEq] at h1 h3
    exact ⟨f, g, hL, h1.1, h3.1, h1.2.1, h3.2.1, h1.2.2, h3.2.2⟩
  obtain ⟨f, g, hfg, hn1, hn2, ht1, ht2, ho1, ho2⟩ := hf
  rw [run_neq_struct, run_equalIn_agg w 9999 54 _ _ (by kernel_rfl) (by kernel_rfl), hfg]
  have u3 : Tryd.prog.underlying 3 = some (.int .i64) := by kernel_rfl
  have u9 : Tryd.prog.underlying 9 = some .string := by kernel_rfl
  have a3 : isAggT Tryd.prog 3 = some false := by kernel_rfl
  have a9 : isAggT Tryd.prog 9 = some false := by kernel_rfl
  have e1 : (Op.equalIn 9999 3 (.int .i64 a) (.int .i64 b)).run Tryd.prog w = .ok (a == b) w := run_equalIn_int w 9998 3 .i64 .i64 a b u3
  have e2 : (Op.equalIn 9999 9 (.string s) (.string t)).run Tryd.prog w = .ok (s.toList == t.toList) w := run_equalIn_string w 9998 9 s t u9
  have p1 : ∀ x y, (part 3 #[x, y] 0).run Tryd.prog w = .ok x w := fun x y => run_part1 a3 rfl
  have p2 : ∀ x y, (part 9 #[x, y] 1).run Tryd.prog w = .ok y w := fun x y => run_part1 a9 rfl
  have hn1' : f.name ≠ "_" := by simpa using hn1
  have hn2' : g.name ≠ "_" := by simpa using hn2
  simp only [Op.eqFields, ht1, ht2, ho1, ho2, hn1', hn2', ne_eq, not_false_eq_true, if_true, Sem.run_bind, p1, p2, e1, e2, Result.andThen_ok]
  rw [beq_bytes_list] at e2
  by_cases h1 : a = b
  · by_cases h2 : s = t
    · subst h2; simp at e2; simp [h1, p2, e2]
    · simp [h1, h2, p2, e2]
  · simp [h1]

section
variable {Q : Ks} {d : Option Nat} {ty : TypeId} {K : Env → World → Prop} {ρ : Env} {w : World}
theorem eff_neq54 {x y : Operand} {a b : Int} {s t : ByteArray} (hx : evE ρ x = .agg #[.int .i64 a, .string s]) (hy : evE ρ y = .agg #[.int .i64 b, .string t]) (h : K (updO ρ d (.bool (!(decide (a = b) && decide (s = t))))) w) : effW Tryd.prog Q d (.binOp .neq 54 x y 54) ty K ρ w := by
  refine effE_ok (v := _) (w' := w) ?_ h
  have hg : Tryd.prog.eqGuardType Tryd.prog.depth 54 = false := by kernel_rfl
  simp only [execOp, effOp, hx, hy, Sem.run_bind, run_eqGuard_agg w .neq 54 x y _ _ hg, neq54, Result.andThen_ok, Sem.run_pure]
end

theorem ref_SameObjects {w : World} {v u : Value} {l m : List Obj} (hl : SlO w v l) (hm : SlO w u m) :
    Calls Tryd.prog 41 #[v, u] w fun e w' => e = .returned (.bool (decide (l = m))) ∧ Ext w w' := by
  have hbd := hl.bd
  refine ir41_calls fun ρ h0 h1 => ?_
  simp [ir41, h0, h1, hl.is, hl.len, hm.is, hm.len]
  by_cases hlen : l.length = m.length
  · simp [hlen, ir41_k10]
    refine loopC 5 m.length (fun k ρ' w' => Ext w w' ∧ ρ' 0 = v ∧ ρ' 1 = u ∧ l.take k = m.take k) (by simp) ⟨ext_refl _, by simp [h0], by simp [h1], by simp⟩ ?_
    rintro k ρ' w' hk h5 ⟨hE, h0, h1, heq⟩
    have hl' := hl.ext hE
    have hm' := hm.ext hE
    by_cases hlt : k < m.length
    · have hltl : k < l.length := by omega
      obtain ⟨n, c, r, c0, c1, c2, ho⟩ := hl'.obj k hltl
      obtain ⟨n', c', r', d0, d1, d2, ho'⟩ := hm'.obj k hlt
      rw [ho.name] at c0
      rw [ho'.name] at d0
      have bad : l[k] ≠ m[k] → (false = decide (l = m)) := fun hne => by
        symm; rw [decide_eq_false_iff_not]; rintro rfl; exact hne rfl
      by_cases hname : l[k].name = m[k].name
      · simp [ir41_l8, ir41_k7, h5, h0, h1, hlt, hltl, hl'.is, hl'.len, hm'.is, hm'.len, c0, c1, c2, d0, d1, d2, ho.rels.is, ho.rels.len, ho'.rels.is, ho'.rels.len, hname]
        refine ⟨.bool (decide (l[k].code = m[k].code)), fun w2 hw2 => (ref_SameBytes (ho.code.ext hw2) (ho'.code.ext hw2)).mono ?_, ?_⟩
        · rintro _ _ ⟨rfl, rfl⟩; exact ⟨rfl, hw2⟩
        by_cases hcode : l[k].code = m[k].code
        · by_cases hrl : l[k].relocs.length = m[k].relocs.length
          · simp [hcode, hrl]
            intro w2 hw2
            simp [ir41_k5, ir41_k4]
            refine loopC 6 m[k].relocs.length (fun q ρ2 w3 => Ext w2 w3 ∧ ρ2 0 = v ∧ ρ2 1 = u ∧ ρ2 5 = .int .i64 k ∧ l[k].relocs.take q = m[k].relocs.take q) (by simp) ⟨ext_refl _, by simp [h0], by simp [h1], by simp [h5], by simp⟩ ?_
            rintro q ρ2 w3 hq h6 ⟨hE3, h0, h1, h5, heq2⟩
            have hE23 := hw2.trans' hE3
            have hl3 := hl'.ext hE23
            have hm3 := hm'.ext hE23
            have ho3 := ho.rels.ext hE23
            have ho3' := ho'.rels.ext hE23
            by_cases hqlt : q < m[k].relocs.length
            · have hqltl : q < l[k].relocs.length := by omega
              simp [ir41_l3, ir41_k2, h6, h5, h0, h1, hl3.is, hl3.len, hltl, hE23.cell c2, ho3.is, ho3.len, hqltl]
              refine raw_ord ir41_o11_ok (Ext w3) fun w4 hw4 _ => ⟨hw4, ?_⟩
              have f1 : ∀ w5, Ext w3 w5 → w5.cell? (slAddr v (k * 3 + 2)) = some r := fun w5 h => h.cell (hE23.cell c2)
              have f2 : ∀ w5, Ext w3 w5 → w5.cell? (slAddr u (k * 3 + 2)) = some r' := fun w5 h => h.cell (hE23.cell d2)
              have f3 : ∀ w5, Ext w3 w5 → w5.cell? (slAddr r (q * 2)) = some (.int .i64 l[k].relocs[q].pos) := fun w5 h => h.cell (ho3.pos q hqltl)
              have f4 : ∀ w5, Ext w3 w5 → w5.cell? (slAddr r (q * 2 + 1)) = some (.string l[k].relocs[q].name) := fun w5 h => h.cell (ho3.name q hqltl)
              have f5 : ∀ w5, Ext w3 w5 → w5.cell? (slAddr r' (q * 2)) = some (.int .i64 m[k].relocs[q].pos) := fun w5 h => h.cell (ho3'.pos q hqlt)
              have f6 : ∀ w5, Ext w3 w5 → w5.cell? (slAddr r' (q * 2 + 1)) = some (.string m[k].relocs[q].name) := fun w5 h => h.cell (ho3'.name q hqlt)
              simp +contextual [ir41_o11, h6, h5, h0, h1, hl3.is, hl3.len, hm3.is, hm3.len, hltl, hlt, hw4, f1, f2, f3, f4, f5, f6, ho3.is, ho3.len, ho3'.is, ho3'.len, hqltl, hqlt]
              refine eff_neq54 (by rfl) (by rfl) ?_
              by_cases hr : l[k].relocs[q].pos = m[k].relocs[q].pos ∧ l[k].relocs[q].name = m[k].relocs[q].name
              · simp [hr.1, hr.2, ir41_k0, ir41_k1, h6, h5, h0, h1, i64w (n := (q : Int) + 1) (by have := ho3'.bd; omega)]
                refine ⟨hE3.trans' hw4, ?_⟩
                rw [List.take_succ_eq_append_getElem hqltl, List.take_succ_eq_append_getElem hqlt, heq2]
                congr 2
                cases hx : l[k].relocs[q]; cases hy : m[k].relocs[q]
                rw [hx, hy] at hr
                simpa using hr
              · have : (!(decide (l[k].relocs[q].pos = m[k].relocs[q].pos) && decide (l[k].relocs[q].name = m[k].relocs[q].name))) = true := by
                  rw [Bool.not_eq_true', Bool.and_eq_false_imp]; simp; intro h1 h2; exact hr ⟨h1, h2⟩
                rw [this]
                simp [ir41_k0]
                refine ⟨?_, (hE.trans' hE23).trans' hw4⟩
                rintro rfl; exact hr ⟨rfl, rfl⟩
            · have hq' : q = m[k].relocs.length := by omega
              subst hq'
              simp [ir41_l3, h6, h5, h0, h1, hl3.is, hl3.len, hltl, hE23.cell c2, ho3.is, ho3.len, hrl, ir41_k6, i64w (n := (k : Int) + 1) (by omega)]
              refine ⟨hE.trans' hE23, ?_⟩
              rw [List.take_length, List.take_of_length_le (by omega)] at heq2
              rw [List.take_succ_eq_append_getElem hltl, List.take_succ_eq_append_getElem hlt, heq]
              congr 2
              cases hx : l[k]; cases hy : m[k]
              rw [hx, hy] at heq2 hcode hname
              simp at heq2 hcode hname ⊢
              exact ⟨hname, hcode, heq2⟩
          · simp [hcode, hrl]
            intro w2 hw2
            simp [ir41_k5, hrl]
            exact ⟨by rintro rfl; exact hrl rfl, hE.trans' hw2⟩
        · simp [hcode]
          intro w2 hw2
          simp [ir41_k5]
          exact ⟨by rintro rfl; exact hcode rfl, hE.trans' hw2⟩
      · simp [ir41_l8, ir41_k7, h5, h0, h1, hlt, hltl, hl'.is, hl'.len, hm'.is, hm'.len, c0, c1, c2, d0, d1, d2, ho.rels.is, ho.rels.len, ho'.rels.is, ho'.rels.len, hname]
        intro w2 hw2
        simp [ir41_k5]
        exact ⟨by rintro rfl; exact hname rfl, hE.trans' hw2⟩
    · have hk' : k = m.length := by omega
      subst hk'
      simp [ir41_l8, ir41_k9, h5, h0, hl'.is, hl'.len, hlen]
      rw [List.take_length, List.take_of_length_le (by omega)] at heq
      exact ⟨by simp [heq], hE⟩
  · simp [hlen]
    exact ⟨fun e => hlen (by rw [e]), ext_refl _⟩
end Go.L16
/- Layer 16, plainly: what Read reads. -/
namespace Go.L16
open Go Go.Eng Go.RowKit Go.Proofs
set_option maxRecDepth 10000

def be4 (b : List UInt8) : Nat := (b.getD 0 0).toNat * 16777216 + (b.getD 1 0).toNat * 65536 + (b.getD 2 0).toNat * 256 + (b.getD 3 0).toNat
theorem be4_lt (b : List UInt8) : be4 b < 4294967296 := by
  have h0 := (b.getD 0 0).toNat_lt
  have h1 := (b.getD 1 0).toNat_lt
  have h2 := (b.getD 2 0).toNat_lt
  have h3 := (b.getD 3 0).toNat_lt
  unfold be4
  omega

def readGo : Nat → List UInt8 → Option (List (ByteArray × Int) × List UInt8)
  | 0, b => some ([], b)
  | _ + 1, [] => none
  | n + 1, z :: r => if r.length < z.toNat + 4 then none else (readGo n ((r.drop z.toNat).drop 4)).map fun p => ((mkS (r.take z.toNat), (be4 (r.drop z.toNat) : Int)) :: p.1, p.2)
def readI (b : List UInt8) : Option Img := match b with
  | [] => none
  | n :: r => (readGo n.toNat r).bind fun p => if checkImage ⟨p.1.map (·.1), p.1.map (·.2), p.2⟩ = 0 then some ⟨p.1.map (·.1), p.1.map (·.2), p.2⟩ else none
def readE (b : List UInt8) : Int := if (readI b).isSome then 0 else 4
def readL (b : List UInt8) : Img := (readI b).getD emptyI

theorem or64 (x y : Nat) (n : Nat) (hn : n ≤ 40) (hx : x < 4294967296) (hd : x % 2 ^ n = 0) (hy : y < 2 ^ n) (hs : x + y < 4294967296) : IntKind.i64.wrap ((BitVec.ofInt IntKind.i64.bits (x : Int) ||| BitVec.ofInt IntKind.i64.bits (y : Int)).toNat : Int) = ((x + y : Nat) : Int) := by
  have h64 : IntKind.i64.bits = 64 := rfl
  rw [h64]
  have hy2 : y < 4294967296 := by omega
  have ex : (BitVec.ofInt 64 (x : Int)).toNat = x := by rw [BitVec.toNat_ofInt]; omega
  have ey : (BitVec.ofInt 64 (y : Int)).toNat = y := by rw [BitVec.toNat_ofInt]; omega
  rw [BitVec.toNat_or, ex, ey]
  obtain ⟨a, rfl⟩ : ∃ a, x = 2 ^ n * a := ⟨x / 2 ^ n, by have := Nat.div_add_mod x (2 ^ n); omega⟩
  rw [← Nat.two_pow_add_eq_or_of_lt hy]
  exact i64w (by omega)

theorem shl_fact (x m : Nat) (k : Nat) (hm : (2 ^ min k IntKind.i64.bits : Int) = (m : Int)) (h : x * m < 4294967296) : IntKind.i64.wrap ((x : Int) * 2 ^ min k IntKind.i64.bits) = ((x * m : Nat) : Int) := by
  rw [hm, ← Int.natCast_mul, i64w (by omega)]

/-- The word of four bytes, step by step. -/
theorem word_facts (x0 x1 x2 x3 : Nat) (l0 : x0 < 256) (l1 : x1 < 256) (l2 : x2 < 256) (l3 : x3 < 256) : ∃ y0 y1 y2 y01 y012 y : Nat,
    IntKind.i64.wrap ((x0 : Int) * 2 ^ min 24 IntKind.i64.bits) = (y0 : Int) ∧ IntKind.i64.wrap ((x1 : Int) * 2 ^ min 16 IntKind.i64.bits) = (y1 : Int) ∧ IntKind.i64.wrap ((x2 : Int) * 2 ^ min 8 IntKind.i64.bits) = (y2 : Int) ∧
    IntKind.i64.wrap ((BitVec.ofInt IntKind.i64.bits (y0 : Int) ||| BitVec.ofInt IntKind.i64.bits (y1 : Int)).toNat : Int) = (y01 : Int) ∧
    IntKind.i64.wrap ((BitVec.ofInt IntKind.i64.bits (y01 : Int) ||| BitVec.ofInt IntKind.i64.bits (y2 : Int)).toNat : Int) = (y012 : Int) ∧
    IntKind.i64.wrap ((BitVec.ofInt IntKind.i64.bits (y012 : Int) ||| BitVec.ofInt IntKind.i64.bits (x3 : Int)).toNat : Int) = (y : Int) ∧ y = x0 * 16777216 + x1 * 65536 + x2 * 256 + x3 := by
  refine ⟨x0 * 16777216, x1 * 65536, x2 * 256, x0 * 16777216 + x1 * 65536, x0 * 16777216 + x1 * 65536 + x2 * 256, _, shl_fact x0 _ 24 rfl (by omega), shl_fact x1 _ 16 rfl (by omega), shl_fact x2 _ 8 rfl (by omega), ?_, ?_, ?_, rfl⟩
  · exact or64 _ _ 24 (by decide) (by omega) (by omega) (by omega) (by omega)
  · exact or64 _ _ 16 (by decide) (by omega) (by omega) (by omega) (by omega)
  · exact or64 _ _ 8 (by decide) (by omega) (by omega) (by omega) (by omega)
end Go.L16
/- Layer 16: contracts of the reference: Read. -/
namespace Go.L16
open Go Go.Eng Go.RowKit Go.Proofs
set_option maxRecDepth 10000

structure LR (v : Value) (b : List UInt8) (n : Nat) (W : World) (B2 B4 k : Nat) (ρ' : Env) (W' : World) (at_ : Nat) (l1 : List (ByteArray × Int)) (nv sv : Value) : Prop where
  h0 : ρ' 0 = v
  h2 : ρ' 2 = .pointer (some ⟨B2, 0, none⟩)
  h4 : ρ' 4 = .pointer (some ⟨B4, 0, none⟩)
  h5 : ρ' 5 = .int .i64 n
  h6 : ρ' 6 = .int .i64 at_
  gb : W.grownBy W' (some B4)
  b2 : Blk W' B2 #[.slice none 0 0, .slice none 0 0, .slice none 0 0] 26
  box : Blk W' B4 #[nv, sv, .slice none 0 0] 26
  own : OwnS W.heap.size W' [⟨nv, 9, 1, l1.map fun p : ByteArray × Int => Value.string p.1⟩, ⟨sv, 3, 1, l1.map fun p : ByteArray × Int => Eng.encI p.2⟩]
  le : at_ ≤ b.length
  len : l1.length = k
  ok : ∀ p ∈ l1, p.1.size ≤ 255 ∧ 0 ≤ p.2 ∧ p.2 < 4294967296
  rel : readGo n (b.drop 1) = (readGo (n - k) (b.drop at_)).map fun p => (l1 ++ p.1, p.2)

def ReadPost (w : World) (b : List UInt8) (e : Ending) (w' : World) : Prop := ∃ x y z, e = .returned (.tuple #[.agg #[x, y, z], .int .i64 (readE b)]) ∧ ImgC w' x y z (readL b) ∧ Ext w w'

theorem imgC_empty (w : World) : ImgC w (.slice none 0 0) (.slice none 0 0) (.slice none 0 0) emptyI := ⟨⟨Sl.nil _ _, by simp [emptyI]⟩, ⟨Sl.nil _ _, by simp [emptyI]⟩, Sl.nil _ _⟩

theorem ref_Read {w : World} {v : Value} {b : List UInt8} (hv : Sl encB w v b) (hlen : b.length ≤ 1000000) : Calls Tryd.prog 25 #[v] w (ReadPost w b) := by
  refine ir25_calls fun ρ h0 => ?_
  simp [ir25, h0]
  refine eff_alloc z26 fun B2 W2 hB2 hE2 hb2 hS2 => ?_
  have hv2 := hv.ext hE2
  simp [h0, hv2.is, hv2.len]
  -- the answer where it cannot be read
  have fail : ∀ (ρ2 : Env) (W' : World), ρ2 2 = .pointer (some ⟨B2, 0, none⟩) → ρ2 3 = .int .i64 4 → Ext w W' → Blk W' B2 #[.slice none 0 0, .slice none 0 0, .slice none 0 0] 26 → readI b = none →
      retK [.cellN 2 3, .tmp 3] (ReadPost w b) ρ2 W' := by
    intro ρ2 W' h2 h3 hE hb hn
    refine retK_cN h2 hb rfl ?_
    rw [h3]
    refine ⟨_, _, _, by rw [readE, hn]; rfl, ?_, hE⟩
    simp only [readL, hn, Option.getD_none]
    exact imgC_empty _
  cases b with
  | nil =>
    simp [bu26]
    refine eff_storeN (by simp) hb2 (by simp [Value.cells]) (by simp [Value.cells]) sz26 fun W5 hO5 hb5 => ?_
    simp [Value.cells] at hb5 ⊢
    exact fail _ _ (by simp) (by simp) (hO5.ext hE2 hB2) hb5 rfl
  | cons z r =>
    have hc0 := hv2.cell 0 (by simp)
    simp [ir25_k9]
    refine eff_alloc z26 fun B4 W hB4 hE4 hb4 hS4 => ?_
    have hvW := hv2.ext hE4
    have hcW := hvW.cell 0 (by simp)
    simp at hcW hvW
    have hz := z.toNat_lt
    simp [h0, hvW.is, hvW.len, hcW, encB, i64w (n := (z.toNat : Int)) (by omega)]
    have hW2 : Ext w W := hE2.trans' hE4
    have hne : B2 ≠ B4 := by omega
    have hB4W : B4 < W.heap.size := by omega
    refine loopC 7 z.toNat (fun k ρ' W' => ∃ at_ l1 nv sv, LR v (z :: r) z.toNat W B2 B4 k ρ' W' at_ l1 nv sv) (by simp) ⟨1, [], _, _, by simp [h0], by simp, by simp, by simp, by simp, gb_refl _ _, hb2.ext hE4, hb4, by simpa using OwnS.consNil (OwnS.consNil (l := []) trivial 3 1) 9 1, by simp, rfl, by simp, by simp⟩ ?_
    rintro k ρ' W' hk h7 ⟨at_, l1, nv, sv, h0, h2, h4, h5, h6, gb, b2, box, own, hle, hl1, hok, hrel⟩
    have hEW : Ext w W' := gb_toExt gb hW2 (by omega)
    have hv' := hv.ext hEW
    have hrd : readI (z :: r) = (readGo z.toNat r).bind fun p => if checkImage ⟨p.1.map (·.1), p.1.map (·.2), p.2⟩ = 0 then some ⟨p.1.map (·.1), p.1.map (·.2), p.2⟩ else none := rfl
    simp only [List.drop_succ_cons, List.drop_zero] at hrel
    by_cases hlt : k < z.toNat
    · obtain ⟨n', hn'⟩ : ∃ n', z.toNat - k = n' + 1 := ⟨z.toNat - k - 1, by omega⟩
      rw [hn'] at hrel
      -- the answer where it breaks off
      have bad : readGo (n' + 1) ((z :: r).drop at_) = none → readI (z :: r) = none := fun h => by rw [hrd, hrel, h]; rfl
      by_cases hat : at_ < (z :: r).length
      · obtain ⟨c, hc⟩ : ∃ c, (z :: r)[at_] = c := ⟨_, rfl⟩
        have hdrop : (z :: r).drop at_ = c :: (z :: r).drop (at_ + 1) := by rw [← hc]; exact List.drop_eq_getElem_cons hat
        have hca := hv'.cell at_ hat
        rw [hc] at hca
        have hclt := c.toNat_lt
        simp only [List.length_cons] at hlen hat hle
        by_cases hshort : ((z :: r).drop (at_ + 1)).length < c.toNat + 4
        · have hs2 : (r.length : Int) + 1 < (at_ : Int) + 1 + c.toNat + 4 := by simp at hshort; omega
          simp [ir25_l5, ir25_k4, h7, h5, h6, h0, hlt, hv'.is, hv'.len, hca, encB, i64w (n := (at_ : Int) + 1) (by omega), i64w (n := (c.toNat : Int)) (by omega), i64w (n := (at_ : Int) + 1 + c.toNat) (by omega), i64w (n := (at_ : Int) + 1 + c.toNat + 4) (by omega), (show ¬ r.length + 1 ≤ at_ by omega), hs2, (show at_ < r.length + 1 by omega), bu26]
          refine eff_storeN (by simp [h2]) b2 (by simp [Value.cells]) (by simp [Value.cells]) sz26 fun W5 hO5 hb5 => ?_
          simp [Value.cells] at hb5 ⊢
          exact fail _ _ (by simp [h2]) (by simp) (hO5.ext hEW hB2) hb5 (bad (by rw [hdrop, readGo, if_pos hshort]))
        · have hs2 : ¬ (r.length : Int) + 1 < (at_ : Int) + 1 + c.toNat + 4 := by simp at hshort; omega
          simp [ir25_l5, ir25_k4, h7, h5, h6, h0, hlt, hv'.is, hv'.len, hca, encB, i64w (n := (at_ : Int) + 1) (by omega), i64w (n := (c.toNat : Int)) (by omega), i64w (n := (at_ : Int) + 1 + c.toNat) (by omega), i64w (n := (at_ : Int) + 1 + c.toNat + 4) (by omega), (show ¬ r.length + 1 ≤ at_ by omega), hs2, (show at_ < r.length + 1 by omega), ir25_k2]
          have hl1k : l1.length ≤ 255 := by omega
          have hcap := isSl_len_cap hv.is
          have hvl := hv.len
          simp only [List.length_cons] at hvl
          have hsh : c.toNat + 4 ≤ r.length - at_ := by simp at hshort; exact hshort
          have fb : ∀ w5, Ext W' w5 → ∀ j, w5.cell? ⟨B4, j, none⟩ = #[nv, sv, .slice none 0 0][j]? := fun w5 h j => (box.ext h).cell j
          obtain ⟨nm, hnm⟩ : ∃ nm, nm = mkS (((z :: r).drop (at_ + 1)).take c.toNat) := ⟨_, rfl⟩
          have fs : ∀ w5, Ext W' w5 → pv1 w5 .b2s (slSub v 1 (at_ + 1) (at_ + 1 + c.toNat) (slCap v)) = some (.string nm) := fun w5 h => by
            have := b2s_of ((hv'.ext h).sub (l := at_ + 1) (r := at_ + 1 + c.toNat) (m := slCap v) (by omega) (by simp; omega) (by omega) (Nat.le_refl _))
            rw [this, hnm, List.drop_take]
            congr 4
            omega
          have hnms : nm.size = c.toNat := by rw [hnm]; simp; omega
          refine raw_ord ir25_o12_ok (Ext W') fun w2 hw2 _ => ⟨hw2, ?_⟩
          have e1 : ((at_ : Int) + 1 + c.toNat).toNat = at_ + 1 + c.toNat := by omega
          have e2 : ((at_ : Int) + 1).toNat = at_ + 1 := by omega
          simp +contextual [ir25_o12, h0, h4, h6, fb, fs, hw2, hv.is, i64w (n := (at_ : Int) + 1) (by omega), i64w (n := (at_ : Int) + 1 + c.toNat) (by omega), e1, e2, (show (0 : Int) ≤ (at_ : Int) + 1 by omega), (show (at_ : Int) + 1 + c.toNat ≤ slCap v by omega), (show (at_ : Int) + 1 ≤ (at_ : Int) + 1 + c.toNat by omega)]
          refine eff_lit si22 (by decide) (by decide) (by simp [Value.cells]) fun B6 W6 hB6 hE6 hb6 _ => ?_
          simp [Value.cells] at hb6
          have gb6 := gb_ext (gb_ext gb hw2) hE6
          refine ⟨hw2.trans' hE6, ?_⟩
          refine eff_appendS ri22 gb6.size (by rfl) (by rfl) (by simpa using (own.ext hw2).ext hE6) (by simpa using hb6.cells (n := 1) (by simp)) (by simp [Value.oneCell']) (by simp; omega) (by simp; omega) fun nv' W7 hB7 own7 => ?_
          have gb7 := gb_trans gb6 hB7
          have box7 := ((box.ext hw2).ext hE6).below hB7 hB4W
          have b27 := ((b2.ext hw2).ext hE6).below hB7 (by omega)
          simp [h4]
          refine eff_store1 (B := B4) (i := 0) (by simp) box7 (by simp) (by simp; exact isSl_cells own7.head.isl) (by simp; exact isSl_one own7.head.isl) sz22 fun W8 hO8 hb8 => ?_
          simp at hb8
          have own8 := own7.only hO8 hB4W
          have gb8 := gb_only gb7 hO8
          have b28 := hO8.blk b27 hne
          obtain ⟨p, hp⟩ : ∃ p, p = at_ + 1 + c.toNat := ⟨_, rfl⟩
          have ep : (at_ : Int) + 1 + c.toNat = (p : Int) := by omega
          simp [ir25_k1, h6, i64w (n := (at_ : Int) + 1) (by omega), i64w (n := (at_ : Int) + 1 + c.toNat) (by omega), ep]
          have hE8 : Ext w W8 := gb_toExt gb8 hW2 (by omega)
          have hv8 := hv.ext hE8
          obtain ⟨x0, hx0⟩ : ∃ x, x = ((z :: r).getD p 0).toNat := ⟨_, rfl⟩
          obtain ⟨x1, hx1⟩ : ∃ x, x = ((z :: r).getD (p + 1) 0).toNat := ⟨_, rfl⟩
          obtain ⟨x2, hx2⟩ : ∃ x, x = ((z :: r).getD (p + 2) 0).toNat := ⟨_, rfl⟩
          obtain ⟨x3, hx3⟩ : ∃ x, x = ((z :: r).getD (p + 3) 0).toNat := ⟨_, rfl⟩
          have l0 : x0 < 256 := by rw [hx0]; exact UInt8.toNat_lt _
          have l1' : x1 < 256 := by rw [hx1]; exact UInt8.toNat_lt _
          have l2 : x2 < 256 := by rw [hx2]; exact UInt8.toNat_lt _
          have l3 : x3 < 256 := by rw [hx3]; exact UInt8.toNat_lt _
          have hcell : ∀ (j x : Nat), j < r.length + 1 → x = ((z :: r).getD j 0).toNat → ∀ w5, Ext W8 w5 → w5.cell? (slAddr v j) = some (.int .u8 x) := by
            intro j x hj hx w5 h5
            have := (hv8.ext h5).cell j (by simpa using hj)
            rw [this, hx]
            simp [encB, List.getD_eq_getElem?_getD, List.getElem?_eq_getElem (show j < (z :: r).length by simpa using hj)]
          have c0 := hcell p x0 (by omega) hx0
          have c1 := hcell (p + 1) x1 (by omega) hx1
          have c2 := hcell (p + 2) x2 (by omega) hx2
          have c3 := hcell (p + 3) x3 (by omega) hx3
          obtain ⟨y0, y1, y2, y01, y012, y, s0, s1, s2, o1, o2, o3, hy⟩ := word_facts x0 x1 x2 x3 l0 l1' l2 l3
          have hyl : y < 4294967296 := by omega
          simp at o1 o2 o3
          have fb8 : ∀ w5, Ext W8 w5 → ∀ j, w5.cell? ⟨B4, j, none⟩ = #[nv', sv, .slice none 0 0][j]? := fun w5 h j => (hb8.ext h).cell j
          refine raw_ord ir25_o14_ok (Ext W8) fun w9 hw9 _ => ⟨hw9, ?_⟩
          have t1 : ((p : Int) + 1).toNat = p + 1 := by omega
          have t2 : ((p : Int) + 2).toNat = p + 2 := by omega
          have t3 : ((p : Int) + 3).toNat = p + 3 := by omega
          simp +contextual [ir25_o14, h0, h4, h6, fb8, hw9, hv8.is, hv8.len, i64w (n := (p : Int)) (by omega), i64w (n := (p : Int) + 1) (by omega), i64w (n := (p : Int) + 2) (by omega), i64w (n := (p : Int) + 3) (by omega), t1, t2, t3, c0, c1, c2, c3, shfBin, s0, s1, s2, o1, o2, o3,
            i64w (n := (x0 : Int)) (by omega), i64w (n := (x1 : Int)) (by omega), i64w (n := (x2 : Int)) (by omega), i64w (n := (x3 : Int)) (by omega), (show (0 : Int) ≤ (p : Int) + 2 by omega), (show (0 : Int) ≤ (p : Int) + 3 by omega),
            (show p < r.length + 1 by omega), (show p + 1 < r.length + 1 by omega), (show (p : Int) + 2 < (r.length : Int) + 1 by omega), (show (p : Int) + 3 < (r.length : Int) + 1 by omega)]
          refine eff_lit si23 (by decide) (by decide) (by simp [Value.cells]) fun B10 W10 hB10 hE10 hb10 _ => ?_
          simp [Value.cells] at hb10
          have gb10 := gb_ext (gb_ext gb8 hw9) hE10
          refine ⟨hw9.trans' hE10, ?_⟩
          refine eff_appendS ri23 gb10.size (by rfl) (by rfl) (by simpa using ((own8.ext hw9).ext hE10).swap) (by simpa using hb10.cells (n := 1) (by simp)) (by simp [Value.oneCell']) (by simp; omega) (by simp; omega) fun sv' W11 hB11 own11 => ?_
          have gb11 := gb_trans gb10 hB11
          have box11 := ((hb8.ext hw9).ext hE10).below hB11 hB4W
          have b211 := ((b28.ext hw9).ext hE10).below hB11 (by omega)
          simp [h4]
          refine eff_store1 (B := B4) (i := 1) (by simp) box11 (by simp) (by simp; exact isSl_cells own11.head.isl) (by simp; exact isSl_one own11.head.isl) sz23 fun W12 hO12 hb12 => ?_
          simp at hb12
          have own12 := (own11.only hO12 hB4W).swap
          simp [ir25_k0, ir25_k3, h6, h7, i64w (n := (p : Int)) (by omega), i64w (n := (p : Int) + 4) (by omega), i64w (n := (k : Int) + 1) (by omega)]
          have hpd : (z :: r).drop p = ((z :: r).drop (at_ + 1)).drop c.toNat := by rw [List.drop_drop, hp]
          have hbe : (be4 ((z :: r).drop p) : Nat) = y := by
            rw [hy, hx0, hx1, hx2, hx3]
            simp [be4, List.getD_eq_getElem?_getD]
          refine ⟨p + 4, l1 ++ [(nm, (y : Int))], nv', sv', by simp [h0], by simp [h2], by simp [h4], by simp [h5], by simp, gb_only gb11 hO12, hO12.blk b211 hne, hb12, ?_, by simp; omega, by simp [hl1], ?_, ?_⟩
          · simpa [Eng.encI] using own12
          · intro q hq
            rcases List.mem_append.1 hq with hq | hq
            · exact hok q hq
            · simp at hq; subst hq; exact ⟨by simp only [hnms]; omega, by simp only []; omega, by simp only []; omega⟩
          · rw [show (z :: r).drop 1 = r from rfl, hrel, hdrop, readGo, if_neg hshort, ← hnm, ← hpd, hbe, List.drop_drop]
            have : z.toNat - (k + 1) = n' := by omega
            rw [this]
            simp [Option.map_map, Function.comp_def]
      · have hat' : at_ = (z :: r).length := by omega
        simp only [List.length_cons] at hat' hlen
        simp [ir25_l5, ir25_k4, h7, h5, h6, h0, hlt, hv'.is, hv'.len, hat', bu26]
        refine eff_storeN (by simp [h2]) b2 (by simp [Value.cells]) (by simp [Value.cells]) sz26 fun W5 hO5 hb5 => ?_
        simp [Value.cells] at hb5 ⊢
        exact fail _ _ (by simp [h2]) (by simp) (hO5.ext hEW hB2) hb5 (bad (by rw [hat']; simp [readGo]))
    · have hk' : k = z.toNat := by omega
      subst hk'
      simp [ir25_l5, h7, h5, ir25_k8]
      have hgo : readGo z.toNat r = some (l1, (z :: r).drop at_) := by rw [hrel]; simp [readGo]
      have hri : readI (z :: r) = if checkImage ⟨l1.map (·.1), l1.map (·.2), (z :: r).drop at_⟩ = 0 then some ⟨l1.map (·.1), l1.map (·.2), (z :: r).drop at_⟩ else none := by rw [hrd, hgo]; rfl
      obtain ⟨img, himg⟩ : ∃ i : Img, i = ⟨l1.map (·.1), l1.map (·.2), (z :: r).drop at_⟩ := ⟨_, rfl⟩
      rw [← himg] at hri
      have hvl := hv'.len
      simp only [List.length_cons] at hvl hle hlen
      have hcap := isSl_len_cap hv'.is
      have fb : ∀ w5, Ext W' w5 → ∀ j, w5.cell? ⟨B4, j, none⟩ = #[nv, sv, .slice none 0 0][j]? := fun w5 h j => (box.ext h).cell j
      refine raw_ord ir25_o16_ok (Ext W') fun w2 hw2 _ => ⟨hw2, ?_⟩
      simp +contextual [ir25_o16, h0, h4, h6, fb, hw2, hv'.is, hvl, hle, (show (at_ : Int) ≤ (r.length : Int) + 1 by omega)]
      have hsub := (hv'.ext hw2).sub (l := at_) (r := r.length + 1) (m := slCap v) hle (by simp) (by omega) (Nat.le_refl _)
      have etk : ((z :: r).take (r.length + 1)).drop at_ = (z :: r).drop at_ := by rw [List.take_of_length_le (by simp)]
      rw [etk] at hsub
      have gb2 := gb_ext gb hw2
      refine eff_appendS ri24 gb2.size (by rfl) (by rfl) ((own.ext hw2).consNil 5 1) hsub.cells (one_map (fun _ => rfl) _) (by simp; omega) (by simp; omega) fun cv W3 hB3 own3 => ?_
      have gb3 := gb_trans gb2 hB3
      have box3 := (box.ext hw2).below hB3 hB4W
      have b23 := (b2.ext hw2).below hB3 (by omega)
      simp [h4]
      refine eff_store1 (B := B4) (i := 2) (by simp) box3 (by simp) (by simp; exact isSl_cells own3.head.isl) (by simp; exact isSl_one own3.head.isl) sz24 fun W4 hO4 hb4' => ?_
      simp at hb4'
      have own4 := own3.only hO4 hB4W
      have gb4 := gb_only gb3 hO4
      have b24 := hO4.blk b23 hne
      have hE4w : Ext w W4 := gb_toExt gb4 hW2 (by omega)
      have key : ∀ W5, OwnS W.heap.size W5 [⟨cv, 5, 1, [] ++ ((z :: r).drop at_).map encB⟩, ⟨nv, 9, 1, l1.map fun p : ByteArray × Int => Value.string p.1⟩, ⟨sv, 3, 1, l1.map fun p : ByteArray × Int => Eng.encI p.2⟩] → ImgC W5 nv sv cv img := by
        intro W5 h
        obtain ⟨k1, _, k2, _, k3, _, _⟩ := h
        dsimp only at k1 k2 k3
        rw [himg]
        refine ⟨⟨Own.sl (enc := Value.string) (by simpa [Function.comp_def] using k2) (by simp; omega), fun s hs => ?_⟩, ⟨Own.sl (enc := Eng.encI) (by simpa [Function.comp_def] using k3) (by simp; omega), fun n hn => ?_⟩, Own.sl (enc := encB) (by simpa using k1) (by simp; omega)⟩
        · obtain ⟨p, hp, rfl⟩ := List.mem_map.1 hs
          have := (hok p hp).1
          simp only [maxLen]; omega
        · obtain ⟨p, hp, rfl⟩ := List.mem_map.1 hn
          have := hok p hp
          omega
      have hI4 := key W4 own4
      simp [ir25_k7, h4, hb4'.cell]
      refine (ref_CheckImage hI4).mono ?_
      rintro _ w5 ⟨rfl, hw5⟩
      have hb5 := hb4'.ext hw5
      have b25 := b24.ext hw5
      have hE5 := hE4w.trans' hw5
      by_cases hck : checkImage img = 0
      · simp [hck, ir25_k6, h4, hb5.cell]
        refine eff_storeN (by simp [h2]) b25 (by simp [Value.cells]) (by simp [Value.cells, isSl_one hI4.names.1.is, isSl_one hI4.starts.1.is, isSl_one hI4.code.is]) sz26 fun W6 hO6 hb6 => ?_
        simp [Value.cells] at hb6 ⊢
        refine retK_cN (by simp [h2]) hb6 rfl ?_
        rw [if_pos hck] at hri
        refine ⟨nv, sv, cv, by simp [readE, hri], ?_, hO6.ext hE5 hB2⟩
        rw [show readL (z :: r) = img by simp [readL, hri]]
        exact key W6 ((own4.ext hw5).only hO6 (by omega))
      · rw [if_neg hck] at hri
        simp [hck, bu26]
        refine eff_storeN (by simp [h2]) b25 (by simp [Value.cells]) (by simp [Value.cells]) sz26 fun W6 hO6 hb6 => ?_
        simp [Value.cells] at hb6 ⊢
        exact fail _ _ (by simp [h2]) (by simp) (hO6.ext hE5 hB2) hb6 hri
end Go.L16
/- Layer 16: contracts of the laws' helpers: few. -/
namespace Go.L16
open Go Go.Eng Go.RowKit Go.Proofs
set_option maxRecDepth 10000

def fewB (o : Obj) : Bool := (decide (60 < o.code.length) && decide (o.code.length ≤ 20000)) || decide (20010 < o.code.length) || decide (20 < o.relocs.length) || decide (130 < o.name.size)
def fewO (o : Obj) : Bool := !fewB o && o.relocs.all fun r => decide (r.name.size ≤ 130)
def few (l : List Obj) : Bool := l.all fewO && (decide (l.length ≤ 12) || (decide (60 < l.length) && decide (l.length ≤ 63)))

theorem law_few {w : World} {v : Value} {l : List Obj} (hl : SlO w v l) :
    Calls Tryd.prog 27 #[v] w fun e w' => e = .returned (.bool (few l)) ∧ w = w' := by
  have hbd := hl.bd
  refine ir27_calls fun ρ h0 => ?_
  simp [ir27]
  refine loopC 3 l.length (fun k ρ' w' => w' = w ∧ ρ' 0 = v ∧ ∀ j (hj : j < l.length), j < k → fewO l[j] = true) (by simp) ⟨rfl, by simp [h0], by simp⟩ ?_
  rintro k ρ' w' hk h3 ⟨rfl, h0, hall⟩
  by_cases hlt : k < l.length
  · obtain ⟨n, c, r, c0, c1, c2, ho⟩ := hl.obj k hlt
    rw [ho.name] at c0
    have bad : fewO l[k] = false → (false = few l) := fun h => by
      have : l.all fewO = false := by rw [List.all_eq_false]; exact ⟨_, List.getElem_mem hlt, by simp [h]⟩
      simp [few, this]
    have hbI : fewB l[k] = true ↔ (((60 < (l[k].code.length : Int) ∧ (l[k].code.length : Int) ≤ 20000) ∨ 20010 < (l[k].code.length : Int)) ∨ 20 < (l[k].relocs.length : Int)) ∨ 130 < (l[k].name.size : Int) := by
      simp only [fewB, Bool.or_eq_true, Bool.and_eq_true, decide_eq_true_eq]; omega
    simp [ir27_l6, ir27_k5, h3, h0, hlt, hl.is, hl.len, c0, c1, c2, ho.code.is, ho.code.len, ho.rels.is, ho.rels.len]
    by_cases hb : fewB l[k] = true
    · rw [if_pos (hbI.1 hb)]
      exact (bad (by simp [fewO, hb])).symm
    · rw [if_neg (fun h => hb (hbI.2 h))]
      simp [ir27_k3]
      refine loopC 4 l[k].relocs.length (fun q ρ2 w2 => w2 = w' ∧ ρ2 0 = v ∧ ρ2 3 = .int .i64 k ∧ ∀ j (hj : j < l[k].relocs.length), j < q → l[k].relocs[j].name.size ≤ 130) (by simp) ⟨rfl, by simp [h0], by simp [h3], by simp⟩ ?_
      rintro q ρ2 w2 hq h4 ⟨rfl, h0, h3, hall2⟩
      have hbd2 := ho.rels.bd
      by_cases hqlt : q < l[k].relocs.length
      · simp [ir27_l2, ir27_k1, h4, h3, h0, hlt, hl.is, hl.len, c2, ho.rels.is, ho.rels.len, hqlt, ho.rels.name q hqlt]
        by_cases hs : 130 < (l[k].relocs[q].name.size : Int)
        · rw [if_pos hs]
          refine (bad ?_).symm
          have : (l[k].relocs.all fun r => decide (r.name.size ≤ 130)) = false := by rw [List.all_eq_false]; exact ⟨_, List.getElem_mem hqlt, by simp; omega⟩
          simp [fewO, this]
        · rw [if_neg hs]
          simp [ir27_k0, h4, h3, h0, i64w (n := (q : Int) + 1) (by omega)]
          intro j hj hjq
          by_cases h : j = q
          · subst h; omega
          · exact hall2 j hj (by omega)
      · have hq' : q = l[k].relocs.length := by omega
        subst hq'
        simp [ir27_l2, h4, h3, h0, hlt, hl.is, hl.len, c2, ho.rels.is, ho.rels.len, ir27_k4, i64w (n := (k : Int) + 1) (by omega)]
        intro j hj hjk
        by_cases h : j = k
        · subst h
          have : (l[j].relocs.all fun r => decide (r.name.size ≤ 130)) = true := by
            rw [List.all_eq_true]; intro r hr
            obtain ⟨i, hi, rfl⟩ := List.getElem_of_mem hr
            simpa using hall2 i hi hi
          simp [fewO, this, hb]
        · exact hall j hj (by omega)
  · have hk' : k = l.length := by omega
    subst hk'
    have ha : l.all fewO = true := by
      rw [List.all_eq_true]; intro o ho
      obtain ⟨i, hi, rfl⟩ := List.getElem_of_mem ho
      exact hall i hi hi
    have hs : few l = (decide ((l.length : Int) ≤ 12) || (decide (60 < (l.length : Int)) && decide ((l.length : Int) ≤ 63))) := by
      unfold few; rw [ha, Bool.eq_iff_iff]; simp; omega
    simp [ir27_l6, ir27_k7, h3, h0, hl.is, hl.len, hs]
end Go.L16
/- Layer 16: contracts of the library's equal. -/
namespace Go.L16
open Go Go.Eng Go.RowKit Go.Proofs
set_option maxRecDepth 10000

theorem lk_eqS {w : World} {v u : Value} {l m : List ByteArray} (hl : Sl Value.string w v l) (hm : Sl Value.string w u m) :
    Calls Tryd.prog 75 #[v, u] w fun e w' => e = .returned (.bool (decide (l = m))) ∧ Ext w w' := by
  have hbd := hm.bd
  refine ir75_calls fun ρ h0 h1 => ?_
  simp [ir75, h0, h1, hl.is, hl.len, hm.is, hm.len]
  by_cases hlen : l.length = m.length
  · simp [hlen, ir75_k5, h0, hl.is, hl.len]
    refine loopC 13 m.length (fun k ρ' w' => Ext w w' ∧ ρ' 0 = v ∧ ρ' 1 = u ∧ ρ' 12 = .int .i64 m.length ∧ l.take k = m.take k) (by simp) ⟨ext_refl _, by simp [h0], by simp [h1], by simp, by simp⟩ ?_
    rintro k ρ' w' hk h13 ⟨hE, h0, h1, h12, heq⟩
    have hl' := hl.ext hE
    have hm' := hm.ext hE
    by_cases hlt : k < m.length
    · have hltl : k < l.length := by omega
      simp [ir75_l3, ir75_k2, h13, h12, h0, h1, hlt, hltl, hl'.is, hl'.len, hm'.is, hm'.len, hl'.cell k hltl, hm'.cell k hlt]
      intro w2 hw2
      by_cases he : l[k] = m[k]
      · simp [ir75_k0, ir75_k1, he, h13, h12, h0, h1, i64w (n := (k : Int) + 1) (by omega)]
        refine ⟨hE.trans' hw2, ?_⟩
        rw [List.take_succ_eq_append_getElem hltl, List.take_succ_eq_append_getElem hlt, heq, he]
      · simp [ir75_k0, he]
        exact ⟨by rintro rfl; exact he rfl, hE.trans' hw2⟩
    · have hk' : k = m.length := by omega
      subst hk'
      simp [ir75_l3, ir75_k4, h13, h12]
      rw [List.take_length, List.take_of_length_le (by omega)] at heq
      exact ⟨heq, hE⟩
  · simp [hlen]
    exact ⟨fun e => hlen (by rw [e]), ext_refl _⟩

theorem lk_eqI {w : World} {v u : Value} {l m : List Int} (hl : Sl Eng.encI w v l) (hm : Sl Eng.encI w u m) :
    Calls Tryd.prog 76 #[v, u] w fun e w' => e = .returned (.bool (decide (l = m))) ∧ Ext w w' := by
  have hbd := hm.bd
  refine ir76_calls fun ρ h0 h1 => ?_
  simp [ir76, h0, h1, hl.is, hl.len, hm.is, hm.len]
  by_cases hlen : l.length = m.length
  · simp [hlen, ir76_k5, h0, hl.is, hl.len]
    refine loopC 13 m.length (fun k ρ' w' => Ext w w' ∧ ρ' 0 = v ∧ ρ' 1 = u ∧ ρ' 12 = .int .i64 m.length ∧ l.take k = m.take k) (by simp) ⟨ext_refl _, by simp [h0], by simp [h1], by simp, by simp⟩ ?_
    rintro k ρ' w' hk h13 ⟨hE, h0, h1, h12, heq⟩
    have hl' := hl.ext hE
    have hm' := hm.ext hE
    by_cases hlt : k < m.length
    · have hltl : k < l.length := by omega
      simp [ir76_l3, ir76_k2, h13, h12, h0, h1, hlt, hltl, hl'.is, hl'.len, hm'.is, hm'.len, hl'.cell k hltl, hm'.cell k hlt, Eng.encI]
      intro w2 hw2
      by_cases he : l[k] = m[k]
      · simp [ir76_k0, ir76_k1, he, h13, h12, h0, h1, i64w (n := (k : Int) + 1) (by omega)]
        refine ⟨hE.trans' hw2, ?_⟩
        rw [List.take_succ_eq_append_getElem hltl, List.take_succ_eq_append_getElem hlt, heq, he]
      · simp [ir76_k0, he]
        exact ⟨by rintro rfl; exact he rfl, hE.trans' hw2⟩
    · have hk' : k = m.length := by omega
      subst hk'
      simp [ir76_l3, ir76_k4, h13, h12]
      rw [List.take_length, List.take_of_length_le (by omega)] at heq
      exact ⟨heq, hE⟩
  · simp [hlen]
    exact ⟨fun e => hlen (by rw [e]), ext_refl _⟩
end Go.L16
/- Layer 16: contracts of the library's Clone of relocations. -/
namespace Go.L16
open Go Go.Eng Go.RowKit Go.Proofs
set_option maxRecDepth 10000
theorem ri43 : rowInfo Tryd.prog 43 = some (54, 2, 24) := by kernel_rfl
theorem si43 : sliceInfo Tryd.prog 43 = some (54, 2) := by kernel_rfl
def relV (rs : List Rel) : List Value := rs.flatMap fun r => [.int .i64 r.pos, .string r.name]
theorem relV_len (rs : List Rel) : (relV rs).length = rs.length * 2 := by
  induction rs with
  | nil => rfl
  | cons t rs ih => simp only [relV, List.flatMap_cons, List.length_append, List.length_cons, List.length_nil] at ih ⊢; omega
theorem relV_get : ∀ (rs : List Rel) (i : Nat) (h : i < rs.length), (relV rs)[i * 2]? = some (.int .i64 rs[i].pos) ∧ (relV rs)[i * 2 + 1]? = some (.string rs[i].name)
  | t :: rs, 0, _ => by simp [relV]
  | t :: rs, i + 1, h => by
    have := relV_get rs i (by simpa using h)
    have e : ∀ j, (relV (t :: rs))[(i + 1) * 2 + j]? = (relV rs)[i * 2 + j]? := fun j => by
      rw [show (i + 1) * 2 + j = (i * 2 + j) + 2 by omega]
      simp [relV]
    have e0 := e 0
    simp only [Nat.add_zero] at e0
    rw [e0, e 1]
    simpa using this
theorem SlR.cells {w : World} {v : Value} {rs : List Rel} (h : SlR w v rs) : Cells w v 2 (relV rs) := by
  refine ⟨h.is, by rw [relV_len, h.len], fun j hj => ?_⟩
  rw [relV_len] at hj
  have hi : j / 2 < rs.length := by omega
  obtain ⟨e0, e1⟩ := relV_get rs (j / 2) hi
  rcases Nat.mod_two_eq_zero_or_one j with hm | hm
  · have hj2 : j / 2 * 2 = j := by omega
    have := h.pos (j / 2) hi
    rw [hj2] at this e0
    rw [this, ← e0, List.getElem?_eq_getElem]
  · have hj2 : j / 2 * 2 + 1 = j := by omega
    have := h.name (j / 2) hi
    rw [hj2] at this e1
    rw [this, ← e1, List.getElem?_eq_getElem]
theorem SlR.ofOwn {base e : Nat} {w : World} {v : Value} {rs : List Rel} (h : Own base e 2 w v (relV rs)) (hb : rs.length < 4611686018427387904) (hwf : ∀ r ∈ rs, (-9223372036854775808 ≤ r.pos ∧ r.pos ≤ 9223372036854775807) ∧ r.name.size ≤ maxLen) : SlR w v rs := by
  have hc := h.toCells
  have hlen := hc.len
  rw [relV_len] at hlen
  have key : ∀ j x, (relV rs)[j]? = some x → w.cell? (slAddr v j) = some x := fun j x hx => by
    obtain ⟨hj, rfl⟩ := List.getElem?_eq_some_iff.1 hx
    exact hc.cell j hj
  exact ⟨hc.is, by omega, hb, fun i hi => key _ _ (relV_get rs i hi).1, fun i hi => key _ _ (relV_get rs i hi).2, hwf⟩
theorem lk_CloneR {w : World} {v : Value} {rs : List Rel} (hl : SlR w v rs) (hlen : rs.length ≤ 1000000) :
    Calls Tryd.prog 70 #[v] w fun e w' => ∃ x, e = .returned x ∧ SlR w' x rs ∧ Ext w w' ∧ ∃ base, w.heap.size ≤ base ∧ Own base 54 2 w' x (relV rs) := by
  refine ir70_calls fun ρ h0 => ?_
  simp [ir70, h0]
  refine eff_eqlNil (e := 54) (by kernel_rfl) (by simpa using hl.is) ?_
  simp
  cases hn : isNilSl v with
  | true =>
    have : rs = [] := by
      have h1 := hl.len
      rcases isSl_cases hl.is with ⟨b, o, n, c, rfl, _⟩ | rfl | ⟨b, o, s, rfl⟩
      rotate_left 2
      · simp [isNilSl] at hn
      · simp [isNilSl] at hn
      · simp [slLen] at h1; exact List.length_eq_zero_iff.1 h1.symm
    subst this
    simp
    exact ⟨⟨rfl, rfl, by simp, fun i h => by simp at h, fun i h => by simp at h, by simp⟩, ext_refl _, w.heap.size, Nat.le_refl _, Own.nil _ _ _ _⟩
  | false =>
    simp [ir70_k0, h0]
    refine eff_lit si43 (by decide) (by decide) (by simp) fun B3 W3 hB3 hE3 hb3 _ => ?_
    simp at hb3
    simp [h0]
    refine eff_append ri43 hE3 (by rfl) (by rfl) (Own.lit (n := 0) (sz := 2) hb3 (by simp) hB3 (by decide)) (hl.ext hE3).cells (fun u hu => ?_) (by simp [relV_len]; omega) (by simp [relV_len]; omega) fun u4 W4 hE4 ho4 _ _ => ?_
    · simp only [relV, List.mem_flatMap] at hu
      obtain ⟨r, _, hr⟩ := hu
      simp at hr
      rcases hr with rfl | rfl <;> rfl
    · simp at ho4 ⊢
      exact ⟨SlR.ofOwn ho4 hl.bd hl.wf, hE4, w.heap.size, Nat.le_refl _, ho4⟩
end Go.L16
/- Layer 16: bytes.Equal. -/
namespace Go.L16
open Go Go.Eng Go.RowKit Go.Proofs
theorem lk_eqB {w : World} {v u : Value} {l m : List UInt8} (hl : Sl encB w v l) (hm : Sl encB w u m) :
    Calls Tryd.prog 77 #[v, u] w fun e w' => e = .returned (.bool (decide (l = m))) ∧ w = w' := by
  refine ir77_calls fun ρ h0 h1 => ?_
  simp [ir77, h0, h1, b2s_of hl, b2s_of hm, mkS_inj]
end Go.L16
