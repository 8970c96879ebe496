/- Texts of mine for the claims about layer 16 (link), joined: L16z, L16La, L16Lb, L16Lc, L16Ld, L16Le, L16Lf, L16Lg, L16Lh, L16Li, L16Lj, L16Lk, L16Ll. -/
import Derived.Test.YtaipjaclgkjhdaaDoorJbn
set_option linter.all false
set_option linter.unusedSimpArgs false
set_option linter.unusedVariables false
/- Layer 16, plainly: reading and writing images are inverse. -/
namespace Go.L16
open Go Go.Eng Go.RowKit Go.Proofs
set_option maxRecDepth 100000

def encL (ps : List (ByteArray × Int)) : List UInt8 := ps.flatMap fun p => entryL p.1 p.2
theorem ofNat_small {n : Nat} (h : n ≤ 255) : (UInt8.ofNat n).toNat = n := by simp; omega
theorem be4_be32 (n : Nat) (h : n < 4294967296) (r : List UInt8) : be4 (be32 n ++ r) = n := by
  simp [be4, be32]; omega
theorem be32_be4 : ∀ (l : List UInt8), 4 ≤ l.length → be32 (be4 l) = l.take 4
  | a :: b :: c :: d :: r, _ => by
    have ha := a.toNat_lt; have hb := b.toNat_lt; have hc := c.toNat_lt; have hd := d.toNat_lt
    simp only [be4, be32, List.getD_cons_zero, List.getD_cons_succ, List.take_succ_cons, List.take_zero]
    have e : ∀ (m : Nat) (x : UInt8), m % 256 = x.toNat → UInt8.ofNat m = x := fun m x h => UInt8.toNat_inj.1 (by simpa using h)
    rw [e _ a (by omega), e _ b (by omega), e _ c (by omega), e _ d (by omega)]

theorem readGo_enc : ∀ (ps : List (ByteArray × Int)) (rest : List UInt8), (∀ p ∈ ps, p.1.size ≤ 255 ∧ 0 ≤ p.2 ∧ p.2 < 4294967296) → readGo ps.length (encL ps ++ rest) = some (ps, rest)
  | [], rest, _ => by simp [readGo, encL]
  | (s, n) :: ps, rest, h => by
    obtain ⟨h1, h2, h3⟩ := h (s, n) (by simp)
    have ih := readGo_enc ps rest fun p hp => h p (by simp [hp])
    obtain ⟨m, rfl⟩ : ∃ m : Nat, n = m := ⟨n.toNat, by omega⟩
    have e : encL ((s, (m : Int)) :: ps) ++ rest = UInt8.ofNat s.size :: (s.data.toList ++ (be32 m ++ (encL ps ++ rest))) := by simp [encL, entryL]
    have hl : s.data.toList.length = s.size := by simp
    have hz := ofNat_small h1
    have h4 : (be32 m).length = 4 := by simp [be32]
    rw [e, List.length_cons, readGo, hz, if_neg (by simp [h4]), ← hl, List.drop_left, List.take_left, be4_be32 m (by omega), show List.drop 4 (be32 m ++ (encL ps ++ rest)) = encL ps ++ rest by rw [← h4, List.drop_left], ih]
    simp [mkS_toList]
theorem readGo_spec : ∀ (n : Nat) (b : List UInt8) (ps : List (ByteArray × Int)) (rest : List UInt8), readGo n b = some (ps, rest) → ps.length = n ∧ b = encL ps ++ rest
  | 0, b, ps, rest, h => by simp [readGo] at h; obtain ⟨rfl, rfl⟩ := h; simp [encL]
  | n + 1, [], ps, rest, h => by simp [readGo] at h
  | n + 1, z :: r, ps, rest, h => by
    rw [readGo] at h
    split at h
    · cases h
    · rename_i hlen
      obtain ⟨⟨ps', rest'⟩, hp, he⟩ := Option.map_eq_some_iff.1 h
      simp only [Prod.mk.injEq] at he
      obtain ⟨rfl, rfl⟩ := he
      obtain ⟨h1, h2⟩ := readGo_spec n _ _ _ hp
      refine ⟨by simp [h1], ?_⟩
      have hz := z.toNat_lt
      have hsz : (mkS (r.take z.toNat)).size = z.toNat := by rw [mkS_size, List.length_take]; omega
      have e1 : UInt8.ofNat z.toNat = z := by simp
      have e2 := be32_be4 (r.drop z.toNat) (by simp; omega)
      have e3 : (mkS (r.take z.toNat)).data.toList = r.take z.toNat := by simp [mkS]
      have e4 : encL ((mkS (r.take z.toNat), (be4 (r.drop z.toNat) : Int)) :: ps') = entryL (mkS (r.take z.toNat)) (be4 (r.drop z.toNat)) ++ encL ps' := rfl
      rw [e4, entryL, hsz, e1, e3, Int.toNat_natCast, e2]
      simp only [List.cons_append, List.append_assoc]
      rw [← h2, List.take_append_drop, List.take_append_drop]

theorem headL_enc {i : Img} (h : i.starts.length = i.names.length) : headL i i.names.length = UInt8.ofNat i.names.length :: encL (i.names.zip i.starts) := by
  have : (List.range i.names.length).map (fun j => (i.names.getD j .empty, i.starts.getD j 0)) = i.names.zip i.starts := by
    apply List.ext_getElem
    · simp [h]
    · intro j h1 h2
      simp at h1
      simp [h1, show j < i.starts.length by omega]
  rw [headL, encL, ← this, List.flatMap_map]
theorem read_write {i : Img} (h : checkImage i = 0) : readI (writeL i) = some i := by
  have hok := imgOk_of h
  have hl := hok.starts
  have hcode := hok.code
  rw [writeL, if_pos h, headL_enc hl, List.cons_append, readI, ofNat_small (by have := hok.len; omega)]
  have hz : (i.names.zip i.starts).length = i.names.length := by simp [hl]
  have hgo := readGo_enc (i.names.zip i.starts) i.code fun p hp => by
    obtain ⟨k, hk, rfl⟩ := List.getElem_of_mem hp
    simp at hk ⊢
    have h1 := isName_size (hok.name k (by omega))
    have h2 := hok.top k (by omega)
    have h3 := hok.nonneg k (by omega)
    omega
  rw [hz] at hgo
  rw [hgo]
  have e1 : (i.names.zip i.starts).map (·.1) = i.names := by rw [List.map_fst_zip]; omega
  have e2 : (i.names.zip i.starts).map (·.2) = i.starts := by rw [List.map_snd_zip]; omega
  simp [e1, e2, h]
theorem write_read {b : List UInt8} {i : Img} (h : readI b = some i) : checkImage i = 0 ∧ writeL i = b := by
  cases b with
  | nil => cases h
  | cons z r =>
    simp only [readI, Option.bind_eq_some_iff] at h
    obtain ⟨⟨ps, rest⟩, hgo, h⟩ := h
    split at h
    · rename_i hc
      cases h
      obtain ⟨h1, h2⟩ := readGo_spec _ _ _ _ hgo
      refine ⟨hc, ?_⟩
      have hzip : (ps.map (·.1)).zip (ps.map (·.2)) = ps := by
        clear hc hgo h1 h2
        induction ps with
        | nil => rfl
        | cons p ps ih => simp [ih]
      rw [writeL, if_pos hc, headL_enc (by simp), hzip, List.cons_append, ← h2]
      simp [h1]
    · cases h

theorem law4_k1 {w0 w : World} {ρ : Env} {B5 : Nat} {v pa pb pc : Value} {bs : List UInt8} (hE : Ext w0 w) (h1 : ρ 1 = v) (h9 : ρ 9 = .pointer (some ⟨B5, 0, none⟩)) (h10 : ρ 10 = .int .i64 (readE bs)) (hb : Sl encB w v bs) (hb5 : Blk w B5 #[pa, pb, pc] 26) (hp : ImgC w pa pb pc (readL bs)) :
    ir4_k1.wp ⟨Tryd.prog, 97, ir4_V, []⟩ (retK [.tmp 4] fun e w' => e = .returned (.bool true) ∧ Ext w0 w') (ksOf [.tmp 4] fun e w' => e = .returned (.bool true) ∧ Ext w0 w') ρ w := by
  simp -implicitDefEqProofs [ir4_k1, h10]
  by_cases hr : readE bs = 0
  · obtain ⟨i, hi⟩ : ∃ i, readI bs = some i := by
      unfold readE at hr
      split at hr
      · rename_i h; exact Option.isSome_iff_exists.1 h
      · cases hr
    obtain ⟨hc, hw⟩ := write_read hi
    have hl : readL bs = i := by simp [readL, hi]
    rw [hl] at hp
    simp -implicitDefEqProofs [hr, h9, hb5.cell]
    refine (lk_Write hp).mono ?_
    rintro _ w2 ⟨x, rfl, hx, hE2⟩
    rw [hw] at hx
    simp -implicitDefEqProofs [hc, h1]
    refine (ref_SameBytes hx (hb.ext hE2)).mono ?_
    rintro _ _ ⟨rfl, rfl⟩
    simp -implicitDefEqProofs [ir4_k0]
    refine (qlinked (hE.trans' hE2)).mono ?_
    rintro _ w3 ⟨rfl, hE3⟩
    simp -implicitDefEqProofs
    exact hE3
  · simp -implicitDefEqProofs [hr, ir4_k0]
    refine (qlinked hE).mono ?_
    rintro _ w3 ⟨rfl, hE3⟩
    simp -implicitDefEqProofs
    exact hE3

theorem law4 {w : World} {a b c v : Value} {i : Img} {bs : List UInt8} (hi : ImgC w a b c i) (hb : Sl encB w v bs) :
    Calls Tryd.prog 4 #[.agg #[a, b, c], v] w fun e w' => e = .returned (.bool true) ∧ Ext w w' := by
  refine ir4_calls fun ρ h0 h1 => ?_
  simp -implicitDefEqProofs [ir4, h0, h1]
  refine eff_box fun B W hB hE hbx _ => ?_
  simp [h0, Value.cells] at hbx
  simp -implicitDefEqProofs [hbx.cell]
  refine (law_small (hi.ext hE)).mono ?_
  rintro _ w1 ⟨rfl, hE1⟩
  have b1 := hbx.ext hE1
  have i1 := (hi.ext hE).ext hE1
  have x1 := hE.trans' hE1
  simp -implicitDefEqProofs [h1, hb.is, hb.len]
  split
  · refine (qlinked x1).mono ?_
    rintro _ w2 ⟨rfl, hE2⟩
    simp -implicitDefEqProofs
    exact hE2
  · rename_i hsm
    have hlen : bs.length ≤ 1500 := by omega
    simp -implicitDefEqProofs [ir4_k3, h1, b1.cell]
    refine (lk_Write i1).mono ?_
    rintro _ w2 ⟨x, rfl, hx, hE2⟩
    have x2 := x1.trans' hE2
    simp -implicitDefEqProofs [h1, (b1.ext hE2).cell]
    refine (ref_Write (i1.ext hE2)).mono ?_
    rintro _ w3 ⟨y, rfl, hy, hE3⟩
    have x3 := x2.trans' hE3
    have b3 := (b1.ext hE2).ext hE3
    have i3 := (i1.ext hE2).ext hE3
    simp -implicitDefEqProofs [h1]
    refine (lk_Read (hb.ext x3) (by omega)).mono ?_
    rintro _ w4 ⟨pa, pb, pc, rfl, hp, hE4⟩
    have x4 := x3.trans' hE4
    simp -implicitDefEqProofs
    refine eff_var z26 (fun v => by simp) (by simp [Value.cells]) (by simp [Value.cells, isSl_one hp.names.1.is, isSl_one hp.starts.1.is, isSl_one hp.code.is]) sz26 fun B5 W5 hB5 hE5 hb5 _ => ?_
    simp [Value.cells] at hb5
    have x5 := x4.trans' hE5
    simp -implicitDefEqProofs [h1]
    refine (ref_Read (hb.ext x5) (by omega)).mono ?_
    rintro _ w6 ⟨qa, qb, qc, rfl, hq, hE6⟩
    have x6 := x5.trans' hE6
    simp -implicitDefEqProofs
    refine eff_var z26 (fun v => by simp) (by simp [Value.cells]) (by simp [Value.cells, isSl_one hq.names.1.is, isSl_one hq.starts.1.is, isSl_one hq.code.is]) sz26 fun B7 W7 hB7 hE7 hb7 _ => ?_
    simp [Value.cells] at hb7
    have x7 := x6.trans' hE7
    have z7 := ((hE4.trans' hE5).trans' hE6).trans' hE7
    simp -implicitDefEqProofs
    refine (ref_SameBytes ((hx.ext hE3).ext z7) (hy.ext z7)).mono ?_
    rintro _ _ ⟨rfl, rfl⟩
    simp -implicitDefEqProofs [((hb5.ext hE6).ext hE7).cell, hb7.cell]
    refine (ref_Same (((hp.ext hE5).ext hE6).ext hE7) (hq.ext hE7)).mono ?_
    rintro _ w8 ⟨rfl, hE8⟩
    have x8 := x7.trans' hE8
    simp -implicitDefEqProofs [ir4_k2]
    have c3 : Ext w3 w8 := z7.trans' hE8
    have hb8 : Blk w8 B5 #[pa, pb, pc] 26 := ((hb5.ext hE6).ext hE7).ext hE8
    have hp8 : ImgC w8 pa pb pc (readL bs) := (((hp.ext hE5).ext hE6).ext hE7).ext hE8
    by_cases hc : checkImage i = 0
    · have hrw := read_write hc
      have hre : readE (writeL i) = 0 := by simp [readE, hrw]
      have hrl : readL (writeL i) = i := by simp [readL, hrw]
      have hwl : (writeL i).length ≤ 1000000 := by
        have hok := imgOk_of hc
        have h2 := headL_len hok i.names.length (Nat.le_refl _)
        have h3 := hok.len
        have h4 : i.code.length ≤ 800 := by
          have : small i = true := by by_cases h : small i = true; exact h; exact absurd (Or.inl (by simpa using h)) hsm
          simp [small] at this
          exact this.2
        rw [writeL, if_pos hc, List.length_append]
        omega
      simp -implicitDefEqProofs [hc]
      refine (lk_Read ((hx.ext hE3).ext c3) hwl).mono ?_
      rintro _ w9 ⟨ra, rb, rc, rfl, hr, hE9⟩
      rw [hre]
      rw [hrl] at hr
      simp -implicitDefEqProofs
      refine eff_var z26 (fun v => by simp) (by simp [Value.cells]) (by simp [Value.cells, isSl_one hr.names.1.is, isSl_one hr.starts.1.is, isSl_one hr.code.is]) sz26 fun B10 W10 hB10 hE10 hb10 _ => ?_
      simp [Value.cells] at hb10
      have c10 := (c3.trans' hE9).trans' hE10
      simp -implicitDefEqProofs [hb10.cell, (b3.ext c10).cell]
      refine (ref_Same (hr.ext hE10) (i3.ext c10)).mono ?_
      rintro _ w11 ⟨rfl, hE11⟩
      have e11 : Ext w8 w11 := (hE9.trans' hE10).trans' hE11
      simp -implicitDefEqProofs
      exact law4_k1 (x8.trans' e11) (by simp [h1]) (by simp) (by simp) (hb.ext (x8.trans' e11)) (hb8.ext e11) (hp8.ext e11)
    · simp -implicitDefEqProofs [hc]
      exact law4_k1 x8 (by simp [h1]) (by simp) (by simp) (hb.ext x8) hb8 hp8
end Go.L16
/- Layer 16: the law LinkReaches. -/
namespace Go.L16
open Go Go.Eng Go.RowKit Go.Proofs
set_option maxRecDepth 100000

theorem law9 {w : World} {v u : Value} {l : List Obj} {roots : List ByteArray} (hl : SlO w v l) (hr : SlS w u roots) :
    Calls Tryd.prog 9 #[v, u] w fun e w' => e = .returned (.bool true) ∧ Ext w w' := by
  refine ir9_calls fun ρ h0 h1 => ?_
  have tail : ∀ ρ2 : Env, ρ2 0 = v → ρ2 1 = u → ir9_k0.wp ⟨Tryd.prog, 93, ir9_V, []⟩ (retK [.tmp 4] fun e w' => e = .returned (.bool true) ∧ Ext w w') (ksOf [.tmp 4] fun e w' => e = .returned (.bool true) ∧ Ext w w') ρ2 w := by
    intro ρ2 h0 h1
    simp -implicitDefEqProofs [ir9_k0, h0, h1]
    refine (lk_Reached hl hr).mono ?_
    rintro _ w1 ⟨a, rfl, ha, hE1⟩
    simp -implicitDefEqProofs [h0, h1]
    refine (ref_Reached (hl.ext hE1) (hr.ext hE1)).mono ?_
    rintro _ w2 ⟨b, rfl, hb, _, hE2⟩
    have x2 := hE1.trans' hE2
    simp -implicitDefEqProofs [h0, h1]
    refine (lk_Missing (hl.ext x2) (hr.ext x2)).mono ?_
    rintro _ w3 ⟨c, rfl, hc, hE3⟩
    have x3 := x2.trans' hE3
    simp -implicitDefEqProofs [h0, h1]
    refine (ref_Missing (hl.ext x3) (hr.ext x3)).mono ?_
    rintro _ w4 ⟨d, rfl, hd, _, hE4⟩
    have x4 := x3.trans' hE4
    simp -implicitDefEqProofs [h0, h1]
    refine (lk_Without (hl.ext x4) (hr.ext x4)).mono ?_
    rintro _ w5 ⟨x, rfl, hx, hE5⟩
    have x5 := x4.trans' hE5
    simp -implicitDefEqProofs [h0, h1]
    refine (ref_Without (hl.ext x5) (hr.ext x5)).mono ?_
    rintro _ w6 ⟨y, rfl, hy, _, hE6⟩
    have x6 := x5.trans' hE6
    simp -implicitDefEqProofs
    refine law_linked.mono ?_
    rintro _ w7 ⟨rfl, hE7⟩
    have c2 := ((((hE3.trans' hE4).trans' hE5).trans' hE6).trans' hE7)
    have c4 := ((hE5.trans' hE6).trans' hE7)
    simp -implicitDefEqProofs
    refine (ref_SameStrings ((ha.ext hE2).ext c2).1 (hb.ext c2).1).mono ?_
    rintro _ w8 ⟨rfl, hE8⟩
    simp -implicitDefEqProofs
    refine (ref_SameStrings (((hc.ext hE4).ext c4).ext hE8).1 ((hd.ext c4).ext hE8).1).mono ?_
    rintro _ w9 ⟨rfl, hE9⟩
    simp -implicitDefEqProofs
    refine (ref_SameObjects ((((hx.ext hE6).ext hE7).ext hE8).ext hE9) (((hy.ext hE7).ext hE8).ext hE9)).mono ?_
    rintro _ w10 ⟨rfl, hE10⟩
    simp -implicitDefEqProofs
    exact (((x6.trans' hE7).trans' hE8).trans' hE9).trans' hE10
  simp -implicitDefEqProofs [ir9, h0, h1]
  refine (law_few hl).mono ?_
  rintro _ _ ⟨rfl, rfl⟩
  by_cases hf : few l = true
  · simp -implicitDefEqProofs [hf, h1]
    refine (law_short hr).mono ?_
    rintro _ _ ⟨rfl, rfl⟩
    by_cases hs : short roots = true
    · simp -implicitDefEqProofs [hs]
      exact tail _ (by simp [h0]) (by simp [h1])
    · have hs' : short roots = false := by simpa using hs
      simp -implicitDefEqProofs [hs']
      refine law_linked.mono ?_
      rintro _ w2 ⟨rfl, hE2⟩
      simp -implicitDefEqProofs
      exact hE2
  · have hf' : few l = false := by simpa using hf
    simp -implicitDefEqProofs [hf']
    refine law_linked.mono ?_
    rintro _ w2 ⟨rfl, hE2⟩
    simp -implicitDefEqProofs
    exact hE2
end Go.L16
/- Layer 16: the law LinkLinks. -/
namespace Go.L16
open Go Go.Eng Go.RowKit Go.Proofs
set_option maxRecDepth 100000

theorem law12_tail {w0 w : World} {ρ : Env} {B : Nat} {v u a b c : Value} {l : List Obj} {roots : List ByteArray} {i : Img} (hE0 : Ext w0 w) (h0 : ρ 0 = v) (h1 : ρ 1 = u) (h5 : ρ 5 = .pointer (some ⟨B, 0, none⟩)) (hl : SlO w v l) (hr : SlS w u roots) (hbx : Blk w B #[a, b, c] 26) (hi : ImgC w a b c i) :
    ir12_k0.wp ⟨Tryd.prog, 96, ir12_V, []⟩ (retK [.tmp 6] fun e w' => e = .returned (.bool true) ∧ Ext w0 w') (ksOf [.tmp 6] fun e w' => e = .returned (.bool true) ∧ Ext w0 w') ρ w := by
  simp -implicitDefEqProofs [ir12_k0, h0, h1]
  refine (lk_Link hl hr).mono ?_
  rintro _ w1 ⟨pa, pb, pc, rfl, hp, hE1, _⟩
  simp -implicitDefEqProofs
  refine eff_var z26 (fun v => by simp) (by simp [Value.cells]) (by simp [Value.cells, isSl_one hp.names.1.is, isSl_one hp.starts.1.is, isSl_one hp.code.is]) sz26 fun B2 W2 hB2 hE2 hb2 _ => ?_
  simp [Value.cells] at hb2
  have x2 := hE1.trans' hE2
  simp -implicitDefEqProofs [h0, h1]
  refine (ref_Link (hl.ext x2) (hr.ext x2)).mono ?_
  rintro _ w3 ⟨qa, qb, qc, rfl, hq, _, hE3⟩
  simp -implicitDefEqProofs
  refine eff_var z26 (fun v => by simp) (by simp [Value.cells]) (by simp [Value.cells, isSl_one hq.names.1.is, isSl_one hq.starts.1.is, isSl_one hq.code.is]) sz26 fun B4 W4 hB4 hE4 hb4 _ => ?_
  simp [Value.cells] at hb4
  have x4 := (x2.trans' hE3).trans' hE4
  simp -implicitDefEqProofs [h0, h1, h5, (hbx.ext x4).cell]
  refine (lk_CheckLink (hl.ext x4) (hr.ext x4) (hi.ext x4)).mono ?_
  rintro _ w5 ⟨rfl, hE5⟩
  have x5 := x4.trans' hE5
  simp -implicitDefEqProofs [h0, h1, h5, (hbx.ext x5).cell]
  refine (ref_CheckLink (hl.ext x5) (hr.ext x5) (hi.ext x5)).mono ?_
  rintro _ w6 ⟨rfl, hE6⟩
  have x6 := x5.trans' hE6
  have b6 := (hb4.ext hE5).ext hE6
  have q6 := ((hq.ext hE4).ext hE5).ext hE6
  simp -implicitDefEqProofs [h0, h1, h5, b6.cell]
  refine (lk_CheckLink (hl.ext x6) (hr.ext x6) q6).mono ?_
  rintro _ w7 ⟨rfl, hE7⟩
  have x7 := x6.trans' hE7
  simp -implicitDefEqProofs
  refine law_linked.mono ?_
  rintro _ w8 ⟨rfl, hE8⟩
  have b8 := (b6.ext hE7).ext hE8
  have q8 := (q6.ext hE7).ext hE8
  have c8 := ((((((hE3.trans' hE4).trans' hE5).trans' hE6).trans' hE7).trans' hE8))
  simp -implicitDefEqProofs [b8.cell, (hb2.ext c8).cell]
  refine (ref_Same ((hp.ext hE2).ext c8) q8).mono ?_
  rintro _ w9 ⟨rfl, hE9⟩
  have hown : checkLinkB l roots (linkI l roots) = decide (linkE l roots = 0) := by
    by_cases he : linkE l roots = 0
    · have ha : askedE l roots = 0 := by
        unfold linkE at he
        split at he
        · assumption
        · rename_i h; exact absurd he h
      simp [checkLinkB, he, ha]
    · simp [checkLinkB, he]
  simp -implicitDefEqProofs [hown]
  exact ⟨by by_cases h : linkE l roots = 0 <;> simp [h], ((hE0.trans' x7).trans' hE8).trans' hE9⟩

theorem law12 {w : World} {v u a b c : Value} {l : List Obj} {roots : List ByteArray} {i : Img} (hl : SlO w v l) (hr : SlS w u roots) (hi : ImgC w a b c i) :
    Calls Tryd.prog 12 #[v, u, .agg #[a, b, c]] w fun e w' => e = .returned (.bool true) ∧ Ext w w' := by
  refine ir12_calls fun ρ h0 h1 h2 => ?_
  simp -implicitDefEqProofs [ir12, h0, h1, h2]
  refine eff_box fun B W hB hE hbx _ => ?_
  simp [h2, Value.cells] at hbx
  have fin : Calls Tryd.prog 14 #[] W fun e w' => e = .returned (.bool true) ∧ Ext w w' := qlinked hE
  simp -implicitDefEqProofs [h0]
  refine (law_few (hl.ext hE)).mono ?_
  rintro _ _ ⟨rfl, rfl⟩
  by_cases hf : few l = true
  · simp -implicitDefEqProofs [hf, h1]
    refine (law_short (hr.ext hE)).mono ?_
    rintro _ _ ⟨rfl, rfl⟩
    by_cases hs : short roots = true
    · simp -implicitDefEqProofs [hs, hbx.cell]
      refine (law_small (hi.ext hE)).mono ?_
      rintro _ w2 ⟨rfl, hE2⟩
      have x2 := hE.trans' hE2
      by_cases hm : small i = true
      · simp -implicitDefEqProofs [hm]
        exact law12_tail (B := B) x2 (by simp [h0]) (by simp [h1]) (by simp) (hl.ext x2) (hr.ext x2) (hbx.ext hE2) (hi.ext x2)
      · have hm' : small i = false := by simpa using hm
        simp -implicitDefEqProofs [hm']
        refine (qlinked x2).mono ?_
        rintro _ w3 ⟨rfl, hE3⟩
        simp -implicitDefEqProofs
        exact hE3
    · have hs' : short roots = false := by simpa using hs
      simp -implicitDefEqProofs [hs']
      refine fin.mono ?_
      rintro _ w2 ⟨rfl, hE2⟩
      simp -implicitDefEqProofs
      exact hE2
  · have hf' : few l = false := by simpa using hf
    simp -implicitDefEqProofs [hf']
    refine fin.mono ?_
    rintro _ w2 ⟨rfl, hE2⟩
    simp -implicitDefEqProofs
    exact hE2
end Go.L16
/- Layer 16: the law LinkChecks. -/
namespace Go.L16
open Go Go.Eng Go.RowKit Go.Proofs
set_option maxRecDepth 100000

theorem law11 {w : World} {v : Value} {l : List Obj} (hl : SlO w v l) :
    Calls Tryd.prog 11 #[v] w fun e w' => e = .returned (.bool true) ∧ Ext w w' := by
  refine ir11_calls fun ρ h0 => ?_
  simp -implicitDefEqProofs [ir11, h0]
  refine (law_few hl).mono ?_
  rintro _ _ ⟨rfl, rfl⟩
  have hbd := hl.bd
  by_cases hf : few l = true
  · simp -implicitDefEqProofs [hf, ir11_k5]
    refine loopC 3 l.length (fun k ρ' w' => Ext w w' ∧ ρ' 0 = v) (by simp) ⟨ext_refl _, by simp [h0]⟩ ?_
    rintro k ρ' w1 hk h3 ⟨hE1, h0⟩
    have hl1 := hl.ext hE1
    by_cases hlt : k < l.length
    · obtain ⟨n, c, r, c0, c1, c2, hob⟩ := hl1.obj k hlt
      simp -implicitDefEqProofs [ir11_l3, ir11_k2, h3, h0, hl1.is, hl1.len, hlt, c0, c1, c2]
      refine (lk_Needs hob).mono ?_
      rintro _ w2 ⟨x, rfl, hx, hE2⟩
      simp -implicitDefEqProofs [h3, h0, hl1.is, hl1.len, hlt, hE2.cell c0, hE2.cell c1, hE2.cell c2]
      refine (ref_Needs (hob.ext hE2)).mono ?_
      rintro _ w3 ⟨y, rfl, hy, hE3⟩
      have e3 := hE2.trans' hE3
      have o3 := hob.ext e3
      have x3 := hx.ext hE3
      simp -implicitDefEqProofs [-qwps, qwps_eff, qwps_asg, qwps_nil, h3, h0, hl1.is, hl1.len, hlt, e3.cell c0, e3.cell c1, e3.cell c2]
      refine qE_call (.int .i64 (checkObj l[k])) cc44 (fun w' hw' => ?_) ?_
      · simp
        exact (lk_Check (o3.ext hw')).mono fun e w'' hh => ⟨hh.1, hw'.trans' hh.2⟩
      simp -implicitDefEqProofs [-qwps, qwps_eff, qwps_asg, qwps_nil, h3, h0, hl1.is, hl1.len, hlt, e3.cell c0, e3.cell c1, e3.cell c2]
      refine qE_call (.int .i64 (checkObj l[k])) cc45 (fun w' hw' => ?_) ?_
      · simp
        exact (ref_Check (o3.ext hw')).mono fun e w'' hh => ⟨hh.1, hw'.trans' hh.2⟩
      simp -implicitDefEqProofs [-qwps, qwps_eff, qwps_asg, qwps_nil]
      refine qE_call (.bool true) cc40 (fun w' hw' => ?_) ?_
      · simp
        exact (ref_SameStrings (x3.ext hw').1 (hy.ext hw').1).mono fun e w'' hh => ⟨by rw [hh.1]; simp, hw'.trans' hh.2⟩
      simp -implicitDefEqProofs [-qwps, qwps_eff, qwps_asg, qwps_nil]
      intro w' hw'
      simp -implicitDefEqProofs [ir11_k0, ir11_k1, h3, h0, i64w (n := (k : Int) + 1) (by omega)]
      exact (hE1.trans' e3).trans' hw'
    · have hk' : k = l.length := by omega
      subst hk'
      simp -implicitDefEqProofs [ir11_l3, h3, h0, hl1.is, hl1.len, ir11_k4]
      refine (lk_CheckAll hl1).mono ?_
      rintro _ w2 ⟨rfl, hE2⟩
      simp -implicitDefEqProofs [h0]
      refine (ref_CheckAll (hl1.ext hE2)).mono ?_
      rintro _ w3 ⟨rfl, hE3⟩
      simp -implicitDefEqProofs
      refine (qlinked ((hE1.trans' hE2).trans' hE3)).mono ?_
      rintro _ w4 ⟨rfl, hE4⟩
      simp -implicitDefEqProofs
      exact hE4
  · have hf' : few l = false := by simpa using hf
    simp -implicitDefEqProofs [hf']
    refine law_linked.mono ?_
    rintro _ w2 ⟨rfl, hE2⟩
    simp -implicitDefEqProofs
    exact hE2
end Go.L16
/- Layer 16, plainly: the image that is linked is right; its parts. -/
namespace Go.L16
open Go Go.Eng Go.RowKit Go.Proofs
set_option maxRecDepth 100000

theorem startsOf_len (l : List Obj) (R : List ByteArray) : (startsOf l R).length = R.length := by simp [startsOf]
theorem codesOf_len (l : List Obj) (R : List ByteArray) : (codesOf l R).length = R.length := by simp [codesOf]
theorem startsOf_getD (l : List Obj) (R : List ByteArray) {k : Nat} (h : k < R.length) : (startsOf l R).getD k 0 = (((codesOf l R).take k).flatten.length : Nat) := by
  simp [startsOf, h]
theorem flat_mono {α : Type} (L : List (List α)) {a b : Nat} (h : a ≤ b) : (L.take a).flatten.length ≤ (L.take b).flatten.length := by
  have : L.take b = L.take a ++ (L.take b).drop a := by
    conv => lhs; rw [← List.take_append_drop a (L.take b)]
    rw [List.take_take, Nat.min_eq_left h]
  rw [this, List.flatten_append, List.length_append]
  omega
theorem isName_at {l : List Obj} {R : List ByteArray} (h : Full l R) {k : Nat} (hk : k < R.length) : isName R[k] = true := by
  obtain ⟨j, hj, _, hn⟩ := h.found _ (List.getElem_mem hk)
  have := h.ok.ok _ (List.getElem_mem hj)
  unfold checkObj at this
  split at this
  · rename_i hc
    simp only [objShape, Bool.and_eq_true] at hc
    rw [← hn]; exact hc.1.1.1
  · cases this

theorem imgOf_ok {l : List Obj} {R : List ByteArray} (h : Full l R) : checkImage (imgOf l R) = 0 := by
  have hcl := codes_len h R.length
  rw [List.take_of_length_le (by rw [codesOf_len]; exact Nat.le_refl _)] at hcl
  have hlen := h.len
  have hshape : imgShape (imgOf l R) = true := by
    have h0 : R.length = 0 → (codesOf l R).flatten.length = 0 := fun e => by
      have : R = [] := List.length_eq_zero_iff.1 e
      subst this; rfl
    have d1 : decide (60 < R.length) = false := decide_eq_false (by omega)
    have d2 : decide (1200000 < (codesOf l R).flatten.length) = false := decide_eq_false (by omega)
    have d3 : (decide (R.length = 0) && decide (0 < (codesOf l R).flatten.length)) = false := by
      rw [Bool.and_eq_false_imp]
      intro e
      exact decide_eq_false (by have := h0 (of_decide_eq_true e); omega)
    have d4 : decide ((startsOf l R).length ≠ R.length) = false := decide_eq_false (by rw [startsOf_len]; simp)
    show (!(decide (60 < R.length) || decide ((startsOf l R).length ≠ R.length) || decide (1200000 < (codesOf l R).flatten.length) || (decide (R.length = 0) && decide (0 < (codesOf l R).flatten.length)))) = true
    rw [d1, d2, d3, d4]; rfl
  have hall : (List.range (imgOf l R).names.length).all (fun k => !badAt (imgOf l R) k) = true := by
    rw [List.all_eq_true]
    intro k hk
    have hk : k < R.length := by simpa [imgOf] using hk
    have htop := flat_mono (codesOf l R) (show k ≤ R.length by omega)
    rw [List.take_of_length_le (i := R.length) (by rw [codesOf_len]; exact Nat.le_refl _)] at htop
    have hgn : R.getD k ByteArray.empty = R[k] := by simp [hk]
    have e0 : isName (R.getD k ByteArray.empty) = true := by rw [hgn]; exact isName_at h hk
    simp only [badAt, imgOf, Bool.not_eq_true', Bool.or_eq_false_iff, Bool.not_eq_false', e0, Bool.and_eq_false_imp, decide_eq_true_eq, decide_eq_false_iff_not, startsOf_getD l R hk]
    refine ⟨⟨⟨⟨trivial, fun h0 => ?_⟩, fun h0 => ?_⟩, fun h0 => ?_⟩, ?_⟩
    · have h1 : R.getD (k - 1) ByteArray.empty = R[k - 1] := by simp [show k - 1 < R.length by omega]
      rw [hgn, h1]
      exact List.pairwise_iff_getElem.1 h.asc (k - 1) k (by omega) hk (by omega)
    · subst h0; simp
    · rw [startsOf_getD l R (by omega : k - 1 < R.length)]
      have := flat_mono (codesOf l R) (show k - 1 ≤ k by omega)
      omega
    · omega
  unfold checkImage
  rw [hshape, hall]; rfl

theorem partEnd_of {l : List Obj} {R : List ByteArray} {j : Nat} (hj : j < R.length) : partEnd (imgOf l R) j = (((codesOf l R).take (j + 1)).flatten.length : Nat) := by
  unfold partEnd
  split
  · rename_i h
    exact startsOf_getD l R h
  · rename_i h
    have h : ¬ j + 1 < R.length := h
    rw [List.take_of_length_le (by rw [codesOf_len]; omega)]
    rfl
theorem part_of {l : List Obj} {R : List ByteArray} (h : Full l R) {j : Nat} (hj : j < R.length) : partE (imgOf l R) j = 0 ∧ partL (imgOf l R) j = codeOf R (objAt l R[j]) := by
  have hE : partE (imgOf l R) j = 0 := by
    have : (j : Int) < ((imgOf l R).names.length : Int) := by simp [imgOf, hj]
    simp only [partE, imgOf_ok h, if_true]
    rw [if_pos ⟨by omega, this⟩]
  refine ⟨hE, ?_⟩
  have hjc : j < (codesOf l R).length := by rw [codesOf_len]; exact hj
  unfold partL
  rw [if_pos hE]
  simp only [Int.toNat_natCast, partEnd_of hj]
  have h1 : (imgOf l R).starts.getD j 0 = (((codesOf l R).take j).flatten.length : Nat) := startsOf_getD l R hj
  rw [h1]
  simp only [Int.toNat_natCast, imgOf]
  have h2 : (codesOf l R).flatten = ((codesOf l R).take j).flatten ++ (codeOf R (objAt l R[j]) ++ ((codesOf l R).drop (j + 1)).flatten) := by
    conv => lhs; rw [← List.take_append_drop j (codesOf l R)]
    rw [List.flatten_append, List.drop_eq_getElem_cons hjc, List.flatten_cons]
    simp [codesOf]
  have h3 : ((codesOf l R).take (j + 1)).flatten.length = ((codesOf l R).take j).flatten.length + (codeOf R (objAt l R[j])).length := by
    rw [List.take_succ_eq_append_getElem hjc, List.flatten_append, List.length_append]
    simp [codesOf]
  rw [h2, h3, List.take_length_add_append, List.drop_left]
  simp

theorem exists_reached (l : List Obj) (roots : List ByteArray) : ∃ R, IsReached l roots R := by
  classical
  have key : ∀ (ns acc : List ByteArray), Asc acc → Asc (ns.foldl putS acc) ∧ ∀ s, s ∈ ns.foldl putS acc ↔ s ∈ acc ∨ s ∈ ns := by
    intro ns
    induction ns with
    | nil => intro acc h; exact ⟨h, fun s => by simp⟩
    | cons n ns ih =>
      intro acc h
      obtain ⟨h1, h2⟩ := ih (putS acc n) (asc_putS h)
      refine ⟨h1, fun s => ?_⟩
      rw [List.foldl_cons, h2, mem_putS, List.mem_cons]
      constructor
      · rintro ((h | h) | h)
        · exact .inr (.inl h)
        · exact .inl h
        · exact .inr (.inr h)
      · rintro (h | h | h)
        · exact .inl (.inr h)
        · exact .inl (.inl h)
        · exact .inr h
  obtain ⟨h1, h2⟩ := key ((allNames l roots).filter fun s => decide (Reach l roots s)) [] List.Pairwise.nil
  exact ⟨_, h1, fun s => (h2 s).trans (by simp only [List.not_mem_nil, false_or, List.mem_filter, decide_eq_true_eq]; exact ⟨fun h => h.2, fun h => ⟨reach_all h, h⟩⟩)⟩
theorem reached_is (l : List Obj) (roots : List ByteArray) : IsReached l roots (reachedL l roots) := Classical.epsilon_spec (exists_reached l roots)

/-- What is linked: an image that is right. -/
theorem linkI_cases (l : List Obj) (roots : List ByteArray) :
    (linkE l roots ≠ 0 ∧ linkI l roots = emptyI) ∨ (linkE l roots = 0 ∧ askedE l roots = 0 ∧ missingL l roots = [] ∧ Full l (reachedL l roots) ∧ linkI l roots = imgOf l (reachedL l roots)) := by
  by_cases he : linkE l roots = 0
  · refine .inr ⟨he, ?_⟩
    have ha : askedE l roots = 0 := by
      unfold linkE at he
      split at he
      · assumption
      · rename_i h; exact absurd he h
    have hm : missingL l roots = [] := by
      unfold linkE at he
      rw [if_pos ha] at he
      split at he
      · assumption
      · cases he
    exact ⟨ha, hm, full_of (asked_ok ha).1 (reached_is l roots) hm, by simp [linkI, he]⟩
  · exact .inl ⟨he, by simp [linkI, he]⟩
theorem emptyI_ok : checkImage emptyI = 0 := by decide

/-! ### Places -/
theorem foldl_put2_set (R : List ByteArray) (a : Nat) (x : UInt8) : ∀ (rs : List Rel) (c : List UInt8), (∀ r ∈ rs, r.pos.toNat ≠ a ∧ r.pos.toNat + 1 ≠ a) → rs.foldl (put2 R) (c.set a x) = (rs.foldl (put2 R) c).set a x
  | [], _, _ => rfl
  | r :: rs, c, h => by
    obtain ⟨h1, h2⟩ := h r (by simp)
    have : put2 R (c.set a x) r = (put2 R c r).set a x := by
      unfold put2
      rw [List.set_comm _ _ (Ne.symm h1), List.set_comm _ _ (Ne.symm h2)]
    rw [List.foldl_cons, List.foldl_cons, this, foldl_put2_set R a x rs _ fun r' hr' => h r' (by simp [hr'])]

theorem rel_far {o : Obj} (h : checkObj o = 0) : ∀ (d i : Nat) (hi : i + d + 1 < o.relocs.length), o.relocs[i].pos + 2 ≤ o.relocs[i + d + 1].pos
  | 0, i, hi => by
    obtain ⟨_, _, _, _, _, h6⟩ := rel_ok h hi
    have := h6 (by omega)
    simpa [show i < o.relocs.length by omega] using this
  | d + 1, i, hi => by
    have h1 := rel_far h d i (by omega)
    obtain ⟨_, _, _, _, _, h6⟩ := rel_ok h hi
    have := h6 (by omega)
    simp only [show i + (d + 1) + 1 - 1 = i + d + 1 by omega] at this
    have h2 : o.relocs.getD (i + d + 1) ⟨0, .empty⟩ = o.relocs[i + d + 1] := by simp [show i + d + 1 < o.relocs.length by omega]
    rw [h2] at this
    show o.relocs[i].pos + 2 ≤ o.relocs[i + (d + 1) + 1].pos
    omega

/-- The code as it is before the r-th place is looked at: the places ahead are empty again. -/
def codeZ (R : List ByteArray) (o : Obj) (r : Nat) : List UInt8 := (o.relocs.drop r).foldl (put2 R) o.code
theorem codeZ_len (R : List ByteArray) (o : Obj) (r : Nat) : (codeZ R o r).length = o.code.length := foldl_put2_len R _ _
theorem codeZ_zero (R : List ByteArray) (o : Obj) : codeZ R o 0 = codeOf R o := by simp [codeZ, codeOf]
theorem codeZ_end (R : List ByteArray) (o : Obj) : codeZ R o o.relocs.length = o.code := by simp [codeZ]
theorem codeZ_step {R : List ByteArray} {o : Obj} (h : checkObj o = 0) {r : Nat} (hr : r < o.relocs.length) :
    codeZ R o r = put2 R (codeZ R o (r + 1)) o.relocs[r] := by
  have hfar : ∀ q ∈ o.relocs.drop (r + 1), q.pos.toNat ≠ o.relocs[r].pos.toNat ∧ q.pos.toNat + 1 ≠ o.relocs[r].pos.toNat ∧ q.pos.toNat ≠ o.relocs[r].pos.toNat + 1 ∧ q.pos.toNat + 1 ≠ o.relocs[r].pos.toNat + 1 := by
    intro q hq
    obtain ⟨d, hd, rfl⟩ := List.getElem_of_mem hq
    simp only [List.length_drop] at hd
    have h1 := rel_far h d r (by omega)
    have e : (o.relocs.drop (r + 1))[d] = o.relocs[r + d + 1] := by rw [List.getElem_drop]; congr 1; omega
    rw [e]
    have h0 := (rel_ok h hr).1
    omega
  unfold codeZ
  rw [List.drop_eq_getElem_cons hr, List.foldl_cons]
  generalize hrs : List.drop (r + 1) o.relocs = rs at hfar
  show List.foldl (put2 R) (put2 R o.code o.relocs[r]) rs = _
  unfold put2
  rw [show (List.foldl (fun (c : List UInt8) (r : Rel) => (c.set r.pos.toNat (UInt8.ofNat ((idx R r.name).toNat / 256))).set (r.pos.toNat + 1) (UInt8.ofNat ((idx R r.name).toNat)))) = List.foldl (put2 R) from rfl]
  rw [foldl_put2_set R _ _ rs _ fun q hq => ⟨(hfar q hq).2.2.1, (hfar q hq).2.2.2⟩, foldl_put2_set R _ _ rs _ fun q hq => ⟨(hfar q hq).1, (hfar q hq).2.1⟩]
theorem getD_set_self {α : Type} (c : List α) (a : Nat) (d x : α) (h : c.getD a d = x) : c.set a x = c := by
  apply List.ext_getElem (by simp)
  intro i h1 h2
  rw [List.getElem_set]
  split
  · rename_i e; subst e
    have : a < c.length := h2
    simp [this] at h
    exact h.symm
  · rfl
theorem codeZ_next {R : List ByteArray} {o : Obj} (h : checkObj o = 0) {r : Nat} (hr : r < o.relocs.length) :
    ((codeZ R o r).set o.relocs[r].pos.toNat 0).set (o.relocs[r].pos.toNat + 1) 0 = codeZ R o (r + 1) := by
  have hok := rel_ok h hr
  have hz : ∀ a, (a = o.relocs[r].pos.toNat ∨ a = o.relocs[r].pos.toNat + 1) → (codeZ R o (r + 1)).set a 0 = codeZ R o (r + 1) := by
    intro a ha
    have hfar : ∀ q ∈ o.relocs.drop (r + 1), q.pos.toNat ≠ a ∧ q.pos.toNat + 1 ≠ a := by
      intro q hq
      obtain ⟨d, hd, rfl⟩ := List.getElem_of_mem hq
      simp only [List.length_drop] at hd
      have h1 := rel_far h d r (by omega)
      have e : (o.relocs.drop (r + 1))[d] = o.relocs[r + d + 1] := by rw [List.getElem_drop]; congr 1; omega
      rw [e]
      have h0 := hok.1
      omega
    unfold codeZ
    rw [← foldl_put2_set R a 0 _ _ hfar, getD_set_self o.code a 0 0]
    rcases ha with rfl | rfl
    · exact UInt8.toNat_inj.1 (by rw [hok.2.2.2.1]; rfl)
    · exact UInt8.toNat_inj.1 (by rw [hok.2.2.2.2.1]; rfl)
  rw [codeZ_step h hr]
  unfold put2
  rw [List.set_comm _ _ (by omega : o.relocs[r].pos.toNat + 1 ≠ o.relocs[r].pos.toNat), List.set_set, List.set_set, hz _ (.inl rfl), hz _ (.inr rfl)]
theorem objAt_name {l : List Obj} (h : LibOk l) {k : Nat} (hk : k < l.length) : idxO l l[k].name = k := by
  refine idxO_at hk (fun j hj hlt e => ?_) rfl
  have := h.diff j k hj hk e; omega
theorem idx_get {R : List ByteArray} {s : ByteArray} {j : Nat} (h : idx R s = j) : ∃ h : j < R.length, R[j] = s := by
  unfold idx at h
  split at h
  · rename_i hlt
    have e : R.findIdx (fun x => decide (x = s)) = j := by omega
    subst e
    refine ⟨hlt, ?_⟩
    have := List.findIdx_getElem (w := hlt)
    simpa using this
  · omega
end Go.L16
/- Layer 16: the law LinkMemory. -/
namespace Go.L16
open Go Go.Eng Go.RowKit Go.Proofs
set_option maxRecDepth 100000

theorem _root_.Go.Eng.Own.mono {base b e sz : Nat} {w : World} {v : Value} {xs : List Value} (h : Own base e sz w v xs) (hb : b ≤ base) : Own b e sz w v xs := by
  rcases h with h | ⟨g, off, n, cap, cur, h1, h2, h3⟩
  · exact .inl h
  · exact .inr ⟨g, off, n, cap, cur, h1, by omega, h3⟩

/-- The slots of the law behind its two links. -/
structure L8 (v u : Value) (E : Int) (B2 B4 : Nat) (ρ : Env) : Prop where
  h0 : ρ 0 = v
  h1 : ρ 1 = u
  h5 : ρ 5 = .pointer (some ⟨B2, 0, none⟩)
  h6 : ρ 6 = .int .i64 E
  h7 : ρ 7 = .pointer (some ⟨B4, 0, none⟩)

theorem law8 {w : World} {v u : Value} {l : List Obj} {roots : List ByteArray} (hl : SlO w v l) (hr : SlS w u roots) :
    Calls Tryd.prog 8 #[v, u] w fun e w' => e = .returned (.bool true) ∧ Ext w w' := by
  refine ir8_calls fun ρ h0 h1 => ?_
  have tail : ∀ ρ2 : Env, ρ2 0 = v → ρ2 1 = u → ir8_k13.wp ⟨Tryd.prog, 99, ir8_V, []⟩ (retK [.tmp 4] fun e w' => e = .returned (.bool true) ∧ Ext w w') (ksOf [.tmp 4] fun e w' => e = .returned (.bool true) ∧ Ext w w') ρ2 w := by
    intro ρ2 h0 h1
    simp -implicitDefEqProofs [ir8_k13, h0, h1]
    refine (ref_Link hl hr).mono ?_
    rintro _ w1 ⟨qa, qb, qc, rfl, hq, _, hE1⟩
    simp -implicitDefEqProofs
    refine eff_var z26 (fun v => by simp) (by simp [Value.cells]) (by simp [Value.cells, isSl_one hq.names.1.is, isSl_one hq.starts.1.is, isSl_one hq.code.is]) sz26 fun B2 W2 hB2 hE2 hb2 _ => ?_
    simp [Value.cells] at hb2
    have x2 := hE1.trans' hE2
    have q2 := hq.ext hE2
    simp -implicitDefEqProofs [h0, h1]
    refine (lk_Link (hl.ext x2) (hr.ext x2)).mono ?_
    rintro _ w3 ⟨pa, pb, pc, rfl, hp, hE3, base, hbase, hown⟩
    replace hown := hown.mono hbase
    simp -implicitDefEqProofs
    refine eff_var z26 (fun v => by simp) (by simp [Value.cells]) (by simp [Value.cells, isSl_one hp.names.1.is, isSl_one hp.starts.1.is, isSl_one hp.code.is]) sz26 fun B4 W4 hB4 hE4 hb4 _ => ?_
    simp [Value.cells] at hb4
    have y4 := hE3.trans' hE4
    have x4 := x2.trans' y4
    have p4 := hp.ext hE4
    have q4 := q2.ext y4
    have hcases := linkI_cases l roots
    have hnl : (linkI l roots).names.length ≤ 60 ∧ (linkI l roots).code.length ≤ 1200000 ∧ checkImage (linkI l roots) = 0 := by
      rcases hcases with ⟨_, e⟩ | ⟨_, _, _, hf, e⟩
      · rw [e]; exact ⟨by decide, by decide, emptyI_ok⟩
      · rw [e]; have := imgOk_of (imgOf_ok hf); exact ⟨this.len, this.code, imgOf_ok hf⟩
    obtain ⟨hn60, hcl, hck⟩ := hnl
    simp -implicitDefEqProofs [ir8_k12]
    refine loopC 9 (linkI l roots).names.length (fun k ρ' W => Ext W4 W ∧ L8 v u (linkE l roots) B2 B4 ρ') (by simp) ⟨ext_refl _, by simp [h0], by simp [h1], by simp, by simp, by simp⟩ ?_
    rintro k ρ3 W hk h9 ⟨hEW, h0, h1, h5, h6, h7⟩
    have pW := p4.ext hEW
    by_cases hlt : k < (linkI l roots).names.length
    · have hpe : partE (linkI l roots) k = 0 := by simp [partE, hck]; omega
      simp -implicitDefEqProofs [ir8_l6, ir8_k5, h9, h7, (hb4.ext hEW).cell, pW.names.1.is, pW.names.1.len, hlt]
      refine (lk_Part (k : Int) (by omega) pW).mono ?_
      rintro _ w5 ⟨x, rfl, hx, hE5, bs, hbs, hox⟩
      have hbsx := hox.mono hbs
      have hxbd := hx.bd
      have hEW5 := hEW.size
      simp -implicitDefEqProofs [hpe]
      refine loopC 12 (partL (linkI l roots) k).length (fun q ρ4 W6 => Ext W4 W6 ∧ W.heap.size ≤ W6.heap.size ∧ L8 v u (linkE l roots) B2 B4 ρ4 ∧ ρ4 9 = .int .i64 k ∧ ρ4 10 = x ∧ ρ4 11 = .int .i64 0 ∧ ∃ xs, xs.length = (partL (linkI l roots) k).length ∧ OwnS W.heap.size W6 [⟨x, 5, 1, xs⟩]) (by simp)
        ⟨hEW.trans' hE5, hE5.size, ⟨by simp [h0], by simp [h1], by simp [h5], by simp [h6], by simp [h7]⟩, by simp [h9], by simp, by simp, _, by simp, hbsx, by simp, trivial⟩ ?_
      rintro q ρ4 W6 hq h12 ⟨hE6, hs6, ⟨h0, h1, h5, h6, h7⟩, h9, h10, h11, xs, hxs, hos⟩
      by_cases hqlt : q < (partL (linkI l roots) k).length
      · simp -implicitDefEqProofs [ir8_l2, ir8_k1, h12, h10, hx.is, hx.len, hqlt]
        refine eff_storeS (i := q) hs6 hos (by omega) (by simp) (by simp [Value.cells]) (by simp) sz5 fun W7 hB7 own7 => ?_
        simp -implicitDefEqProofs [ir8_k0, h12, i64w (n := (q : Int) + 1) (by omega)]
        exact ⟨ext_of_below hE6 (hB7.mono hEW5), Nat.le_trans hs6 hB7.size, ⟨by simp [h0], by simp [h1], by simp [h5], by simp [h6], by simp [h7]⟩, by simp [h9], by simp [h10], by simp [h11], _, by simpa using hxs, own7⟩
      · have hq' : q = (partL (linkI l roots) k).length := by omega
        subst hq'
        simp -implicitDefEqProofs [ir8_l2, h12, h10, hx.is, hx.len, ir8_k3, h11, ir8_k4, h9, i64w (n := (k : Int) + 1) (by omega)]
        exact ⟨hE6, by simp [h0], by simp [h1], by simp [h5], by simp [h6], by simp [h7]⟩
    · have hk' : k = (linkI l roots).names.length := by omega
      subst hk'
      have qW := q4.ext hEW
      have b2W := (hb2.ext y4).ext hEW
      have b4W := hb4.ext hEW
      simp -implicitDefEqProofs [ir8_l6, h9, h7, h5, b4W.cell, b2W.cell, pW.names.1.is, pW.names.1.len, ir8_k11]
      refine (ref_Same pW qW).mono ?_
      rintro _ w5 ⟨rfl, hE5⟩
      simp -implicitDefEqProofs
      have own5 := ((OwnS.consBox (l := [⟨pc, 5, 1, (linkI l roots).code.map encB⟩]) ⟨hown, by simp, trivial⟩ hE4 (cs := [pa, pb, pc]) (by simpa using hb4) hB4 hE3.size).ext hEW).ext hE5
      have yW := (y4.trans' hEW).trans' hE5
      refine loopC 14 (linkI l roots).code.length (fun q ρ4 W6 => Ext W2 W6 ∧ L8 v u (linkE l roots) B2 B4 ρ4 ∧ ρ4 13 = .bool true ∧ ∃ xs, xs.length = (linkI l roots).code.length ∧ OwnS W2.heap.size W6 [⟨.slice (some ⟨B4, 0, none⟩) 1 1, 26, 3, [pa, pb, pc]⟩, ⟨pc, 5, 1, xs⟩]) (by simp)
        ⟨yW, ⟨by simp [h0], by simp [h1], by simp [h5], by simp [h6], by simp [h7]⟩, by simp, _, by simp, own5⟩ ?_
      rintro q ρ4 W6 hq h14 ⟨hE6, ⟨h0, h1, h5, h6, h7⟩, h13, xs, hxs, hos⟩
      have hc6 := fun i hi => (show Own W2.heap.size 26 3 W6 (.slice (some ⟨B4, 0, none⟩) 1 1) [pa, pb, pc] from hos.mem ⟨_, 26, 3, _⟩ (by simp)).cellAt i hi
      have hc2 := hc6 2 (by simp)
      simp at hc2
      by_cases hqlt : q < (linkI l roots).code.length
      · simp -implicitDefEqProofs [ir8_l9, ir8_k8, h14, h7, hc2, hp.code.is, hp.code.len, hqlt]
        refine eff_storeS (i := q) hE6.size hos.swap (by omega) (by simp) (by simp [Value.cells]) (by simp) sz5 fun W7 hB7 own7 => ?_
        simp -implicitDefEqProofs [ir8_k7, h14, i64w (n := (q : Int) + 1) (by omega)]
        exact ⟨ext_of_below hE6 hB7, ⟨by simp [h0], by simp [h1], by simp [h5], by simp [h6], by simp [h7]⟩, by simp [h13], _, by simpa using hxs, own7.swap⟩
      · have hq' : q = (linkI l roots).code.length := by omega
        subst hq'
        have xW := x2.trans' hE6
        simp -implicitDefEqProofs [ir8_l9, h14, h7, hc2, hp.code.is, hp.code.len, ir8_k10, h0, h1]
        refine (lk_Link (hl.ext xW) (hr.ext xW)).mono ?_
        rintro _ w7 ⟨ra, rb, rc, rfl, hr7, hE7, _⟩
        simp -implicitDefEqProofs
        refine eff_var z26 (fun v => by simp) (by simp [Value.cells]) (by simp [Value.cells, isSl_one hr7.names.1.is, isSl_one hr7.starts.1.is, isSl_one hr7.code.is]) sz26 fun B8 W8 hB8 hE8 hb8 _ => ?_
        simp [Value.cells] at hb8
        have y8 := (hE6.trans' hE7).trans' hE8
        simp -implicitDefEqProofs
        refine law_linked.mono ?_
        rintro _ w9 ⟨rfl, hE9⟩
        have y9 := y8.trans' hE9
        simp -implicitDefEqProofs [h13, h6, h5, (hb8.ext hE9).cell, (hb2.ext y9).cell]
        refine (ref_Same ((hr7.ext hE8).ext hE9) (q2.ext y9)).mono ?_
        rintro _ w10 ⟨rfl, hE10⟩
        simp -implicitDefEqProofs
        exact (x2.trans' y9).trans' hE10
  simp -implicitDefEqProofs [ir8, h0, h1]
  refine (law_few hl).mono ?_
  rintro _ _ ⟨rfl, rfl⟩
  by_cases hf : few l = true
  · simp -implicitDefEqProofs [hf, h1]
    refine (law_short hr).mono ?_
    rintro _ _ ⟨rfl, rfl⟩
    by_cases hs : short roots = true
    · simp -implicitDefEqProofs [hs]
      exact tail _ (by simp [h0]) (by simp [h1])
    · have hs' : short roots = false := by simpa using hs
      simp -implicitDefEqProofs [hs']
      refine law_linked.mono ?_
      rintro _ w2 ⟨rfl, hE2⟩
      simp -implicitDefEqProofs
      exact hE2
  · have hf' : few l = false := by simpa using hf
    simp -implicitDefEqProofs [hf']
    refine law_linked.mono ?_
    rintro _ w2 ⟨rfl, hE2⟩
    simp -implicitDefEqProofs
    exact hE2
end Go.L16
/- Layer 16: the law LinkPlaces. -/
namespace Go.L16
open Go Go.Eng Go.RowKit Go.Proofs
set_option maxRecDepth 100000

/-- The slots of the law behind its link. -/
structure L6 (v u : Value) (B : Nat) (k : Nat) (ρ : Env) : Prop where
  h0 : ρ 0 = v
  h1 : ρ 1 = u
  h5 : ρ 5 = .pointer (some ⟨B, 0, none⟩)
  h7 : ρ 7 = .int .i64 k

theorem word_of (x : Nat) (h : x < 60) : (256 : Int) * ((UInt8.ofNat (x / 256)).toNat : Int) + ((UInt8.ofNat x).toNat : Int) = x := by
  have h1 : x / 256 = 0 := by omega
  rw [h1]
  simp
  omega

theorem law6 {w : World} {v u : Value} {l : List Obj} {roots : List ByteArray} (hl : SlO w v l) (hr : SlS w u roots) :
    Calls Tryd.prog 6 #[v, u] w fun e w' => e = .returned (.bool true) ∧ Ext w w' := by
  refine ir6_calls fun ρ h0 h1 => ?_
  have hbd := hl.bd
  have tail : ∀ ρ2 : Env, ρ2 0 = v → ρ2 1 = u → ir6_k16.wp ⟨Tryd.prog, 149, ir6_V, []⟩ (retK [.tmp 4] fun e w' => e = .returned (.bool true) ∧ Ext w w') (ksOf [.tmp 4] fun e w' => e = .returned (.bool true) ∧ Ext w w') ρ2 w := by
    intro ρ2 h0 h1
    -- the reference is not asked: what is reached is known from Reached
    simp -implicitDefEqProofs [ir6_k16, h0, h1]
    refine (lk_Link hl hr).mono ?_
    rintro _ w1 ⟨pa, pb, pc, rfl, hp, hE1, _⟩
    simp -implicitDefEqProofs
    refine eff_var z26 (fun v => by simp) (by simp [Value.cells]) (by simp [Value.cells, isSl_one hp.names.1.is, isSl_one hp.starts.1.is, isSl_one hp.code.is]) sz26 fun B W2 hB2 hE2 hb2 _ => ?_
    simp [Value.cells] at hb2
    have x2 := hE1.trans' hE2
    rcases linkI_cases l roots with ⟨he, _⟩ | ⟨he, ha, hm, hf, hi⟩
    · simp -implicitDefEqProofs [he]
      refine (qlinked x2).mono ?_
      rintro _ w3 ⟨rfl, hE3⟩
      simp -implicitDefEqProofs
      exact hE3
    rw [hi] at hp
    obtain ⟨R, hRe⟩ : ∃ R, R = reachedL l roots := ⟨_, rfl⟩
    rw [← hRe] at hf hp
    have hck := imgOf_ok hf
    have hlen := hf.len
    simp -implicitDefEqProofs [he, ir6_k15]
    refine loopC 7 l.length (fun k ρ' W => Ext W2 W ∧ L6 v u B k ρ') (by simp) ⟨ext_refl _, by simp [h0], by simp [h1], by simp, by simp⟩ ?_
    rintro k ρ3 W hk h7 ⟨hEW, h0, h1, h5, _⟩
    have xW := x2.trans' hEW
    have lW := hl.ext xW
    by_cases hlt : k < l.length
    · obtain ⟨n, c, r, c0, c1, c2, hob⟩ := lW.obj k hlt
      have hn := hob.name
      subst hn
      have hoc := hf.ok.ok _ (List.getElem_mem hlt)
      have hol := checkObj_len hoc
      have pW := (hp.ext hE2).ext hEW
      have bW := hb2.ext hEW
      simp -implicitDefEqProofs [-qwps, qwps_eff, qwps_asg, qwps_nil, ir6_l13, ir6_k12, h7, h5, h0, lW.is, lW.len, hlt, bW.cell, c0]
      refine qE_call (.tuple #[.int .i64 (numN (imgOf l R) l[k].name), .bool (numIs (imgOf l R) l[k].name), .int .i64 0]) cc15 (fun w' hw' => ?_) ?_
      · simp
        exact (lk_Number _ (pW.ext hw')).mono fun e w'' hh => ⟨by rw [hh.1, hck], hw'.trans' hh.2⟩
      simp -implicitDefEqProofs [-qwps, qwps_eff, qwps_asg, qwps_nil]
      intro W3 hE3
      have hEW3 := hEW.trans' hE3
      have lW3 := lW.ext hE3
      simp -implicitDefEqProofs [ir6_k10, ir6_k9]
      by_cases hin : l[k].name ∈ R
      · obtain ⟨j, hj, hij⟩ := idx_lt hin
        obtain ⟨_, hRj⟩ := idx_get hij
        have hat : objAt l R[j] = l[k] := by rw [hRj]; exact objAt_of hlt (objAt_name hf.ok hlt)
        obtain ⟨hpe, hpl⟩ := part_of hf hj
        rw [hat] at hpl
        have hnum : numN (imgOf l R) l[k].name = j := by simp [numN, hck]; simp [imgOf, hij]
        have hnis : numIs (imgOf l R) l[k].name = true := by simp [numIs, hck]; simp [imgOf, hij]
        have pW3 := pW.ext hE3
        have bW3 := bW.ext hE3
        simp -implicitDefEqProofs [hnis, hnum, ir6_k8, h5, bW3.cell]
        refine (lk_Part (j : Int) (by omega) pW3).mono ?_
        rintro _ W4 ⟨x, rfl, hx, hE4, bs, hbs, hox⟩
        have hbsx := hox.mono hbs
        rw [hpl] at hx hbsx
        have hxl : slLen x = l[k].code.length := by rw [hx.len, codeOf_len]
        have hE34 := hE3.trans' hE4
        have lW4 := lW3.ext hE4
        have hob4 := hob.ext hE34
        simp -implicitDefEqProofs [hpe, hx.is, hxl, h0, h7, lW4.is, lW4.len, hlt, hE34.cell c1, hob4.code.is, hob4.code.len, ir6_k7]
        have hszW := hE3.size
        refine loopC 13 l[k].relocs.length (fun q ρ4 W6 => Ext W3 W6 ∧ L6 v u B k ρ4 ∧ ρ4 11 = x ∧ OwnS W3.heap.size W6 [⟨x, 5, 1, (codeZ R l[k] q).map encB⟩]) (by simp)
          ⟨hE4, ⟨by simp [h0], by simp [h1], by simp [h5], by simp [h7]⟩, by simp, by rw [codeZ_zero]; exact ⟨hbsx, by simp, trivial⟩⟩ ?_
        rintro q ρ4 W6 hq h13 ⟨hE6, ⟨h0, h1, h5, h7⟩, h11, hos⟩
        have z6 := hE3.trans' hE6
        have lW6 := lW3.ext hE6
        have hob6 := hob.ext z6
        have hzl : (codeZ R l[k] q).length = l[k].code.length := codeZ_len R _ _
        have hxs := hos.head.sl (enc := encB) (xs := codeZ R l[k] q) (by rw [hzl]; omega)
        by_cases hqlt : q < l[k].relocs.length
        · obtain ⟨hp0, hp1, _⟩ := rel_ok hoc hqlt
          have hcl : l[k].relocs[q].name ∈ R := by
            have h2 := hf.closed _ hin l[k].relocs[q]
            rw [← hRj, hat] at h2
            exact h2 (List.getElem_mem hqlt)
          obtain ⟨m, hm, him⟩ := idx_lt hcl
          obtain ⟨p0, hpe0⟩ : ∃ p0 : Nat, l[k].relocs[q].pos = p0 := ⟨l[k].relocs[q].pos.toNat, by omega⟩
          have pW6 := pW3.ext hE6
          have bW6 := bW3.ext hE6
          have hnum2 : numN (imgOf l R) l[k].relocs[q].name = m := by simp [numN, hck]; simp [imgOf, him]
          have hnis2 : numIs (imgOf l R) l[k].relocs[q].name = true := by simp [numIs, hck]; simp [imgOf, him]
          rw [hpe0] at hp1
          simp at hp1
          simp -implicitDefEqProofs [-qwps, qwps_eff, qwps_asg, qwps_nil, ir6_l5, ir6_k4, h13, h0, h7, lW6.is, lW6.len, hlt, z6.cell c2, hob6.rels.is, hob6.rels.len, hqlt, hob6.rels.pos q hqlt, hob6.rels.name q hqlt, hpe0, h5, bW6.cell]
          refine qE_call (.tuple #[.int .i64 (numN (imgOf l R) l[k].relocs[q].name), .bool (numIs (imgOf l R) l[k].relocs[q].name), .int .i64 0]) cc15 (fun w' hw' => ?_) ?_
          · simp
            exact (lk_Number _ (pW6.ext hw')).mono fun e w'' hh => ⟨by rw [hh.1, hck], hw'.trans' hh.2⟩
          simp -implicitDefEqProofs [-qwps, qwps_eff, qwps_asg, qwps_nil]
          intro W7 hE7
          have x7 := hxs.ext hE7
          have hz7 := hos.ext hE7
          have e0 := x7.cell p0 (by omega)
          have e1 := x7.cell (p0 + 1) (by omega)
          have hstep := codeZ_step (R := R) hoc hqlt
          have g1 : (codeZ R l[k] q)[p0]'(by omega) = UInt8.ofNat (m / 256) := by
            simp only [hstep, put2, hpe0, him]
            simp
          have g2 : (codeZ R l[k] q)[p0 + 1]'(by omega) = UInt8.ofNat m := by
            simp only [hstep, put2, hpe0, him]
            simp
          rw [g1] at e0
          rw [g2] at e1
          simp only [encB] at e0 e1
          have hword := word_of m (by omega)
          have hb0 : (UInt8.ofNat (m / 256)).toNat < 256 := UInt8.toNat_lt _
          have hb1 : (UInt8.ofNat m).toNat < 256 := UInt8.toNat_lt _
          simp -implicitDefEqProofs [ir6_k2, h11, x7.is, x7.len, hzl, hp1, show p0 < l[k].code.length by omega, e0, e1, hnum2, hnis2, i64w (n := (p0 : Int) + 1) (by omega)]
          intro W8 hE8
          simp -implicitDefEqProofs [ir6_k1]
          have hwd : IntKind.i64.wrap (IntKind.i64.wrap (256 * IntKind.i64.wrap ((m : Int) / 256 % 256)) + IntKind.i64.wrap ((m : Int) % 256)) = m := by
            rw [i64w (n := (m : Int) / 256 % 256) (by omega), i64w (n := (m : Int) % 256) (by omega), i64w (n := 256 * ((m : Int) / 256 % 256)) (by omega), i64w (by omega)]
            omega
          refine ⟨hwd, ?_⟩
          have x8 := x7.ext hE8
          have hos8 := hz7.ext hE8
          have hE38 : Ext W3 W8 := (hE6.trans' hE7).trans' hE8
          simp -implicitDefEqProofs [ir6_k0, h11, x7.is, x7.len, hzl, hp1, show p0 < l[k].code.length by omega, i64w (n := (p0 : Int) + 1) (by omega)]
          refine eff_storeS (i := p0) hE38.size hos8 (by simp [hzl]; omega) (by simp) (by simp [Value.cells]) (by simp) sz5 fun W9 hB9 own9 => ?_
          simp -implicitDefEqProofs [h11, x7.is, x7.len, hzl, hp1, i64w (n := (p0 : Int) + 1) (by omega)]
          refine eff_storeS (i := p0 + 1) (Nat.le_trans hE38.size hB9.size) own9 (by simp [hzl]; omega) (by simp) (by simp [Value.cells]) (by simp) sz5 fun W10 hB10 own10 => ?_
          have hE310 := ext_of_below (ext_of_below hE38 hB9) hB10
          simp -implicitDefEqProofs [ir6_k3, h13, i64w (n := (q : Int) + 1) (by omega)]
          refine ⟨hE310, ⟨by simp [h0], by simp [h1], by simp [h5], by simp [h7]⟩, by simp [h11], ?_⟩
          have hz0 : Value.int .u8 0 = encB 0 := rfl
          rw [← codeZ_next hoc hqlt, hpe0]
          simpa [hz0] using own10
        · have hq' : q = l[k].relocs.length := by omega
          subst hq'
          rw [codeZ_end] at hxs
          simp -implicitDefEqProofs [ir6_l5, h13, h0, h7, lW6.is, lW6.len, hlt, z6.cell c2, hob6.rels.is, hob6.rels.len, ir6_k6, z6.cell c1, h11]
          refine (ref_SameBytes hxs hob6.code).mono ?_
          rintro _ _ ⟨rfl, rfl⟩
          simp -implicitDefEqProofs [ir6_k11, h7, i64w (n := (k : Int) + 1) (by omega)]
          exact ⟨hEW3.trans' hE6, by simp [h0], by simp [h1], by simp [h5], by simp⟩
      · have hnis : numIs (imgOf l R) l[k].name = false := by
          have : ¬ 0 ≤ idx R l[k].name := fun h => hin (idx_nonneg.1 h)
          simp [numIs, hck]; simp [imgOf]; omega
        simp -implicitDefEqProofs [hnis, ir6_k11, h7, i64w (n := (k : Int) + 1) (by omega)]
        exact ⟨hEW3, by simp [h0], by simp [h1], by simp [h5], by simp⟩
    · have hk' : k = l.length := by omega
      subst hk'
      simp -implicitDefEqProofs [ir6_l13, h7, h0, lW.is, lW.len, ir6_k14]
      refine (qlinked xW).mono ?_
      rintro _ w3 ⟨rfl, hE3⟩
      simp -implicitDefEqProofs
      exact hE3
  simp -implicitDefEqProofs [ir6, h0, h1]
  refine (law_few hl).mono ?_
  rintro _ _ ⟨rfl, rfl⟩
  by_cases hf : few l = true
  · simp -implicitDefEqProofs [hf, h1]
    refine (law_short hr).mono ?_
    rintro _ _ ⟨rfl, rfl⟩
    by_cases hs : short roots = true
    · simp -implicitDefEqProofs [hs]
      exact tail _ (by simp [h0]) (by simp [h1])
    · have hs' : short roots = false := by simpa using hs
      simp -implicitDefEqProofs [hs']
      refine law_linked.mono ?_
      rintro _ w2 ⟨rfl, hE2⟩
      simp -implicitDefEqProofs
      exact hE2
  · have hf' : few l = false := by simpa using hf
    simp -implicitDefEqProofs [hf']
    refine law_linked.mono ?_
    rintro _ w2 ⟨rfl, hE2⟩
    simp -implicitDefEqProofs
    exact hE2
end Go.L16
/- Layer 16, plainly: the same link out of other lists. -/
namespace Go.L16
open Go Go.Eng Go.RowKit Go.Proofs
set_option maxRecDepth 100000

theorem checkAll_of {l : List Obj} (h : LibOk l) : checkAll l = (0, 0) := by
  have h60 := h.len
  refine checkAll_ok (by omega) fun j hj => ?_
  unfold badO
  have e : l.getD j emptyO = l[j] := by simp [hj]
  rw [e, if_neg (by rw [h.ok _ (List.getElem_mem hj)]; simp), if_neg]
  rw [List.any_eq_true]
  rintro ⟨i, hi, hn⟩
  simp only [List.mem_range, decide_eq_true_eq] at hi hn
  have e2 : l.getD i emptyO = l[i] := by simp [show i < l.length by omega]
  rw [e2] at hn
  have := h.diff i j (by omega) hj hn
  omega
theorem asked_of {l : List Obj} {roots : List ByteArray} (h : LibOk l) (hr : roots.length ≤ 60) : askedE l roots = 0 := by
  unfold askedE
  rw [checkAll_of h, if_neg (by omega)]

/-- An object that is found, by its name. -/
theorem found_of {l : List Obj} (h : LibOk l) {o : Obj} (ho : o ∈ l) : 0 ≤ idxO l o.name ∧ objAt l o.name = o ∧ needsAt l o.name = needsOf o := by
  obtain ⟨k, hk, rfl⟩ := List.getElem_of_mem ho
  have hi := objAt_name h hk
  refine ⟨by omega, objAt_of hk hi, ?_⟩
  unfold needsAt
  have : l.getD k emptyO = l[k] := by simp [hk]
  rw [hi, if_pos (by omega), Int.toNat_natCast, this, needsR, if_pos (h.ok _ ho)]
theorem in_of_found {l : List Obj} {s : ByteArray} (h : 0 ≤ idxO l s) : ∃ o ∈ l, o.name = s := by
  rcases idxO_cases l s with h1 | ⟨k, hk, _, hn⟩
  · omega
  · exact ⟨l[k], List.getElem_mem hk, hn⟩
theorem found_iff {l : List Obj} {s : ByteArray} : 0 ≤ idxO l s ↔ ∃ o ∈ l, o.name = s := by
  refine ⟨in_of_found, ?_⟩
  rintro ⟨o, ho, rfl⟩
  rcases idxO_cases l o.name with h1 | ⟨k, hk, h1, _⟩
  · obtain ⟨i, hi, rfl⟩ := List.getElem_of_mem ho
    exact absurd rfl (idxO_none h1 i hi)
  · omega

theorem missing_nil {l : List Obj} {roots : List ByteArray} : missingL l roots = [] ↔ ∀ s, Reach l roots s → ∃ o ∈ l, o.name = s := by
  have hR := reached_is l roots
  unfold missingL
  rw [List.filter_eq_nil_iff]
  constructor
  · intro h s hs
    have := h s ((hR.2 s).2 hs)
    exact found_iff.1 (by simpa using this)
  · intro h s hs
    have := found_iff.2 (h s ((hR.2 s).1 hs))
    simpa using this

/-- What a link that goes well says. -/
theorem link_ok {l : List Obj} {roots : List ByteArray} (h : linkE l roots = 0) : LibOk l ∧ roots.length ≤ 60 ∧ (∀ s, Reach l roots s → ∃ o ∈ l, o.name = s) ∧ Full l (reachedL l roots) ∧ linkI l roots = imgOf l (reachedL l roots) := by
  rcases linkI_cases l roots with ⟨he, _⟩ | ⟨_, ha, hm, hf, hi⟩
  · exact absurd h he
  · exact ⟨(asked_ok ha).1, (asked_ok ha).2, missing_nil.1 hm, hf, hi⟩
theorem link_of {l : List Obj} {roots : List ByteArray} (h : LibOk l) (hr : roots.length ≤ 60) (hm : ∀ s, Reach l roots s → ∃ o ∈ l, o.name = s) : linkE l roots = 0 := by
  unfold linkE
  rw [if_pos (asked_of h hr), if_pos (missing_nil.2 hm)]

/-- A link is the same out of another list that holds the objects that are reached. -/
theorem reach_same {l l' : List Obj} {roots roots' : List ByteArray} (h : linkE l roots = 0) (hl' : LibOk l') (hm : ∀ s, s ∈ roots' ↔ s ∈ roots) (ho : ∀ o ∈ l, Reach l roots o.name → o ∈ l') :
    ∀ s, Reach l' roots' s ↔ Reach l roots s := by
  obtain ⟨hl, _, hfd, _, _⟩ := link_ok h
  have needs : ∀ s, Reach l roots s → needsAt l' s = needsAt l s := by
    intro s hs
    obtain ⟨o, hol, rfl⟩ := hfd s hs
    rw [(found_of hl hol).2.2, (found_of hl' (ho o hol hs)).2.2]
  intro s
  constructor
  · intro hs
    induction hs with
    | root h => exact .root ((hm _).1 h)
    | step _ hn ih => exact .step ih (by rw [← needs _ ih]; exact hn)
  · intro hs
    induction hs with
    | root h => exact .root ((hm _).2 h)
    | step hs hn ih => exact .step ih (by rw [needs _ hs]; exact hn)
theorem link_same {l l' : List Obj} {roots roots' : List ByteArray} (h : linkE l roots = 0) (hl' : LibOk l') (hr' : roots'.length ≤ 60) (hm : ∀ s, s ∈ roots' ↔ s ∈ roots) (ho : ∀ o ∈ l, Reach l roots o.name → o ∈ l') :
    linkE l' roots' = 0 ∧ linkI l' roots' = linkI l roots ∧ reachedL l' roots' = reachedL l roots := by
  obtain ⟨hl, _, hfd, hf, hi⟩ := link_ok h
  have hre := reach_same h hl' hm ho
  have hRR : reachedL l' roots' = reachedL l roots := reachedL_eq ⟨(reached_is l roots).1, fun s => ((reached_is l roots).2 s).trans (hre s).symm⟩
  have hE : linkE l' roots' = 0 := link_of hl' hr' fun s hs => by
    obtain ⟨o, hol, rfl⟩ := hfd s ((hre s).1 hs)
    exact ⟨o, ho o hol ((hre _).1 hs), rfl⟩
  refine ⟨hE, ?_, hRR⟩
  obtain ⟨_, _, _, _, hi'⟩ := link_ok hE
  rw [hi, hi', hRR]
  have hcodes : codesOf l' (reachedL l roots) = codesOf l (reachedL l roots) := by
    unfold codesOf
    refine List.map_congr_left fun s hs => ?_
    have hs' := ((reached_is l roots).2 s).1 hs
    obtain ⟨o, hol, rfl⟩ := hfd s hs'
    rw [(found_of hl hol).2.1, (found_of hl' (ho o hol hs')).2.1]
  simp only [imgOf, startsOf, hcodes]

/-! ### Lists with the same objects, or some of them -/
theorem names_nodup {l : List Obj} (h : LibOk l) : (l.map (·.name)).Nodup := by
  unfold List.Nodup
  rw [List.pairwise_iff_getElem]
  intro i j hi hj hij
  simp only [List.length_map] at hi hj
  simp only [List.getElem_map]
  intro e
  have := h.diff i j hi hj e
  omega
theorem nodup_names {l : List Obj} (h : (l.map (·.name)).Nodup) (i j : Nat) (hi : i < l.length) (hj : j < l.length) (he : l[i].name = l[j].name) : i = j := by
  unfold List.Nodup at h
  rw [List.pairwise_iff_getElem] at h
  rcases Nat.lt_trichotomy i j with hij | hij | hij
  · exact absurd (by rw [List.getElem_map, List.getElem_map]; exact he) (h i j (by simpa using hi) (by simpa using hj) hij)
  · exact hij
  · exact absurd (by rw [List.getElem_map, List.getElem_map]; exact he.symm) (h j i (by simpa using hj) (by simpa using hi) hij)
theorem libOk_perm {l l' : List Obj} (h : LibOk l) (hp : l'.Perm l) : LibOk l' :=
  ⟨by rw [hp.length_eq]; exact h.len, fun o ho => h.ok o (hp.mem_iff.1 ho), nodup_names ((hp.map _).nodup_iff.2 (names_nodup h))⟩
theorem libOk_sub {l l' : List Obj} (h : LibOk l) (hp : l'.Sublist l) : LibOk l' :=
  ⟨Nat.le_trans hp.length_le h.len, fun o ho => h.ok o (hp.subset ho), nodup_names ((names_nodup h).sublist (hp.map _))⟩

/-! ### What LinkLeast wants -/
theorem without_same {l : List Obj} {roots : List ByteArray} (h : linkE l roots = 0) : LibOk (withoutL l roots) ∧ linkE (withoutL l roots) roots = 0 ∧ linkI (withoutL l roots) roots = linkI l roots ∧ reachedL (withoutL l roots) roots = reachedL l roots := by
  obtain ⟨hl, hr, hfd, hf, hi⟩ := link_ok h
  have hw : withoutL l roots = l.filter (fun o => decide (0 ≤ idx (reachedL l roots) o.name)) := by simp [withoutL, h]
  have hlw : LibOk (withoutL l roots) := by rw [hw]; exact libOk_sub hl List.filter_sublist
  have := link_same (l' := withoutL l roots) h hlw hr (fun s => Iff.rfl) fun o ho hs => by
    rw [hw, List.mem_filter]
    exact ⟨ho, by simpa using idx_nonneg.2 (((reached_is l roots).2 _).2 hs)⟩
  exact ⟨hlw, this.1, this.2.1, this.2.2⟩
/-- What is reached from what is reached. -/
theorem reached_again {l : List Obj} {roots : List ByteArray} : reachedL l (reachedL l roots) = reachedL l roots := by
  have hR := reached_is l roots
  refine reachedL_eq ⟨hR.1, fun s => ?_⟩
  constructor
  · intro hs; exact .root hs
  · intro hs
    induction hs with
    | root h => exact h
    | step _ hn ih => exact (hR.2 _).2 (.step ((hR.2 _).1 ih) hn)
/-- Without one of the objects that are needed, it is missing, and nothing else. -/
theorem missing_one {l : List Obj} {roots : List ByteArray} (h : linkE l roots = 0) (hall : ∀ o ∈ l, Reach l roots o.name) {k : Nat} (hk : k < l.length) :
    LibOk (l.take k ++ l.drop (k + 1)) ∧ missingL (l.take k ++ l.drop (k + 1)) roots = [l[k].name] := by
  obtain ⟨hl, hr, hfd, hf, hi⟩ := link_ok h
  have hsub : (l.take k ++ l.drop (k + 1)).Sublist l := by
    conv => rhs; rw [← List.take_append_drop k l]
    exact (List.Sublist.refl _).append (by rw [List.drop_eq_getElem_cons hk]; exact List.sublist_cons_self _ _)
  have hcut := libOk_sub hl hsub
  generalize hc : l.take k ++ l.drop (k + 1) = cut at hcut hsub
  have hin : ∀ o ∈ l, o.name ≠ l[k].name → o ∈ cut := by
    intro o ho hne
    obtain ⟨j, hj, rfl⟩ := List.getElem_of_mem ho
    rw [← hc, List.mem_append]
    rcases Nat.lt_trichotomy j k with hlt | rfl | hgt
    · exact .inl (List.mem_take_iff_getElem.2 ⟨j, by omega, rfl⟩)
    · exact absurd rfl hne
    · exact .inr (List.mem_drop_iff_getElem.2 ⟨j - (k + 1), by omega, by congr 1; omega⟩)
  have hno : ∀ o ∈ cut, o.name ≠ l[k].name := by
    intro o ho he
    rw [← hc, List.mem_append] at ho
    rcases ho with ho | ho
    · obtain ⟨j, hj, rfl⟩ := List.mem_take_iff_getElem.1 ho
      have := hl.diff j k (by omega) hk he; omega
    · obtain ⟨j, hj, rfl⟩ := List.mem_drop_iff_getElem.1 ho
      have := hl.diff (k + 1 + j) k (by omega) hk he; omega
  have needs : ∀ s, s ≠ l[k].name → Reach l roots s → needsAt cut s = needsAt l s := by
    intro s hne hs
    obtain ⟨o, hol, rfl⟩ := hfd s hs
    rw [(found_of hl hol).2.2, (found_of hcut (hin o hol hne)).2.2]
  have nosk : needsAt cut l[k].name = [] := by
    unfold needsAt
    rw [if_neg]
    intro h0
    obtain ⟨o, ho, he⟩ := found_iff.1 h0
    exact hno o ho he
  have down : ∀ s, Reach cut roots s → Reach l roots s := by
    intro s hs
    induction hs with
    | root h => exact .root h
    | @step t n _ hn ih =>
      by_cases ht : t = l[k].name
      · rw [ht, nosk] at hn; cases hn
      · exact .step ih (by rw [← needs t ht ih]; exact hn)
  have up : ∀ s, Reach l roots s → Reach cut roots s ∨ Reach cut roots l[k].name := by
    intro s hs
    induction hs with
    | root h => exact .inl (.root h)
    | @step t n ht hn ih =>
      rcases ih with ih | ih
      · by_cases he : t = l[k].name
        · exact .inr (by rw [← he]; exact ih)
        · exact .inl (.step ih (by rw [needs t he ht]; exact hn))
      · exact .inr ih
  have hsk : Reach cut roots l[k].name := by
    rcases up _ (hall _ (List.getElem_mem hk)) with h | h <;> exact h
  refine ⟨hcut, ?_⟩
  have hR := reached_is cut roots
  show (reachedL cut roots).filter _ = _
  refine Asc.ext (asc_filter hR.1 _) (List.pairwise_singleton _ _) fun s => ?_
  simp only [List.mem_filter, decide_eq_true_eq, List.mem_singleton]
  constructor
  · rintro ⟨hs, hlt⟩
    by_cases he : s = l[k].name
    · exact he
    · obtain ⟨o, ho, rfl⟩ := hfd s (down s ((hR.2 s).1 hs))
      have := found_iff.2 ⟨o, hin o ho he, rfl⟩
      omega
  · rintro rfl
    refine ⟨(hR.2 _).2 hsk, ?_⟩
    rcases Int.lt_or_le (idxO cut l[k].name) 0 with h0 | h0
    · exact h0
    · obtain ⟨o, ho, he⟩ := found_iff.1 h0
      exact absurd he (hno o ho)
end Go.L16
/- Layer 16: the law LinkLeast. -/
namespace Go.L16
open Go Go.Eng Go.RowKit Go.Proofs
set_option maxRecDepth 100000

/-! ### Rows of objects -/
theorem SlO.rows {w : World} {v : Value} {os : List Obj} (h : SlO w v os) : ∃ rows : List (Value × Value × Value), rows.length = os.length ∧ Cells w v 3 (rowsV rows) ∧
    ∀ i (h1 : i < rows.length) (h2 : i < os.length), ObjC w rows[i].1 rows[i].2.1 rows[i].2.2 os[i] := by
  have hall : ∀ i, ∃ t : Value × Value × Value, ∀ h : i < os.length, w.cell? (slAddr v (i * 3)) = some t.1 ∧ w.cell? (slAddr v (i * 3 + 1)) = some t.2.1 ∧ w.cell? (slAddr v (i * 3 + 2)) = some t.2.2 ∧ ObjC w t.1 t.2.1 t.2.2 os[i] := by
    intro i
    by_cases hi : i < os.length
    · obtain ⟨n, c, r, h1, h2, h3, h4⟩ := h.obj i hi
      exact ⟨(n, c, r), fun _ => ⟨h1, h2, h3, h4⟩⟩
    · exact ⟨default, fun h => absurd h hi⟩
  obtain ⟨f, hf⟩ := Classical.axiomOfChoice hall
  refine ⟨(List.range os.length).map f, by simp, ⟨h.is, by rw [rowsV_len]; simp [h.len], fun j hj => ?_⟩, fun i h1 h2 => by simpa using (hf i h2).2.2.2⟩
  rw [rowsV_len] at hj
  simp only [List.length_map, List.length_range] at hj
  have hi : j / 3 < os.length := by omega
  obtain ⟨e0, e1, e2⟩ := rowsV_get ((List.range os.length).map f) (j / 3) (by simpa using hi)
  obtain ⟨g0, g1, g2, _⟩ := hf (j / 3) hi
  simp only [List.getElem_map, List.getElem_range] at e0 e1 e2
  have key : ∀ x, (rowsV ((List.range os.length).map f))[j]? = some x → w.cell? (slAddr v j) = some x → w.cell? (slAddr v j) = some ((rowsV ((List.range os.length).map f))[j]'(by rw [rowsV_len]; simpa using hj)) := by
    intro x hx hc
    obtain ⟨hj2, e⟩ := List.getElem?_eq_some_iff.1 hx
    rw [hc, e]
  rcases (show j = j / 3 * 3 ∨ j = j / 3 * 3 + 1 ∨ j = j / 3 * 3 + 2 by omega) with hq | hq | hq
  · exact key _ (by rw [← e0, ← hq]) (by rw [← g0, ← hq])
  · exact key _ (by rw [← e1, ← hq]) (by rw [← g1, ← hq])
  · exact key _ (by rw [← e2, ← hq]) (by rw [← g2, ← hq])

theorem SlO.sub {w : World} {v : Value} {os : List Obj} (h : SlO w v os) {l r m : Nat} (h1 : l ≤ r) (h2 : r ≤ os.length) (h3 : r ≤ m) (h4 : m ≤ slCap v) : SlO w (slSub v 3 l r m) ((os.take r).drop l) := by
  have hl : ((os.take r).drop l).length = r - l := by simp; omega
  refine ⟨isSl_sub h.is 3 l r m h1 h3 h4, by rw [slLen_sub _ _ _ _ h.is, hl], by have := h.bd; omega, fun i hi => ?_⟩
  rw [hl] at hi
  obtain ⟨n, c, q, c0, c1, c2, ho⟩ := h.obj (l + i) (by omega)
  refine ⟨n, c, q, ?_, ?_, ?_, by simpa using ho⟩
  · rw [slAddr_sub 3 l r m _ h.is (by omega) (by omega), ← c0]; congr 2; omega
  · rw [slAddr_sub 3 l r m _ h.is (by omega) (by omega), ← c1]; congr 2; omega
  · rw [slAddr_sub 3 l r m _ h.is (by omega) (by omega), ← c2]; congr 2; omega

theorem one_rows {w : World} {rows : List (Value × Value × Value)} {os : List Obj} (hl : rows.length = os.length) (h : ∀ i (h1 : i < rows.length) (h2 : i < os.length), ObjC w rows[i].1 rows[i].2.1 rows[i].2.2 os[i]) : ∀ u ∈ rowsV rows, u.oneCell' = true := by
  intro u hu
  obtain ⟨t, ht, hu⟩ := List.mem_flatMap.1 hu
  obtain ⟨i, hi, rfl⟩ := List.getElem_of_mem ht
  have ho := h i hi (by omega)
  simp only [List.mem_cons, List.not_mem_nil, or_false] at hu
  rcases hu with rfl | rfl | rfl
  · rw [ho.name]; rfl
  · exact isSl_one' ho.code.is
  · exact isSl_one' ho.rels.is
theorem rowsV_app (a b : List (Value × Value × Value)) : rowsV (a ++ b) = rowsV a ++ rowsV b := by simp [rowsV]

/-- The remainder of a number, taken as one without a sign, by a length. -/
theorem rem_k (n : Int) (m : Nat) (hm : 0 < m) (hb : m < 4611686018427387904) : ∃ k : Nat, k < m ∧ IntKind.i64.wrap (IntKind.u64.wrap ((IntKind.u64.wrap n).tmod (IntKind.u64.wrap (m : Int)))) = k ∧ IntKind.u64.wrap (m : Int) = m ∧ (IntKind.u64.wrap n).tmod (IntKind.u64.wrap (m : Int)) = k := by
  have h1 : IntKind.u64.wrap (m : Int) = m := by simp [IntKind.wrap, IntKind.signed, IntKind.bits]; omega
  have h2 : 0 ≤ IntKind.u64.wrap n := by simp [IntKind.wrap, IntKind.signed, IntKind.bits]; omega
  have h3 : (IntKind.u64.wrap n).tmod (m : Int) = ((IntKind.u64.wrap n).toNat % m : Nat) := by
    rw [Int.tmod_eq_emod_of_nonneg h2]
    conv => lhs; rw [← Int.toNat_of_nonneg h2]
    exact (Int.natCast_emod _ _).symm
  have h4 := Nat.mod_lt (IntKind.u64.wrap n).toNat hm
  refine ⟨(IntKind.u64.wrap n).toNat % m, h4, ?_, h1, by rw [h1, h3]⟩
  rw [h1, h3]
  have h5 : IntKind.u64.wrap (((IntKind.u64.wrap n).toNat % m : Nat) : Int) = (((IntKind.u64.wrap n).toNat % m : Nat) : Int) := by
    have : ∀ k : Nat, k < 4611686018427387904 → IntKind.u64.wrap (k : Int) = k := fun k hk => by simp [IntKind.wrap, IntKind.signed, IntKind.bits]; omega
    exact this _ (by omega)
  rw [h5, i64w (by omega)]

theorem joined {w W : World} {v : Value} {base k : Nat} {os : List Obj} {rA rB : List (Value × Value × Value)} (hk : k < os.length) (hos : os.length < 1000) (hE : Ext w W) (lA : rA.length = k) (lB : rB.length = os.length - (k + 1))
    (oA : ∀ i (h1 : i < rA.length) (h2 : i < ((os.take k).drop 0).length), ObjC w rA[i].1 rA[i].2.1 rA[i].2.2 ((os.take k).drop 0)[i])
    (oB : ∀ i (h1 : i < rB.length) (h2 : i < ((os.take os.length).drop (k + 1)).length), ObjC w rB[i].1 rB[i].2.1 rB[i].2.2 ((os.take os.length).drop (k + 1))[i])
    (own : Own base 45 3 W v (rowsV (rA ++ rB))) : SlO W v (os.take k ++ os.drop (k + 1)) := by
  refine SlO.ofOwn own (by simp [lA, lB]; omega) (by simp; omega) fun i h1 h2 => ?_
  by_cases hik : i < k
  · have := (oA i (by omega) (by simp; omega)).ext hE
    rw [List.getElem_append_left (by omega), List.getElem_append_left (by simp; omega)]
    simpa using this
  · have := (oB (i - k) (by simp at h1; omega) (by simp at h2 ⊢; omega)).ext hE
    rw [List.getElem_append_right (by omega), List.getElem_append_right (by simp; omega)]
    have e1 : i - rA.length = i - k := by omega
    have e2 : i - (os.take k).length = i - k := by simp; omega
    simp only [e1, e2]
    simpa using this

/-- The slots of the law behind its first calls. -/
structure L10 (v u y all : Value) (n : Int) (ρ : Env) : Prop where
  h0 : ρ 0 = v
  h1 : ρ 1 = u
  h2 : ρ 2 = .int .i64 n
  h9 : ρ 9 = y
  h11 : ρ 11 = all

theorem law10_k9 {w0 w W7 : World} {u y v7 : Value} {os : List Obj} {roots : List ByteArray} {k : Nat} {ρ : Env} (hE0 : Ext w0 w) (hE47 : Ext w W7) (h23 : ρ 23 = v7) (h1 : ρ 1 = u) (h9 : ρ 9 = y) (h22 : ρ 22 = .int .i64 k)
    (hcut : SlO W7 v7 (os.take k ++ os.drop (k + 1))) (hr : SlS w u roots) (hy : SlO w y os) (hew : linkE os roots = 0) (hall : ∀ o ∈ os, Reach os roots o.name) (hk : k < os.length) :
    ir10_k9.wp ⟨Tryd.prog, 186, ir10_V, []⟩ (retK [.tmp 6] fun e w' => e = .returned (.bool true) ∧ Ext w0 w') (ksOf [.tmp 6] fun e w' => e = .returned (.bool true) ∧ Ext w0 w') ρ W7 := by
  obtain ⟨hcl, hmiss⟩ := missing_one hew hall hk
  have hr60 := (link_ok hew).2.1
  have hask := asked_of hcl hr60
  simp -implicitDefEqProofs [ir10_k9, h1, h23]
  refine (lk_Missing hcut (hr.ext hE47)).mono ?_
  rintro _ W8 ⟨x, rfl, hx, hE8⟩
  rw [hask]
  simp only [missingA, hask, if_true, hmiss] at hx
  have hE48 := hE47.trans' hE8
  have hc := hx.1.cell 0 (by simp)
  simp at hc
  obtain ⟨nn, cc, rr, c0, _, _, ho⟩ := hy.obj k hk
  have hn := ho.name
  subst hn
  simp -implicitDefEqProofs [-qwps, qwps_eff, qwps_asg, qwps_nil]
  refine qE_call (.bool true) cc14 (fun w' hw' => ?_) ?_
  · simp
    exact (qlinked hw').mono fun e w'' h => ⟨h.1, h.2⟩
  simp -implicitDefEqProofs [-qwps, qwps_eff, qwps_asg, qwps_nil, h9, h22, hx.1.is, hx.1.len, hc, hy.is, hy.len, hk, hE48.cell c0, hy.ext hE48]
  intro w9 hE9
  simp -implicitDefEqProofs [ir10_k8]
  exact (hE0.trans' hE48).trans' hE9

/-- The end of the law: one of the objects is cut out. -/
theorem law10_end {w0 w : World} {v u y all : Value} {n : Int} {l : List Obj} {roots : List ByteArray} {ρ : Env} (hE0 : Ext w0 w) (hf : L10 v u y all n ρ) (hr : SlS w u roots) (hy : SlO w y (withoutL l roots)) (he : linkE l roots = 0) :
    ir10_k11.wp ⟨Tryd.prog, 186, ir10_V, []⟩ (retK [.tmp 6] fun e w' => e = .returned (.bool true) ∧ Ext w0 w') (ksOf [.tmp 6] fun e w' => e = .returned (.bool true) ∧ Ext w0 w') ρ w := by
  obtain ⟨hlw, hew, _, hrw⟩ := without_same he
  have hall : ∀ o ∈ withoutL l roots, Reach (withoutL l roots) roots o.name := by
    intro o ho
    rw [← (reached_is (withoutL l roots) roots).2, hrw]
    simp only [withoutL, he, if_true, List.mem_filter, decide_eq_true_eq] at ho
    exact idx_nonneg.1 ho.2
  obtain ⟨os, hos⟩ : ∃ os, os = withoutL l roots := ⟨_, rfl⟩
  rw [← hos] at hy hlw hew hall
  obtain ⟨h0, h1, h2, h9, h11⟩ := hf
  have hlen := hlw.len
  simp -implicitDefEqProofs [ir10_k11, h9, hy.is, hy.len]
  by_cases hnil : os = []
  · simp -implicitDefEqProofs [hnil]
    refine (qlinked hE0).mono ?_
    rintro _ w3 ⟨rfl, hE3⟩
    simp -implicitDefEqProofs
    exact hE3
  have hpos : 0 < os.length := List.length_pos_iff.2 hnil
  obtain ⟨k, hk, hk1, hk2, hk3⟩ := rem_k n os.length hpos (by omega)
  rw [hk2] at hk3
  simp -implicitDefEqProofs [hnil, ir10_k10, h2, h9, hy.is, hy.len, hk2, hk3, show IntKind.i64.wrap (k : Int) = k from i64w (by omega)]
  have hcap := isSl_len_cap hy.is
  rw [hy.len] at hcap
  refine raw_ord ir10_o29_ok (Ext w) fun w4 hw4 _ => ⟨hw4, ?_⟩
  simp +contextual -implicitDefEqProofs [ir10_o29, h9, hy.is, hy.len, hw4, show k ≤ slCap y by omega, show k + 1 ≤ os.length by omega, i64w (n := (k : Int) + 1) (by omega), hk]
  have hyA := (hy.ext hw4).sub (l := 0) (r := k) (m := slCap y) (Nat.zero_le _) (by omega) (by omega) (Nat.le_refl _)
  have hyB := (hy.ext hw4).sub (l := k + 1) (r := os.length) (m := slCap y) (by omega) (Nat.le_refl _) hcap (Nat.le_refl _)
  obtain ⟨rA, lA, cA, oA⟩ := hyA.rows
  obtain ⟨rB, lB, cB, oB⟩ := hyB.rows
  refine eff_lit si42 (by decide) (by decide) (by simp) fun B5 W5 hB5 hE5 hb5 _ => ?_
  simp at hb5
  have hE45 := hw4.trans' hE5
  have own5 : Own w4.heap.size 45 3 W5 (.slice (some ⟨B5, 0, none⟩) 0 0) [] := Own.lit hb5 (by simp) hB5 (by decide)
  refine ⟨hE45, ?_⟩
  simp -implicitDefEqProofs
  have lA' : rA.length = k := by rw [lA]; simp; omega
  have lB' : rB.length = os.length - (k + 1) := by rw [lB]; simp
  refine eff_append (W0 := w4) ri42 hE5 (by rfl) (by rfl) own5 (xv := slSub y 3 0 k (slCap y)) (news := rowsV rA) ?_ (one_rows lA oA) (by simp [rowsV_len]; omega) (by simp [rowsV_len]; omega) fun v6 W6 hE6 own6 _ _ => ?_
  · exact ⟨cA.is, cA.len, fun j hj => hE5.cell (cA.cell j hj)⟩
  have hE46 := hw4.trans' hE6
  refine ⟨hE46, ?_⟩
  simp -implicitDefEqProofs
  refine eff_append (W0 := w4) ri42 hE6 (by rfl) (by rfl) own6 (xv := slSub y 3 (k + 1) os.length (slCap y)) (news := rowsV rB) ?_ (one_rows lB oB) (by simp [rowsV_len]; omega) (by simp [rowsV_len]; omega) fun v7 W7 hE7 own7 _ _ => ?_
  · exact ⟨cB.is, cB.len, fun j hj => hE6.cell (cB.cell j hj)⟩
  have hE47 := hw4.trans' hE7
  rw [List.nil_append, ← rowsV_app] at own7
  have hcut : SlO W7 v7 (os.take k ++ os.drop (k + 1)) := joined hk (by omega) hE7 lA' lB' oA oB own7
  exact law10_k9 hE0 hE47 (by simp) (by simp [h1]) (by simp [h9]) (by simp) hcut hr hy hew hall hk
end Go.L16
/- Layer 16: the law LinkLeast, joined. -/
namespace Go.L16
open Go Go.Eng Go.RowKit Go.Proofs
set_option maxRecDepth 100000
set_option maxHeartbeats 2000000

theorem asked_fewer {l : List Obj} {roots : List ByteArray} (h : linkE l roots = 0) : askedE l (roots.drop 1) = 0 :=
  asked_of (link_ok h).1 (by have := (link_ok h).2.1; simp; omega)

/-- The roots but the first: what is reached from them is among what is reached. -/
theorem law10_k12 {w0 w : World} {v u y all : Value} {n : Int} {l : List Obj} {roots : List ByteArray} {ρ : Env} (hE0 : Ext w0 w) (hf : L10 v u y all n ρ) (hl : SlO w v l) (hr : SlS w u roots) (hy : SlO w y (withoutL l roots))
    (ha : SlS w all (reachedL l roots)) (he : linkE l roots = 0) :
    ir10_k12.wp ⟨Tryd.prog, 186, ir10_V, []⟩ (retK [.tmp 6] fun e w' => e = .returned (.bool true) ∧ Ext w0 w') (ksOf [.tmp 6] fun e w' => e = .returned (.bool true) ∧ Ext w0 w') ρ w := by
  have hff := hf
  obtain ⟨h0, h1, h2, h9, h11⟩ := hf
  have hr60 := (link_ok he).2.1
  simp -implicitDefEqProofs [ir10_k12, h1, hr.1.is, hr.1.len]
  by_cases hpos : 0 < roots.length
  · have hcap := isSl_len_cap hr.1.is
    rw [hr.1.len] at hcap
    have hroots : SlS w (slSub u 1 1 roots.length (slCap u)) (roots.drop 1) := by
      have := hr.1.sub (l := 1) (r := roots.length) (m := slCap u) (by omega) (Nat.le_refl _) hcap (Nat.le_refl _)
      rw [List.take_length] at this
      exact ⟨this, fun s hs => hr.2 s (List.mem_of_mem_drop hs)⟩
    simp -implicitDefEqProofs [hpos, h0, h1, hr.1.is, hr.1.len, show (1 : Int) ≤ (roots.length : Int) by omega]
    refine (lk_Reached hl hroots).mono ?_
    rintro _ w1 ⟨x, rfl, hx, hE1⟩
    have hask := asked_fewer he
    simp only [reachedA, hask, if_true] at hx
    have hsub : ∀ s ∈ reachedL l (roots.drop 1), s ∈ reachedL l roots := fun s hs =>
      ((reached_is l roots).2 s).2 (reach_mono (fun x hx => List.mem_of_mem_drop hx) (((reached_is l (roots.drop 1)).2 s).1 hs))
    obtain ⟨R, hR⟩ : ∃ R, R = reachedL l roots := ⟨_, rfl⟩
    obtain ⟨F, hF⟩ : ∃ F, F = reachedL l (roots.drop 1) := ⟨_, rfl⟩
    have ha' := ha
    rw [← hR] at ha' hsub
    rw [← hF] at hx hsub
    rw [hask]
    have hxbd := hx.1.bd
    have habd := ha'.1.bd
    simp -implicitDefEqProofs [ir10_k7]
    refine loopC 19 F.length (fun k ρ' W => Ext w1 W ∧ ρ' 17 = x ∧ L10 v u y all n ρ') (by simp) ⟨ext_refl _, by simp, by simp [h0], by simp [h1], by simp [h2], by simp [h9], by simp [h11]⟩ ?_
    rintro k ρ2 W hk h19 ⟨hEW, h17, h0, h1, h2, h9, h11⟩
    have xW := hx.ext hEW
    have aW := ha'.ext (hE1.trans' hEW)
    by_cases hlt : k < F.length
    · simp -implicitDefEqProofs [ir10_l6, ir10_k5, h19, h17, xW.1.is, xW.1.len, hlt]
      refine loopC 21 R.length (fun q ρ' W' => Ext W W' ∧ ρ' 17 = x ∧ ρ' 19 = .int .i64 k ∧ ρ' 20 = .bool (decide (F[k] ∈ R.take q)) ∧ L10 v u y all n ρ') (by simp) ⟨ext_refl _, by simp [h17], by simp [h19], by simp, by simp [h0], by simp [h1], by simp [h2], by simp [h9], by simp [h11]⟩ ?_
      rintro q ρ3 W' hq h21 ⟨hEq, h17, h19, h20, h0, h1, h2, h9, h11⟩
      have xW := xW.ext hEq
      have aW := aW.ext hEq
      by_cases hqlt : q < R.length
      · have hb : (decide (F[k] ∈ R.take q) || decide (R[q] = F[k])) = decide (F[k] ∈ R.take (q + 1)) := by
          rw [List.take_succ_eq_append_getElem hqlt, Bool.eq_iff_iff]
          simp only [Bool.or_eq_true, decide_eq_true_eq, List.mem_append, List.mem_singleton]
          exact ⟨fun h => h.imp id fun e => e.symm, fun h => h.imp id fun e => e.symm⟩
        simp -implicitDefEqProofs [ir10_l2, ir10_k1, h21, h20, h11, aW.1.is, aW.1.len, hqlt, aW.1.cell q hqlt, h19, h17, xW.1.is, xW.1.len, hlt, xW.1.cell k hlt]
        intro W2 hE2
        simp -implicitDefEqProofs [ir10_k0, h21, i64w (n := (q : Int) + 1) (by omega)]
        refine ⟨hEq.trans' hE2, by simp [h17], by simp [h19], by simpa using hb, by simp [h0], by simp [h1], by simp [h2], by simp [h9], by simp [h11]⟩
      · have hq' : q = R.length := by omega
        subst hq'
        have hmem : F[k] ∈ R := hsub _ (List.getElem_mem hlt)
        have h20 : ρ3 20 = .bool true := by rw [h20, List.take_length, decide_eq_true hmem]
        simp -implicitDefEqProofs [ir10_l2, h21, h11, aW.1.is, aW.1.len]
        simp -implicitDefEqProofs [ir10_k3, h20]
        simp -implicitDefEqProofs [ir10_k4, h19, i64w (n := (k : Int) + 1) (by omega)]
        exact ⟨hEW.trans' hEq, by simp [h17], by simp [h0], by simp [h1], by simp [h2], by simp [h9], by simp [h11]⟩
    · have hk' : k = F.length := by omega
      subst hk'
      simp -implicitDefEqProofs [ir10_l6, h19, h17, xW.1.is, xW.1.len]
      have x := hE1.trans' hEW
      exact law10_end (v := v) (all := all) (n := n) (hE0.trans' x) ⟨by simp [h0], by simp [h1], by simp [h2], by simp [h9], by simp [h11]⟩ (hr.ext x) (hy.ext x) he
  · simp -implicitDefEqProofs [hpos]
    exact law10_end (v := v) (all := all) (n := n) hE0 ⟨by simp [h0], by simp [h1], by simp [h2], by simp [h9], by simp [h11]⟩ hr hy he

theorem law10 {w : World} {v u : Value} {n : Int} {l : List Obj} {roots : List ByteArray} (hl : SlO w v l) (hr : SlS w u roots) (_hn : -9223372036854775808 ≤ n ∧ n ≤ 9223372036854775807) :
    Calls Tryd.prog 10 #[v, u, .int .i64 n] w fun e w' => e = .returned (.bool true) ∧ Ext w w' := by
  refine ir10_calls fun ρ h0 h1 h2 => ?_
  have tail : ∀ ρ2 : Env, ρ2 0 = v → ρ2 1 = u → ρ2 2 = .int .i64 n → ir10_k14.wp ⟨Tryd.prog, 186, ir10_V, []⟩ (retK [.tmp 6] fun e w' => e = .returned (.bool true) ∧ Ext w w') (ksOf [.tmp 6] fun e w' => e = .returned (.bool true) ∧ Ext w w') ρ2 w := by
    intro ρ2 h0 h1 h2
    simp -implicitDefEqProofs [ir10_k14, h0, h1]
    refine (lk_Link hl hr).mono ?_
    rintro _ w1 ⟨pa, pb, pc, rfl, hp, hE1, _⟩
    simp -implicitDefEqProofs
    refine eff_var z26 (fun v => by simp) (by simp [Value.cells]) (by simp [Value.cells, isSl_one hp.names.1.is, isSl_one hp.starts.1.is, isSl_one hp.code.is]) sz26 fun B2 W2 hB2 hE2 hb2 _ => ?_
    simp [Value.cells] at hb2
    have x2 := hE1.trans' hE2
    simp -implicitDefEqProofs [h0, h1]
    refine (lk_Without (hl.ext x2) (hr.ext x2)).mono ?_
    rintro _ w3 ⟨y, rfl, hy, hE3⟩
    have x3 := x2.trans' hE3
    simp -implicitDefEqProofs [h0, h1]
    refine (lk_Reached (hl.ext x3) (hr.ext x3)).mono ?_
    rintro _ w4 ⟨z, rfl, hz, hE4⟩
    have x4 := x3.trans' hE4
    have y4 := hE3.trans' hE4
    simp -implicitDefEqProofs
    by_cases he : linkE l roots = 0
    · simp -implicitDefEqProofs [he, ir10_k13, h1]
      have hask := asked_of (link_ok he).1 (link_ok he).2.1
      obtain ⟨_, hew, hiw, _⟩ := without_same he
      simp only [reachedA, hask, if_true] at hz
      refine (lk_Link (hy.ext hE4) (hr.ext x4)).mono ?_
      rintro _ w5 ⟨qa, qb, qc, rfl, hq, hE5, _⟩
      rw [hew]
      rw [hiw] at hq
      simp -implicitDefEqProofs
      refine eff_var z26 (fun v => by simp) (by simp [Value.cells]) (by simp [Value.cells, isSl_one hq.names.1.is, isSl_one hq.starts.1.is, isSl_one hq.code.is]) sz26 fun B6 W6 hB6 hE6 hb6 _ => ?_
      simp [Value.cells] at hb6
      have y6 := hE5.trans' hE6
      have x6 := x4.trans' y6
      simp -implicitDefEqProofs [h0]
      refine (lk_Reached (hl.ext x6) (hz.ext y6)).mono ?_
      rintro _ w7 ⟨g, rfl, hg, hE7⟩
      have hR60 : (reachedL l roots).length ≤ 60 := (link_ok he).2.2.2.1.len
      have hask2 := asked_of (link_ok he).1 hR60
      simp only [reachedA, hask2, if_true, reached_again] at hg
      rw [hask2, hask]
      simp -implicitDefEqProofs [((hb2.ext y4).ext (y6.trans' hE7)).cell, (hb6.ext hE7).cell]
      refine (ref_Same ((hp.ext hE2).ext (y4.trans' (y6.trans' hE7))) ((hq.ext hE6).ext hE7)).mono ?_
      rintro _ w8 ⟨rfl, hE8⟩
      simp -implicitDefEqProofs
      refine (ref_SameStrings (hg.ext hE8).1 (hz.ext ((y6.trans' hE7).trans' hE8)).1).mono ?_
      rintro _ w9 ⟨rfl, hE9⟩
      have z9 := ((y6.trans' hE7).trans' hE8).trans' hE9
      simp -implicitDefEqProofs
      exact law10_k12 (v := v) (all := z) (n := n) (x4.trans' z9) ⟨by simp [h0], by simp [h1], by simp [h2], by simp, by simp⟩ (hl.ext (x4.trans' z9)) (hr.ext (x4.trans' z9)) ((hy.ext hE4).ext z9) (hz.ext z9) he
    · have hi : linkI l roots = emptyI := by simp [linkI, he]
      rw [hi] at hp
      simp -implicitDefEqProofs [he]
      refine law_linked.mono ?_
      rintro _ w5 ⟨rfl, hE5⟩
      have hpl : slLen pa = 0 := hp.names.1.len
      simp -implicitDefEqProofs [((hb2.ext y4).ext hE5).cell, hp.names.1.is, hpl]
      exact x4.trans' hE5
  simp -implicitDefEqProofs [ir10, h0, h1]
  refine (law_few hl).mono ?_
  rintro _ _ ⟨rfl, rfl⟩
  by_cases hf : few l = true
  · simp -implicitDefEqProofs [hf, h1]
    refine (law_short hr).mono ?_
    rintro _ _ ⟨rfl, rfl⟩
    by_cases hs : short roots = true
    · simp -implicitDefEqProofs [hs]
      exact tail _ (by simp [h0]) (by simp [h1]) (by simp [h2])
    · have hs' : short roots = false := by simpa using hs
      simp -implicitDefEqProofs [hs']
      refine law_linked.mono ?_
      rintro _ w2 ⟨rfl, hE2⟩
      simp -implicitDefEqProofs
      exact hE2
  · have hf' : few l = false := by simpa using hf
    simp -implicitDefEqProofs [hf']
    refine law_linked.mono ?_
    rintro _ w2 ⟨rfl, hE2⟩
    simp -implicitDefEqProofs
    exact hE2
end Go.L16
/- Layer 16, plainly: the same link with a byte ahead of all names. -/
namespace Go.L16
open Go Go.Eng Go.RowKit Go.Proofs
set_option maxRecDepth 100000

def headS (c : UInt8) (s : ByteArray) : ByteArray := mkS (c :: s.data.toList)
def renR (c : UInt8) (r : Rel) : Rel := ⟨r.pos, headS c r.name⟩
def renO (c : UInt8) (o : Obj) : Obj := ⟨headS c o.name, o.code, o.relocs.map (renR c)⟩
theorem headS_inj {c : UInt8} {a b : ByteArray} : headS c a = headS c b ↔ a = b := by
  unfold headS
  rw [mkS_inj]
  constructor
  · intro h; exact toList_inj' (List.cons.inj h).2
  · rintro rfl; rfl
theorem headS_size (c : UInt8) (s : ByteArray) : (headS c s).size = s.size + 1 := by
  have : s.size = s.data.toList.length := Array.length_toList.symm
  rw [headS, mkS_size, List.length_cons, this]
theorem headS_lt (c : UInt8) (a b : ByteArray) : ltS (headS c a) (headS c b) = ltS a b := by
  simp [ltS, headS, Op.bytesLess]
theorem isName_head {c : UInt8} (hc : nameByte c = true) {s : ByteArray} (h : isName s = true) (hs : s.size ≤ 119) : isName (headS c s) = true := by
  simp only [isName, Bool.and_eq_true, decide_eq_true_eq] at h ⊢
  refine ⟨⟨?_, by rw [headS_size]; omega⟩, by rw [headS_size]; omega⟩
  simp only [headS, mkS_list, List.all_cons, hc, h.1.1, Bool.and_self]

theorem checkObj_iff {o : Obj} : checkObj o = 0 ↔ objShape o = true ∧ ∀ i, i < o.relocs.length → relBadAt o i = false := by
  constructor
  · intro h
    refine ⟨?_, fun i hi => ?_⟩
    · unfold checkObj at h
      split at h
      · rename_i hc; simp only [Bool.and_eq_true] at hc; exact hc.1
      · cases h
    · cases hb : relBadAt o i with
      | false => rfl
      | true => rw [checkObj_bad hi hb] at h; cases h
  · rintro ⟨h1, h2⟩
    unfold checkObj
    rw [if_pos]
    simp only [h1, Bool.true_and, List.all_eq_true, List.mem_range]
    intro i hi
    simp [h2 i hi]
/-- Names of an object that leave room for another byte. -/
def room (o : Obj) : Prop := o.name.size ≤ 100 ∧ ∀ r ∈ o.relocs, r.name.size ≤ 100
theorem checkObj_ren {c : UInt8} (hc : nameByte c = true) {o : Obj} (h : checkObj o = 0) (hr : room o) : checkObj (renO c o) = 0 := by
  obtain ⟨h1, h2⟩ := checkObj_iff.1 h
  refine checkObj_iff.2 ⟨?_, fun i hi => ?_⟩
  · simp only [objShape, Bool.and_eq_true, decide_eq_true_eq] at h1 ⊢
    exact ⟨⟨isName_head hc h1.1.1 (by have := hr.1; omega), h1.1.2⟩, by simpa [renO] using h1.2⟩
  · have hi' : i < o.relocs.length := by simpa [renO] using hi
    have hb := h2 i hi'
    obtain ⟨_, _, hn, _⟩ := rel_ok h hi'
    have hn' := isName_head hc hn (by have := hr.2 _ (List.getElem_mem hi'); omega)
    have hn0 : isName (headS c o.relocs[i].name) = isName o.relocs[i].name := by rw [hn', hn]
    have hg : ((renO c o).relocs.getD (i - 1) ⟨0, .empty⟩).pos = (o.relocs.getD (i - 1) ⟨0, .empty⟩).pos := by
      have : i - 1 < o.relocs.length := by omega
      simp [renO, renR, this]
    have e1 : (renO c o).relocs[i]? = some (renR c o.relocs[i]) := by simp [renO, hi']
    unfold relBadAt at hb ⊢
    rw [e1]
    rw [List.getElem?_eq_getElem hi'] at hb
    simp only [relBad] at hb ⊢
    rw [hg]
    simp only [renR, hn0]
    exact hb

section
variable {c : UInt8} {l : List Obj}
theorem libOk_ren (hc : nameByte c = true) (h : LibOk l) (hr : ∀ o ∈ l, room o) : LibOk (l.map (renO c)) := by
  refine ⟨by simpa using h.len, fun o ho => ?_, fun i j hi hj he => ?_⟩
  · obtain ⟨o', ho', rfl⟩ := List.mem_map.1 ho
    exact checkObj_ren hc (h.ok _ ho') (hr _ ho')
  · simp only [List.length_map] at hi hj
    simp only [List.getElem_map, renO] at he
    exact h.diff i j hi hj (headS_inj.1 he)
theorem found_ren {s : ByteArray} : (∃ o ∈ l.map (renO c), o.name = headS c s) ↔ ∃ o ∈ l, o.name = s := by
  constructor
  · rintro ⟨o, ho, he⟩
    obtain ⟨o', ho', rfl⟩ := List.mem_map.1 ho
    exact ⟨o', ho', headS_inj.1 he⟩
  · rintro ⟨o, ho, rfl⟩
    exact ⟨_, List.mem_map_of_mem ho, rfl⟩
theorem needs_ren (hc : nameByte c = true) (h : LibOk l) (hr : ∀ o ∈ l, room o) {s n : ByteArray} : n ∈ needsAt (l.map (renO c)) (headS c s) ↔ ∃ m, n = headS c m ∧ m ∈ needsAt l s := by
  have h' := libOk_ren hc h hr
  by_cases hf : ∃ o ∈ l, o.name = s
  · obtain ⟨o, ho, rfl⟩ := hf
    rw [show headS c o.name = (renO c o).name from rfl, (found_of h' (List.mem_map_of_mem ho)).2.2, (found_of h ho).2.2, mem_needsOf]
    constructor
    · rintro ⟨r, hr, rfl⟩
      obtain ⟨r', hr', rfl⟩ := List.mem_map.1 hr
      exact ⟨r'.name, rfl, mem_needsOf.2 ⟨r', hr', rfl⟩⟩
    · rintro ⟨m, rfl, hm⟩
      obtain ⟨r, hr, rfl⟩ := mem_needsOf.1 hm
      exact ⟨renR c r, List.mem_map_of_mem hr, rfl⟩
  · have h1 : ¬ 0 ≤ idxO l s := fun h => hf (found_iff.1 h)
    have h2 : ¬ 0 ≤ idxO (l.map (renO c)) (headS c s) := fun h => hf (found_ren.1 (found_iff.1 h))
    unfold needsAt
    rw [if_neg h1, if_neg h2]
    simp
theorem reach_ren (hc : nameByte c = true) (h : LibOk l) (hr : ∀ o ∈ l, room o) {roots : List ByteArray} {t : ByteArray} : Reach (l.map (renO c)) (roots.map (headS c)) t ↔ ∃ s, t = headS c s ∧ Reach l roots s := by
  constructor
  · intro ht
    induction ht with
    | root h => obtain ⟨s, hs, rfl⟩ := List.mem_map.1 h; exact ⟨s, rfl, .root hs⟩
    | step _ hn ih =>
      obtain ⟨s, rfl, hs⟩ := ih
      obtain ⟨m, rfl, hm⟩ := (needs_ren hc h hr).1 hn
      exact ⟨m, rfl, .step hs hm⟩
  · rintro ⟨s, rfl, hs⟩
    induction hs with
    | root h => exact .root (List.mem_map_of_mem h)
    | step _ hn ih => exact .step ih ((needs_ren hc h hr).2 ⟨_, rfl, hn⟩)
theorem idx_ren (R : List ByteArray) (s : ByteArray) : idx (R.map (headS c)) (headS c s) = idx R s := by
  have : (R.map (headS c)).findIdx (fun x => decide (x = headS c s)) = R.findIdx (fun x => decide (x = s)) := by
    induction R with
    | nil => rfl
    | cons a R ih => simp only [List.map_cons, List.findIdx_cons, ih, headS_inj]
  simp only [idx, this, List.length_map]

theorem link_ren (hc : nameByte c = true) {roots : List ByteArray} (he : linkE l roots = 0) (hr : ∀ o ∈ l, room o) :
    linkE (l.map (renO c)) (roots.map (headS c)) = 0 ∧ (linkI (l.map (renO c)) (roots.map (headS c))).starts = (linkI l roots).starts ∧ (linkI (l.map (renO c)) (roots.map (headS c))).code = (linkI l roots).code := by
  obtain ⟨hl, h60, hfd, hf, hi⟩ := link_ok he
  have hl' := libOk_ren hc hl hr
  have hE : linkE (l.map (renO c)) (roots.map (headS c)) = 0 := link_of hl' (by simpa using h60) fun s hs => by
    obtain ⟨t, rfl, ht⟩ := (reach_ren hc hl hr).1 hs
    exact found_ren.2 (hfd t ht)
  obtain ⟨_, _, _, hf', hi'⟩ := link_ok hE
  have hR : reachedL (l.map (renO c)) (roots.map (headS c)) = (reachedL l roots).map (headS c) := by
    refine reachedL_eq ⟨?_, fun s => ?_⟩
    · have := (reached_is l roots).1
      unfold Asc at this ⊢
      rw [List.pairwise_map]
      exact this.imp fun {a b} h => by rw [headS_lt]; exact h
    · rw [reach_ren hc hl hr, List.mem_map]
      constructor
      · rintro ⟨a, ha, rfl⟩; exact ⟨a, rfl, ((reached_is l roots).2 a).1 ha⟩
      · rintro ⟨a, rfl, ha⟩; exact ⟨a, ((reached_is l roots).2 a).2 ha, rfl⟩
  have hcodes : codesOf (l.map (renO c)) ((reachedL l roots).map (headS c)) = codesOf l (reachedL l roots) := by
    unfold codesOf
    rw [List.map_map]
    refine List.map_congr_left fun s hs => ?_
    obtain ⟨o, ho, rfl⟩ := hfd s (((reached_is l roots).2 s).1 hs)
    simp only [Function.comp]
    rw [(found_of hl ho).2.1, show headS c o.name = (renO c o).name from rfl, (found_of hl' (List.mem_map_of_mem ho)).2.1]
    unfold codeOf
    simp only [renO]
    rw [List.foldl_map]
    congr 1
    funext cs r
    simp only [put2, renR, idx_ren]
  rw [hi, hi', hR]
  refine ⟨hE, ?_, ?_⟩
  · simp only [imgOf, startsOf, hcodes, List.length_map]
  · simp only [imgOf, hcodes]
end
end Go.L16
/- Layer 16: the law LinkNames. -/
namespace Go.L16
open Go Go.Eng Go.RowKit Go.Proofs
set_option maxRecDepth 100000
set_option maxHeartbeats 2000000

theorem app_head (c : UInt8) (s : ByteArray) : mkS [c] ++ s = headS c s := by
  apply (data_inj _ _).1
  apply Array.toList_inj.1
  simp [headS, mkS]
def renTo (c : UInt8) (rs : List Rel) (q : Nat) : List Rel := (rs.take q).map (renR c) ++ rs.drop q
theorem renTo_len (c : UInt8) (rs : List Rel) (q : Nat) : (renTo c rs q).length = rs.length := by simp [renTo]; omega
theorem renTo_zero (c : UInt8) (rs : List Rel) : renTo c rs 0 = rs := by simp [renTo]
theorem renTo_end (c : UInt8) (rs : List Rel) : renTo c rs rs.length = rs.map (renR c) := by simp [renTo]
theorem renTo_get (c : UInt8) (rs : List Rel) {q : Nat} (h : q < rs.length) : (renTo c rs q)[q]'(by rw [renTo_len]; exact h) = rs[q] := by
  simp only [renTo]
  rw [List.getElem_append_right (by simp; omega)]
  simp [show min q rs.length = q by omega]
theorem renTo_set (c : UInt8) (rs : List Rel) {q : Nat} (h : q < rs.length) : (renTo c rs q).set q (renR c rs[q]) = renTo c rs (q + 1) := by
  simp only [renTo]
  have e : q - ((rs.take q).map (renR c)).length = 0 := by simp; omega
  rw [List.set_append_right _ _ (by simp; omega), e, List.take_succ_eq_append_getElem h, List.drop_eq_getElem_cons h, List.set_cons_zero, List.map_append, List.append_assoc]
  rfl
theorem relV_set (s : ByteArray) : ∀ (rs : List Rel) (i : Nat) (h : i < rs.length), (relV rs).set (i * 2 + 1) (.string s) = relV (rs.set i ⟨rs[i].pos, s⟩)
  | r :: rs, 0, _ => by simp [relV]
  | r :: rs, i + 1, h => by
    have ih := relV_set s rs i (by simpa using h)
    rw [show (i + 1) * 2 + 1 = (i * 2 + 1) + 1 + 1 by omega]
    simp only [relV, List.flatMap_cons, List.cons_append, List.nil_append, List.set_cons_succ, List.getElem_cons_succ] at ih ⊢
    rw [ih]
theorem renTo_wf (c : UInt8) {rs : List Rel} (h : ∀ r ∈ rs, (-9223372036854775808 ≤ r.pos ∧ r.pos ≤ 9223372036854775807) ∧ r.name.size ≤ 130) (q : Nat) : ∀ r ∈ renTo c rs q, (-9223372036854775808 ≤ r.pos ∧ r.pos ≤ 9223372036854775807) ∧ r.name.size ≤ maxLen := by
  intro r hr
  simp only [renTo, List.mem_append, List.mem_map] at hr
  rcases hr with ⟨r', hr', rfl⟩ | hr
  · have := h r' (List.mem_of_mem_take hr')
    refine ⟨this.1, ?_⟩
    simp only [renR, headS_size, maxLen]; omega
  · have := h r (List.mem_of_mem_drop hr)
    exact ⟨this.1, by simp only [maxLen]; omega⟩

theorem sz9 : sizeIs Tryd.prog 9 1 = true := by kernel_rfl
theorem sz43 : sizeIs Tryd.prog 43 1 = true := by kernel_rfl

/-- The slots of the law behind its first link. -/
structure L7 (v u : Value) (E : Int) (c : UInt8) (B : Nat) (ρ : Env) : Prop where
  h0 : ρ 0 = v
  h1 : ρ 1 = u
  h7 : ρ 7 = .pointer (some ⟨B, 0, none⟩)
  h8 : ρ 8 = .int .i64 E
  h9 : ρ 9 = .string (mkS [c])

/-- What the list of objects with other names holds. -/
structure R7 (c : UInt8) (l : List Obj) (w0 w2 W : World) (k : Nat) (mv : Value) (rows : List (Value × Value × Value)) : Prop where
  own : Own w2.heap.size 45 3 W mv (rowsV rows)
  len : rows.length = k
  room : ∀ i (h : i < l.length), i < k → room l[i]
  name : ∀ i (h : i < l.length) (h2 : i < rows.length), rows[i].1 = .string (headS c l[i].name)
  code : ∀ i (h : i < l.length) (h2 : i < rows.length), Sl encB w0 rows[i].2.1 l[i].code
  rels : ∀ i (h : i < l.length) (h2 : i < rows.length), SlR W rows[i].2.2 (l[i].relocs.map (renR c)) ∧ ∀ g, rows[i].2.2.ownBlock = some g → some g ≠ mv.ownBlock ∧ g < W.heap.size
theorem R7.ext {c : UInt8} {l : List Obj} {w0 w2 W W' : World} {k : Nat} {mv : Value} {rows : List (Value × Value × Value)} (h : R7 c l w0 w2 W k mv rows) (hE : Ext W W') : R7 c l w0 w2 W' k mv rows :=
  ⟨h.own.ext hE, h.len, h.room, h.name, h.code, fun i h1 h2 => ⟨(h.rels i h1 h2).1.ext hE, fun g hg => ⟨((h.rels i h1 h2).2 g hg).1, Nat.lt_of_lt_of_le ((h.rels i h1 h2).2 g hg).2 hE.size⟩⟩⟩
theorem R7.objs {c : UInt8} {l : List Obj} {w0 w2 W : World} {mv : Value} {rows : List (Value × Value × Value)} (h : R7 c l w0 w2 W l.length mv rows) (hl : l.length ≤ 63) (hE : Ext w0 W) : SlO W mv (l.map (renO c)) := by
  have hlen := h.len
  refine SlO.ofOwn h.own (by simp [hlen]) (by simp; omega) fun i h1 h2 => ?_
  have hi : i < l.length := by omega
  have hr := h.room i hi hi
  rw [List.getElem_map]
  exact ⟨h.name i hi h1, by rw [renO, headS_size]; have := hr.1; simp only [maxLen]; omega, (h.code i hi h1).ext hE, (h.rels i hi h1).1⟩
/-- The next object is put behind the others. -/
theorem R7.next {c : UInt8} {l : List Obj} {w0 w2 W W' : World} {k : Nat} {mv mv' n cc r : Value} {rows : List (Value × Value × Value)} (h : R7 c l w0 w2 W k mv rows) (hk : k < l.length) (hroom : L16.room l[k])
    (hown : Own w2.heap.size 45 3 W' mv' (rowsV rows ++ [n, cc, r])) (hg : W.grownBy W' mv.ownBlock) (hfr : mv'.ownBlock = mv.ownBlock ∨ mv'.ownBlock = some W.heap.size)
    (hn : n = .string (headS c l[k].name)) (hc : Sl encB w0 cc l[k].code) (hr : SlR W r (l[k].relocs.map (renR c))) (hrb : ∀ g, r.ownBlock = some g → some g ≠ mv.ownBlock ∧ g < W.heap.size) :
    R7 c l w0 w2 W' (k + 1) mv' (rows ++ [(n, cc, r)]) := by
  have hlen := h.len
  have move : ∀ (x : Value) (rs : List Rel), SlR W x rs → (∀ g, x.ownBlock = some g → some g ≠ mv.ownBlock ∧ g < W.heap.size) → SlR W' x rs ∧ ∀ g, x.ownBlock = some g → some g ≠ mv'.ownBlock ∧ g < W'.heap.size := by
    intro x rs hx hb
    refine ⟨hx.kept hg ?_, fun g hgx => ?_⟩
    · cases hxb : x.ownBlock with
      | none => exact .inl rfl
      | some g => exact .inr (hb g hxb).1
    · obtain ⟨h1, h2⟩ := hb g hgx
      refine ⟨?_, Nat.lt_of_lt_of_le h2 hg.size⟩
      rcases hfr with e | e
      · rw [e]; exact h1
      · rw [e]; simp; omega
  have at_ : ∀ i (h2 : i < (rows ++ [(n, cc, r)]).length), (∃ hi : i < rows.length, (rows ++ [(n, cc, r)])[i] = rows[i]) ∨ (i = k ∧ (rows ++ [(n, cc, r)])[i] = (n, cc, r)) := by
    intro i h2
    by_cases hi : i < rows.length
    · exact .inl ⟨hi, List.getElem_append_left hi⟩
    · simp at h2
      have : i = rows.length := by omega
      subst this
      exact .inr ⟨hlen, by simp⟩
  refine ⟨by rw [rowsV_app]; exact hown, by simp [hlen], fun i hi hik => ?_, fun i hi h2 => ?_, fun i hi h2 => ?_, fun i hi h2 => ?_⟩
  · by_cases he : i = k
    · subst he; exact hroom
    · exact h.room i hi (by omega)
  · rcases at_ i h2 with ⟨hi2, e⟩ | ⟨rfl, e⟩
    · rw [e]; exact h.name i hi hi2
    · rw [e]; exact hn
  · rcases at_ i h2 with ⟨hi2, e⟩ | ⟨rfl, e⟩
    · rw [e]; exact h.code i hi hi2
    · rw [e]; exact hc
  · rcases at_ i h2 with ⟨hi2, e⟩ | ⟨rfl, e⟩
    · rw [e]; exact move _ _ (h.rels i hi hi2).1 (h.rels i hi hi2).2
    · rw [e]; exact move _ _ hr hrb

theorem law7_names {w0 w2 W : World} {v u : Value} {E : Int} {c : UInt8} {B : Nat} {ρ : Env} {l : List Obj} {roots : List ByteArray} {a1 a2 a3 mv : Value} (hc : nameByte c = true) (hE0 : Ext w0 w2) (hEW : Ext w2 W) (hf : L7 v u E c B ρ) (h10 : ρ 10 = mv)
    (hE : E = linkE l roots) (hroom : ∀ o ∈ l, room o) (hm : SlO W mv (l.map (renO c))) (hr : SlS w2 u roots) (hrs : ∀ s ∈ roots, s.size ≤ 130) (hr62 : roots.length ≤ 62) (hb : Blk w2 B #[a1, a2, a3] 26) (hi : ImgC w2 a1 a2 a3 (linkI l roots)) :
    ir7_k14.wp ⟨Tryd.prog, 139, ir7_V, []⟩ (retK [.tmp 6] fun e w' => e = .returned (.bool true) ∧ Ext w0 w') (ksOf [.tmp 6] fun e w' => e = .returned (.bool true) ∧ Ext w0 w') ρ W := by
  obtain ⟨h0, h1, h7, h8, h9⟩ := hf
  have hrbd := hr.1.bd
  simp -implicitDefEqProofs [ir7_k14]
  refine loopC 15 roots.length (fun k ρ' W' => Ext W W' ∧ L7 v u E c B ρ' ∧ ρ' 10 = mv ∧ Own W.heap.size 9 1 W' (ρ' 14) ((roots.map fun s => Value.string (headS c s)).take k)) (by simp) ⟨ext_refl _, ⟨by simp [h0], by simp [h1], by simp [h7], by simp [h8], by simp [h9]⟩, by simp [h10], by simpa using Own.nil _ _ _ _⟩ ?_
  rintro k ρ3 W3 hk h15 ⟨hE3, ⟨h0, h1, h7, h8, h9⟩, h10, hown⟩
  have hrW := hr.ext (hEW.trans' hE3)
  by_cases hlt : k < roots.length
  · have hsz : 1 + roots[k].size ≤ maxLen := by have := hrs _ (List.getElem_mem hlt); simp only [maxLen]; omega
    simp -implicitDefEqProofs [ir7_l11, ir7_k10, h15, h1, hrW.1.is, hrW.1.len, hlt, h9, hrW.1.cell k hlt, hsz]
    refine eff_lit si22 (by decide) (by decide) (by simp [Value.cells]) fun B4 W4 hB4 hE4 hb4 _ => ?_
    simp [Value.cells] at hb4
    simp -implicitDefEqProofs
    refine eff_append (W0 := W) ri22 (hE3.trans' hE4) (by rfl) (by rfl) (by simpa using hown.ext hE4) (xv := .slice (some ⟨B4, 0, none⟩) 1 1) (news := [.string (mkS [c] ++ roots[k])]) ?_ (by simp [Value.oneCell']) (by simp; omega) (by simp; omega) fun v5 W5 hE5 hown5 _ _ => ?_
    · exact hb4.cells (n := 1) (by simp)
    simp -implicitDefEqProofs [ir7_k9, h15, i64w (n := (k : Int) + 1) (by omega)]
    refine ⟨hE5, ⟨by simp [h0], by simp [h1], by simp [h7], by simp [h8], by simp [h9]⟩, by simp [h10], ?_⟩
    rw [List.take_succ_eq_append_getElem (by simpa using hlt)]
    simpa [app_head] using hown5
  · have hk' : k = roots.length := by omega
    subst hk'
    rw [List.take_of_length_le (by simp)] at hown
    have hh : SlS W3 (ρ3 14) (roots.map (headS c)) := ⟨Own.sl (by rw [List.map_map]; exact hown) (by simp; omega), fun s hs => by
      obtain ⟨t, ht, rfl⟩ := List.mem_map.1 hs
      have := hrs t ht
      rw [headS_size]; simp only [maxLen]; omega⟩
    have hE03 := (hE0.trans' hEW).trans' hE3
    have hE23 := hEW.trans' hE3
    simp -implicitDefEqProofs [ir7_l11, h15, h1, hrW.1.is, hrW.1.len, ir7_k13, h10]
    refine (lk_Link (hm.ext hE3) hh).mono ?_
    rintro _ W4 ⟨pa, pb, pc, rfl, hp, hE4, _⟩
    simp -implicitDefEqProofs
    refine eff_var z26 (fun v => by simp) (by simp [Value.cells]) (by simp [Value.cells, isSl_one hp.names.1.is, isSl_one hp.starts.1.is, isSl_one hp.code.is]) sz26 fun B5 W5 hB5 hE5 hb5 _ => ?_
    simp [Value.cells] at hb5
    have hE35 := hE4.trans' hE5
    by_cases he : linkE l roots = 0
    · obtain ⟨he', hst, hcd⟩ := link_ren hc he hroom
      simp -implicitDefEqProofs [h8, hE, he, he', ir7_k12]
      refine law_linked.mono ?_
      rintro _ W6 ⟨rfl, hE6⟩
      have b6 := (hb.ext (hE23.trans' hE35)).ext hE6
      have i6 := (hi.ext (hE23.trans' hE35)).ext hE6
      have p6 := (hp.ext hE5).ext hE6
      simp -implicitDefEqProofs [h7, b6.cell, (hb5.ext hE6).cell]
      refine (ref_SameInts i6.starts.1 p6.starts.1).mono ?_
      rintro _ W7 ⟨rfl, hE7⟩
      simp -implicitDefEqProofs [hst, h7, (b6.ext hE7).cell, ((hb5.ext hE6).ext hE7).cell]
      refine (ref_SameBytes (i6.ext hE7).code (p6.ext hE7).code).mono ?_
      rintro _ _ ⟨rfl, rfl⟩
      simp -implicitDefEqProofs [hcd]
      exact ((hE03.trans' hE35).trans' hE6).trans' hE7
    · simp -implicitDefEqProofs [h8, hE, he]
      refine (qlinked (hE03.trans' hE35)).mono ?_
      rintro _ W6 ⟨rfl, hE6⟩
      simp -implicitDefEqProofs
      exact hE6

theorem law7_k7 {w0 w2 W : World} {v u : Value} {c : UInt8} {B k : Nat} {ρ : Env} {l : List Obj} {roots : List ByteArray} {mv : Value} {rows : List (Value × Value × Value)}
    (hE0 : Ext w0 w2) (hEW : Ext w2 W) (hf : L7 v u (linkE l roots) c B ρ) (h10 : ρ 10 = mv) (h11 : ρ 11 = .int .i64 k) (hk : k < l.length) (hl63 : l.length ≤ 63) (hl : SlO w0 v l) (hfew : fewO l[k] = true) (hR : R7 c l w0 w2 W k mv rows)
    {K K2 : Env → World → Prop} (hK : ∀ ρ' W' mv' rows', L7 v u (linkE l roots) c B ρ' → ρ' 10 = mv' → ρ' 11 = .int .i64 ((k : Int) + 1) → Ext w2 W' → R7 c l w0 w2 W' (k + 1) mv' rows' → K ρ' W') :
    ir7_k7.wp ⟨Tryd.prog, 139, ir7_V, []⟩ K ((ksOf [.tmp 6] fun e w' => e = .returned (.bool true) ∧ Ext w0 w').blk 0 K2) ρ W := by
  obtain ⟨h0, h1, h7, h8, h9⟩ := hf
  have hE0W := hE0.trans' hEW
  have hlW := hl.ext hE0W
  obtain ⟨n, cc, r, c0, c1, c2, hob⟩ := hl.obj k hk
  have hn := hob.name
  subst hn
  have hnr := hob.rels.is
  have hnc := hob.code.is
  have hfb : l[k].code.length ≤ 20010 ∧ l[k].relocs.length ≤ 20 ∧ l[k].name.size ≤ 130 ∧ ∀ q ∈ l[k].relocs, q.name.size ≤ 130 := by
    simp only [fewO, fewB, Bool.and_eq_true, Bool.not_eq_true', Bool.or_eq_false_iff, decide_eq_false_iff_not, List.all_eq_true, decide_eq_true_eq] at hfew
    exact ⟨by omega, by omega, by omega, hfew.2⟩
  obtain ⟨_, hr20, hn130, hq130⟩ := hfb
  have fin : ∀ (W2 : World) (ρ2 : Env), Ext w0 W2 → Calls Tryd.prog 14 #[] W2 fun e w' => e = .returned (.bool true) ∧ Ext w0 w' := fun W2 _ h => qlinked h
  simp -implicitDefEqProofs [ir7_k7, h0, h11, hlW.is, hlW.len, hk, hE0W.cell c0, hE0W.cell c1, hE0W.cell c2]
  refine eff_var z45 (fun v => by simp) (by simp [Value.cells]) (by simp [Value.cells, isSl_one hnc, isSl_one hnr]) sz45 fun Bo W3 hBo hE3 hbo hsz3 => ?_
  simp [Value.cells] at hbo
  simp -implicitDefEqProofs [hbo.cell]
  have hE03 := hE0W.trans' hE3
  by_cases h100 : (100 : Int) < (l[k].name.size : Int)
  · simp -implicitDefEqProofs [h100]
    refine (qlinked hE03).mono ?_
    rintro _ W6 ⟨rfl, hE6⟩
    simp -implicitDefEqProofs
    exact hE6
  have hBolt := hbo.lt
  simp -implicitDefEqProofs [h100, ir7_k5, hbo.cell, h9, show 1 + l[k].name.size ≤ maxLen by simp only [maxLen]; omega]
  refine eff_store1 (B := Bo) (i := 0) (by simp) hbo (by simp) (by simp [Value.cells]) (by simp) sz9 fun W4 hO4 hb4 => ?_
  simp at hb4 ⊢
  have hE4 : Ext W W4 := hO4.ext hE3 hBo
  refine eff_lit si43 (by decide) (by decide) (by simp) fun B5 W5 hB5 hE5 hb5 _ => ?_
  simp at hb5
  have hs43 : W3.heap.size = W4.heap.size := hO4.size.symm
  have own5 : Own W4.heap.size 54 2 W5 (.slice (some ⟨B5, 0, none⟩) 0 0) [] := Own.lit hb5 (by simp) hB5 (by decide)
  have hr5 := hob.rels.ext ((hE0W.trans' hE4).trans' hE5)
  simp -implicitDefEqProofs [(hb4.ext hE5).cell]
  refine eff_append (W0 := W4) ri43 hE5 (by rfl) (by rfl) own5 hr5.cells (fun u hu => ?_) (by simp [relV_len]; omega) (by simp [relV_len]; omega) fun r6 W6 hE6 own6 _ _ => ?_
  · simp only [relV, List.mem_flatMap] at hu
    obtain ⟨q, _, hu⟩ := hu
    simp only [List.mem_cons, List.not_mem_nil, or_false] at hu
    rcases hu with rfl | rfl <;> rfl
  simp -implicitDefEqProofs [own6]
  refine eff_store1 (B := Bo) (i := 2) (by simp) (hb4.ext hE6) (by simp) (by simp; exact isSl_cells own6.isl) (by simp; exact isSl_one own6.isl) sz43 fun W7 hO7 hb7 => ?_
  simp at hb7 own6 ⊢
  have hb4lt : Bo < W4.heap.size := hb4.lt
  have own7 := own6.only hO7 hb4lt
  have hE7 : Ext W W7 := hO7.ext (hE4.trans' hE6) hBo
  have hs7 : W4.heap.size ≤ W7.heap.size := by rw [hO7.size]; exact hE6.size
  refine loopC 13 l[k].relocs.length (fun q ρ' W' => Ext W W' ∧ W4.heap.size ≤ W'.heap.size ∧ L7 v u (linkE l roots) c B ρ' ∧ ρ' 10 = mv ∧ ρ' 11 = .int .i64 k ∧ ρ' 12 = .pointer (some ⟨Bo, 0, none⟩) ∧ Blk W' Bo #[.string (headS c l[k].name), cc, r6] 45 ∧ Own W4.heap.size 54 2 W' r6 (relV (renTo c l[k].relocs q)) ∧ ∀ j (hj : j < l[k].relocs.length), j < q → l[k].relocs[j].name.size ≤ 100) (by simp)
    ⟨hE7, hs7, ⟨by simp [h0], by simp [h1], by simp [h7], by simp [h8], by simp [h9]⟩, by simp [h10], by simp [h11], by simp, by simpa [app_head] using hb7, by rw [renTo_zero]; exact own7, by simp⟩ ?_
  rintro q ρ3 W8 hq h13 ⟨hE8, hs8, ⟨h0, h1, h7, h8, h9⟩, h10, h11, h12, hb8, own8, hall⟩
  have hwf8 := renTo_wf c (rs := l[k].relocs) (fun r hr => ⟨(hob.rels.wf r hr).1, hq130 r hr⟩) q
  have hrl : (renTo c l[k].relocs q).length = l[k].relocs.length := renTo_len c _ q
  have hs := SlR.ofOwn own8 (by rw [hrl]; omega) hwf8
  have hsl := hs.len
  rw [hrl] at hsl
  by_cases hqlt : q < l[k].relocs.length
  · have hnq := hs.name q (by rw [hrl]; exact hqlt)
    rw [renTo_get c _ hqlt] at hnq
    simp -implicitDefEqProofs [ir7_l3, ir7_k2, h12, h13, hb8.cell, hs.is, hsl, hqlt, hnq]
    by_cases hq100 : (100 : Int) < (l[k].relocs[q].name.size : Int)
    · simp -implicitDefEqProofs [hq100]
      refine (qlinked (hE0W.trans' hE8)).mono ?_
      rintro _ W9 ⟨rfl, hE9⟩
      simp -implicitDefEqProofs
      exact hE9
    simp -implicitDefEqProofs [hq100, ir7_k0]
    refine raw_ord ir7_o19_ok (Ext W8) fun w9 hE9 _ => ⟨hE9, ?_⟩
    have hb9 : ∀ w', Ext W8 w' → ∀ i, w'.cell? ⟨Bo, i, none⟩ = #[.string (headS c l[k].name), cc, r6][i]? := fun w' h => (hb8.ext h).cell
    have hn9 : ∀ w', Ext W8 w' → w'.cell? (slAddr r6 (q * 2 + 1)) = some (.string l[k].relocs[q].name) := fun w' h => h.cell hnq
    simp +contextual -implicitDefEqProofs [ir7_o19, h12, h13, h9, hb9, hs.is, hsl, hqlt, hE9, hn9, show 1 + l[k].relocs[q].name.size ≤ maxLen by simp only [maxLen]; omega]
    refine eff_storeS (l := []) (sv := r6) (e := 54) (sz := 2) (xs := relV (renTo c l[k].relocs q)) (i := q * 2 + 1) (Nat.le_trans hs8 hE9.size) ⟨own8.ext hE9, by simp, trivial⟩ (by rw [relV_len, hrl]; omega) (by simp) (by simp [Value.cells]) (by simp) sz9 fun W10 hB10 own10 => ?_
    simp -implicitDefEqProofs [ir7_k1, h13, i64w (n := (q : Int) + 1) (by omega)]
    have hE410 : Ext W W10 := by
      have : W.heap.size ≤ W4.heap.size := hE4.size
      exact ext_of_below (hE8.trans' hE9) (hB10.mono this)
    refine ⟨hE410, Nat.le_trans (Nat.le_trans hs8 hE9.size) hB10.size, ⟨by simp [h0], by simp [h1], by simp [h7], by simp [h8], by simp [h9]⟩, by simp [h10], by simp [h11], by simp [h12], (hb8.ext hE9).below hB10 hb4lt, ?_, ?_⟩
    · have := own10.head
      simp [app_head] at this
      rw [relV_set _ _ _ (by rw [hrl]; exact hqlt)] at this
      have e : (⟨(renTo c l[k].relocs q)[q]'(by rw [hrl]; exact hqlt) |>.pos, headS c l[k].relocs[q].name⟩ : Rel) = renR c l[k].relocs[q] := by rw [renTo_get c _ hqlt]; rfl
      rw [e, renTo_set c _ hqlt] at this
      exact this
    · intro j hj hjq
      by_cases hje : j = q
      · subst hje; omega
      · exact hall j hj (by omega)
  · have hq' : q = l[k].relocs.length := by omega
    subst hq'
    rw [renTo_end] at own8
    have hroom : room l[k] := ⟨by omega, fun r hr => by obtain ⟨j, hj, rfl⟩ := List.getElem_of_mem hr; exact hall j hj hj⟩
    simp -implicitDefEqProofs [ir7_l3, h12, h13, hb8.cell, hs.is, hsl, ir7_k4]
    refine eff_lit si42 (by decide) (by decide) (by simp [Value.cells]) fun B9 W9 hB9 hE9 hb9 _ => ?_
    simp [Value.cells] at hb9
    have R9 := (hR.ext hE8).ext hE9
    have hlen9 := hR.len
    simp -implicitDefEqProofs
    refine eff_append (W0 := w2) ri42 (hEW.trans' (hE8.trans' hE9)) (by simp [h10]) (by rfl) R9.own (xv := .slice (some ⟨B9, 0, none⟩) 1 1) (news := [.string (headS c l[k].name), cc, r6]) (hb9.cells (n := 1) (by simp)) ?_ (by simp [rowsV_len]; omega) (by simp [rowsV_len]; omega) fun mv' W10 hE10 own10 hg10 hfr10 => ?_
    · intro u hu
      simp only [List.mem_cons, List.not_mem_nil, or_false] at hu
      rcases hu with rfl | rfl | rfl
      · rfl
      · exact isSl_one' hnc
      · exact isSl_one' own8.isl
    have hs9 : SlR W9 r6 (l[k].relocs.map (renR c)) := by
      rw [renTo_end] at hs
      exact hs.ext hE9
    have hR' := R9.next hk hroom own10 hg10 hfr10 (n := .string (headS c l[k].name)) rfl hob.code hs9 fun g hg => by
      obtain ⟨g1, g2⟩ := own8.blk g hg
      refine ⟨fun e => ?_, Nat.lt_of_lt_of_le g2 hE9.size⟩
      have := (hR.own.blk g e.symm).2
      have := hE4.size
      omega
    simp -implicitDefEqProofs [ir7_k6, h11, i64w (n := (k : Int) + 1) (by omega)]
    exact hK _ _ mv' _ ⟨by simp [h0], by simp [h1], by simp [h7], by simp [h8], by simp [h9]⟩ (by simp) (by simp) hE10 hR'
end Go.L16
/- Layer 16: the law LinkNames, joined. -/
namespace Go.L16
open Go Go.Eng Go.RowKit Go.Proofs
set_option maxRecDepth 100000
set_option maxHeartbeats 2000000

theorem nameByte_of {n : Int} (h : 0 ≤ n ∧ n ≤ 255) : nameByte (UInt8.ofNat (33 + n.toNat % 94)) = true ∧ Value.int .u8 (IntKind.u8.wrap (33 + n.tmod 94)) = encB (UInt8.ofNat (33 + n.toNat % 94)) := by
  have h1 : (UInt8.ofNat (33 + n.toNat % 94)).toNat = 33 + n.toNat % 94 := by simp; omega
  refine ⟨by simp only [nameByte, h1, Bool.and_eq_true, decide_eq_true_eq]; omega, ?_⟩
  rw [encB, h1, Int.tmod_eq_emod_of_nonneg h.1, u8w (by omega)]
  congr 1
  omega

theorem law7 {w : World} {v u : Value} {n : Int} {l : List Obj} {roots : List ByteArray} (hl : SlO w v l) (hr : SlS w u roots) (hn : 0 ≤ n ∧ n ≤ 255) :
    Calls Tryd.prog 7 #[v, u, .int .u8 n] w fun e w' => e = .returned (.bool true) ∧ Ext w w' := by
  refine ir7_calls fun ρ h0 h1 h2 => ?_
  have hbd := hl.bd
  have tail : few l = true → short roots = true → ∀ ρ2 : Env, ρ2 0 = v → ρ2 1 = u → ρ2 2 = .int .u8 n → ir7_k15.wp ⟨Tryd.prog, 139, ir7_V, []⟩ (retK [.tmp 6] fun e w' => e = .returned (.bool true) ∧ Ext w w') (ksOf [.tmp 6] fun e w' => e = .returned (.bool true) ∧ Ext w w') ρ2 w := by
    intro hfew hshort ρ2 h0 h1 h2
    have hl63 : l.length ≤ 63 := by
      simp only [few, Bool.and_eq_true, Bool.or_eq_true, decide_eq_true_eq] at hfew; omega
    have hfo : ∀ o ∈ l, fewO o = true := by
      simp only [few, Bool.and_eq_true, List.all_eq_true] at hfew; exact hfew.1
    have hr62 : roots.length ≤ 62 := by
      simp only [short, Bool.and_eq_true, Bool.or_eq_true, decide_eq_true_eq] at hshort; omega
    have hrs : ∀ s ∈ roots, s.size ≤ 130 := by
      simp only [short, Bool.and_eq_true, List.all_eq_true, decide_eq_true_eq] at hshort; exact hshort.1
    obtain ⟨hc, hcv⟩ := nameByte_of hn
    generalize UInt8.ofNat (33 + n.toNat % 94) = c at hc hcv
    simp -implicitDefEqProofs [ir7_k15, h0, h1]
    refine (lk_Link hl hr).mono ?_
    rintro _ w1 ⟨pa, pb, pc, rfl, hp, hE1, _⟩
    simp -implicitDefEqProofs
    refine eff_var z26 (fun v => by simp) (by simp [Value.cells]) (by simp [Value.cells, isSl_one hp.names.1.is, isSl_one hp.starts.1.is, isSl_one hp.code.is]) sz26 fun B2 W2 hB2 hE2 hb2 _ => ?_
    simp [Value.cells] at hb2
    simp -implicitDefEqProofs [h2, hcv]
    refine eff_lit si24 (by decide) (by decide) (by simp [Value.cells, encB]) fun B3 W3 hB3 hE3 hb3 _ => ?_
    simp [Value.cells, encB] at hb3
    have s3 : Sl encB W3 (.slice (some ⟨B3, 0, none⟩) 1 1) [c] := slLit (by simpa [encB] using hb3) rfl (by simp)
    have x3 := (hE1.trans' hE2).trans' hE3
    simp -implicitDefEqProofs [b2s_of s3]
    refine loopC 11 l.length (fun k ρ' W => Ext W3 W ∧ L7 v u (linkE l roots) c B2 ρ' ∧ ∃ mv rows, ρ' 10 = mv ∧ R7 c l w W3 W k mv rows) (by simp) ⟨ext_refl _, ⟨by simp [h0], by simp [h1], by simp, by simp, by simp⟩, _, [], rfl, by simpa [rowsV] using Own.nil _ _ _ _, rfl, by simp, by simp, by simp, by simp⟩ ?_
    rintro k ρ3 W hk h11 ⟨hEW, hf, mv, rows, h10, hR⟩
    have lW := hl.ext (x3.trans' hEW)
    by_cases hlt : k < l.length
    · simp -implicitDefEqProofs [ir7_l8, h11, hf.h0, lW.is, lW.len, hlt]
      refine law7_k7 (roots := roots) (u := u) (c := c) (B := B2) (mv := mv) x3 hEW ⟨by simp [hf.h0], by simp [hf.h1], by simp [hf.h7], by simp [hf.h8], by simp [hf.h9]⟩ (by simp [h10]) (by simp [h11]) hlt hl63 hl (hfo _ (List.getElem_mem hlt)) hR ?_
      intro ρ' W' mv' rows' hf' h10' h11' hE' hR'
      exact ⟨h11', hE', hf', rows', h10' ▸ hR'⟩
    · have hk' : k = l.length := by omega
      subst hk'
      simp -implicitDefEqProofs [ir7_l8, h11, hf.h0, lW.is, lW.len]
      refine law7_names (v := v) (c := c) (B := B2) (mv := mv) hc x3 hEW ⟨by simp [hf.h0], by simp [hf.h1], by simp [hf.h7], by simp [hf.h8], by simp [hf.h9]⟩ (by simp [h10]) rfl ?_ (hR.objs hl63 (x3.trans' hEW)) (hr.ext x3) hrs hr62 (hb2.ext hE3) ((hp.ext hE2).ext hE3)
      intro o ho
      obtain ⟨i, hi, rfl⟩ := List.getElem_of_mem ho
      exact hR.room i hi hi
  simp -implicitDefEqProofs [ir7, h0, h1]
  refine (law_few hl).mono ?_
  rintro _ _ ⟨rfl, rfl⟩
  by_cases hf : few l = true
  · simp -implicitDefEqProofs [hf, h1]
    refine (law_short hr).mono ?_
    rintro _ _ ⟨rfl, rfl⟩
    by_cases hs : short roots = true
    · simp -implicitDefEqProofs [hs]
      exact tail hf hs _ (by simp [h0]) (by simp [h1]) (by simp [h2])
    · have hs' : short roots = false := by simpa using hs
      simp -implicitDefEqProofs [hs']
      refine law_linked.mono ?_
      rintro _ w2 ⟨rfl, hE2⟩
      simp -implicitDefEqProofs
      exact hE2
  · have hf' : few l = false := by simpa using hf
    simp -implicitDefEqProofs [hf']
    refine law_linked.mono ?_
    rintro _ w2 ⟨rfl, hE2⟩
    simp -implicitDefEqProofs
    exact hE2
end Go.L16
