/- Layer 16, plainly: reading and writing images are inverse. -/
import Derived.Test.YtaipjaclgkjhdaaDoorJbn
set_option linter.all false
set_option linter.unusedSimpArgs false
set_option linter.unusedVariables false
namespace Go.L16
open Go Go.Eng Go.RowKit Go.Proofs
set_option maxRecDepth 100000

def encL (ps : List (ByteArray × Int)) : List UInt8 := ps.flatMap fun p => entryL p.1 p.2
theorem ofNat_small {n : Nat} (h : n ≤ 255) : (UInt8.ofNat n).toNat = n := by simp; omega
theorem be4_be32 (n : Nat) (h : n < 4294967296) (r : List UInt8) : be4 (be32 n ++ r) = n := by
  simp [be4, be32]; omega
theorem be32_be4 : ∀ (l : List UInt8), 4 ≤ l.length → be32 (be4 l) = l.take 4
  | a :: b :: c :: d :: r, _ => by
    have ha := a.toNat_lt; have hb := b.toNat_lt; have hc := c.toNat_lt; have hd := d.toNat_lt
    simp only [be4, be32, List.getD_cons_zero, List.getD_cons_succ, List.take_succ_cons, List.take_zero]
    have e : ∀ (m : Nat) (x : UInt8), m % 256 = x.toNat → UInt8.ofNat m = x := fun m x h => UInt8.toNat_inj.1 (by simpa using h)
    rw [e _ a (by omega), e _ b (by omega), e _ c (by omega), e _ d (by omega)]

theorem readGo_enc : ∀ (ps : List (ByteArray × Int)) (rest : List UInt8), (∀ p ∈ ps, p.1.size ≤ 255 ∧ 0 ≤ p.2 ∧ p.2 < 4294967296) → readGo ps.length (encL ps ++ rest) = some (ps, rest)
  | [], rest, _ => by simp [readGo, encL]
  | (s, n) :: ps, rest, h => by
    obtain ⟨h1, h2, h3⟩ := h (s, n) (by simp)
    have ih := readGo_enc ps rest fun p hp => h p (by simp [hp])
    obtain ⟨m, rfl⟩ : ∃ m : Nat, n = m := ⟨n.toNat, by omega⟩
    have e : encL ((s, (m : Int)) :: ps) ++ rest = UInt8.ofNat s.size :: (s.data.toList ++ (be32 m ++ (encL ps ++ rest))) := by simp [encL, entryL]
    have hl : s.data.toList.length = s.size := by simp
    have hz := ofNat_small h1
    have h4 : (be32 m).length = 4 := by simp [be32]
    rw [e, List.length_cons, readGo, hz, if_neg (by simp [h4]), ← hl, List.drop_left, List.take_left, be4_be32 m (by omega), show List.drop 4 (be32 m ++ (encL ps ++ rest)) = encL ps ++ rest by rw [← h4, List.drop_left], ih]
    simp [mkS_toList]
theorem readGo_spec : ∀ (n : Nat) (b : List UInt8) (ps : List (ByteArray × Int)) (rest : List UInt8), readGo n b = some (ps, rest) → ps.length = n ∧ b = encL ps ++ rest
  | 0, b, ps, rest, h => by simp [readGo] at h; obtain ⟨rfl, rfl⟩ := h; simp [encL]
  | n + 1, [], ps, rest, h => by simp [readGo] at h
  | n + 1, z :: r, ps, rest, h => by
    rw [readGo] at h
    split at h
    · cases h
    · rename_i hlen
      obtain ⟨⟨ps', rest'⟩, hp, he⟩ := Option.map_eq_some_iff.1 h
      simp only [Prod.mk.injEq] at he
      obtain ⟨rfl, rfl⟩ := he
      obtain ⟨h1, h2⟩ := readGo_spec n _ _ _ hp
      refine ⟨by simp [h1], ?_⟩
      have hz := z.toNat_lt
      have hsz : (mkS (r.take z.toNat)).size = z.toNat := by rw [mkS_size, List.length_take]; omega
      have e1 : UInt8.ofNat z.toNat = z := by simp
      have e2 := be32_be4 (r.drop z.toNat) (by simp; omega)
      have e3 : (mkS (r.take z.toNat)).data.toList = r.take z.toNat := by simp [mkS]
      have e4 : encL ((mkS (r.take z.toNat), (be4 (r.drop z.toNat) : Int)) :: ps') = entryL (mkS (r.take z.toNat)) (be4 (r.drop z.toNat)) ++ encL ps' := rfl
      rw [e4, entryL, hsz, e1, e3, Int.toNat_natCast, e2]
      simp only [List.cons_append, List.append_assoc]
      rw [← h2, List.take_append_drop, List.take_append_drop]

theorem headL_enc {i : Img} (h : i.starts.length = i.names.length) : headL i i.names.length = UInt8.ofNat i.names.length :: encL (i.names.zip i.starts) := by
  have : (List.range i.names.length).map (fun j => (i.names.getD j .empty, i.starts.getD j 0)) = i.names.zip i.starts := by
    apply List.ext_getElem
    · simp [h]
    · intro j h1 h2
      simp at h1
      simp [h1, show j < i.starts.length by omega]
  rw [headL, encL, ← this, List.flatMap_map]
theorem read_write {i : Img} (h : checkImage i = 0) : readI (writeL i) = some i := by
  have hok := imgOk_of h
  have hl := hok.starts
  have hcode := hok.code
  rw [writeL, if_pos h, headL_enc hl, List.cons_append, readI, ofNat_small (by have := hok.len; omega)]
  have hz : (i.names.zip i.starts).length = i.names.length := by simp [hl]
  have hgo := readGo_enc (i.names.zip i.starts) i.code fun p hp => by
    obtain ⟨k, hk, rfl⟩ := List.getElem_of_mem hp
    simp at hk ⊢
    have h1 := isName_size (hok.name k (by omega))
    have h2 := hok.top k (by omega)
    have h3 := hok.nonneg k (by omega)
    omega
  rw [hz] at hgo
  rw [hgo]
  have e1 : (i.names.zip i.starts).map (·.1) = i.names := by rw [List.map_fst_zip]; omega
  have e2 : (i.names.zip i.starts).map (·.2) = i.starts := by rw [List.map_snd_zip]; omega
  simp [e1, e2, h]
theorem write_read {b : List UInt8} {i : Img} (h : readI b = some i) : checkImage i = 0 ∧ writeL i = b := by
  cases b with
  | nil => cases h
  | cons z r =>
    simp only [readI, Option.bind_eq_some_iff] at h
    obtain ⟨⟨ps, rest⟩, hgo, h⟩ := h
    split at h
    · rename_i hc
      cases h
      obtain ⟨h1, h2⟩ := readGo_spec _ _ _ _ hgo
      refine ⟨hc, ?_⟩
      have hzip : (ps.map (·.1)).zip (ps.map (·.2)) = ps := by
        clear hc hgo h1 h2
        induction ps with
        | nil => rfl
        | cons p ps ih => simp [ih]
      rw [writeL, if_pos hc, headL_enc (by simp), hzip, List.cons_append, ← h2]
      simp [h1]
    · cases h

theorem law4_k1 {w0 w : World} {ρ : Env} {B5 : Nat} {v pa pb pc : Value} {bs : List UInt8} (hE : Ext w0 w) (h1 : ρ 1 = v) (h9 : ρ 9 = .pointer (some ⟨B5, 0, none⟩)) (h10 : ρ 10 = .int .i64 (readE bs)) (hb : Sl encB w v bs) (hb5 : Blk w B5 #[pa, pb, pc] 26) (hp : ImgC w pa pb pc (readL bs)) :
    ir4_k1.wp ⟨Tryd.prog, 97, ir4_V, []⟩ (retK [.tmp 4] fun e w' => e = .returned (.bool true) ∧ Ext w0 w') (ksOf [.tmp 4] fun e w' => e = .returned (.bool true) ∧ Ext w0 w') ρ w := by
  simp -implicitDefEqProofs [ir4_k1, h10]
  by_cases hr : readE bs = 0
  · obtain ⟨i, hi⟩ : ∃ i, readI bs = some i := by
      unfold readE at hr
      split at hr
      · rename_i h; exact Option.isSome_iff_exists.1 h
      · cases hr
    obtain ⟨hc, hw⟩ := write_read hi
    have hl : readL bs = i := by simp [readL, hi]
    rw [hl] at hp
    simp -implicitDefEqProofs [hr, h9, hb5.cell]
    refine (lk_Write hp).mono ?_
    rintro _ w2 ⟨x, rfl, hx, hE2⟩
    rw [hw] at hx
    simp -implicitDefEqProofs [hc, h1]
    refine (ref_SameBytes hx (hb.ext hE2)).mono ?_
    rintro _ _ ⟨rfl, rfl⟩
    simp -implicitDefEqProofs [ir4_k0]
    refine (qlinked (hE.trans' hE2)).mono ?_
    rintro _ w3 ⟨rfl, hE3⟩
    simp -implicitDefEqProofs
    exact hE3
  · simp -implicitDefEqProofs [hr, ir4_k0]
    refine (qlinked hE).mono ?_
    rintro _ w3 ⟨rfl, hE3⟩
    simp -implicitDefEqProofs
    exact hE3

theorem law4 {w : World} {a b c v : Value} {i : Img} {bs : List UInt8} (hi : ImgC w a b c i) (hb : Sl encB w v bs) :
    Calls Tryd.prog 4 #[.agg #[a, b, c], v] w fun e w' => e = .returned (.bool true) ∧ Ext w w' := by
  refine ir4_calls fun ρ h0 h1 => ?_
  simp -implicitDefEqProofs [ir4, h0, h1]
  refine eff_box fun B W hB hE hbx _ => ?_
  simp [h0, Value.cells] at hbx
  simp -implicitDefEqProofs [hbx.cell]
  refine (law_small (hi.ext hE)).mono ?_
  rintro _ w1 ⟨rfl, hE1⟩
  have b1 := hbx.ext hE1
  have i1 := (hi.ext hE).ext hE1
  have x1 := hE.trans' hE1
  simp -implicitDefEqProofs [h1, hb.is, hb.len]
  split
  · refine (qlinked x1).mono ?_
    rintro _ w2 ⟨rfl, hE2⟩
    simp -implicitDefEqProofs
    exact hE2
  · rename_i hsm
    have hlen : bs.length ≤ 1500 := by omega
    simp -implicitDefEqProofs [ir4_k3, h1, b1.cell]
    refine (lk_Write i1).mono ?_
    rintro _ w2 ⟨x, rfl, hx, hE2⟩
    have x2 := x1.trans' hE2
    simp -implicitDefEqProofs [h1, (b1.ext hE2).cell]
    refine (ref_Write (i1.ext hE2)).mono ?_
    rintro _ w3 ⟨y, rfl, hy, hE3⟩
    have x3 := x2.trans' hE3
    have b3 := (b1.ext hE2).ext hE3
    have i3 := (i1.ext hE2).ext hE3
    simp -implicitDefEqProofs [h1]
    refine (lk_Read (hb.ext x3) (by omega)).mono ?_
    rintro _ w4 ⟨pa, pb, pc, rfl, hp, hE4⟩
    have x4 := x3.trans' hE4
    simp -implicitDefEqProofs
    refine eff_var z26 (fun v => by simp) (by simp [Value.cells]) (by simp [Value.cells, isSl_one hp.names.1.is, isSl_one hp.starts.1.is, isSl_one hp.code.is]) sz26 fun B5 W5 hB5 hE5 hb5 _ => ?_
    simp [Value.cells] at hb5
    have x5 := x4.trans' hE5
    simp -implicitDefEqProofs [h1]
    refine (ref_Read (hb.ext x5) (by omega)).mono ?_
    rintro _ w6 ⟨qa, qb, qc, rfl, hq, hE6⟩
    have x6 := x5.trans' hE6
    simp -implicitDefEqProofs
    refine eff_var z26 (fun v => by simp) (by simp [Value.cells]) (by simp [Value.cells, isSl_one hq.names.1.is, isSl_one hq.starts.1.is, isSl_one hq.code.is]) sz26 fun B7 W7 hB7 hE7 hb7 _ => ?_
    simp [Value.cells] at hb7
    have x7 := x6.trans' hE7
    have z7 := ((hE4.trans' hE5).trans' hE6).trans' hE7
    simp -implicitDefEqProofs
    refine (ref_SameBytes ((hx.ext hE3).ext z7) (hy.ext z7)).mono ?_
    rintro _ _ ⟨rfl, rfl⟩
    simp -implicitDefEqProofs [((hb5.ext hE6).ext hE7).cell, hb7.cell]
    refine (ref_Same (((hp.ext hE5).ext hE6).ext hE7) (hq.ext hE7)).mono ?_
    rintro _ w8 ⟨rfl, hE8⟩
    have x8 := x7.trans' hE8
    simp -implicitDefEqProofs [ir4_k2]
    have c3 : Ext w3 w8 := z7.trans' hE8
    have hb8 : Blk w8 B5 #[pa, pb, pc] 26 := ((hb5.ext hE6).ext hE7).ext hE8
    have hp8 : ImgC w8 pa pb pc (readL bs) := (((hp.ext hE5).ext hE6).ext hE7).ext hE8
    by_cases hc : checkImage i = 0
    · have hrw := read_write hc
      have hre : readE (writeL i) = 0 := by simp [readE, hrw]
      have hrl : readL (writeL i) = i := by simp [readL, hrw]
      have hwl : (writeL i).length ≤ 1000000 := by
        have hok := imgOk_of hc
        have h2 := headL_len hok i.names.length (Nat.le_refl _)
        have h3 := hok.len
        have h4 : i.code.length ≤ 800 := by
          have : small i = true := by by_cases h : small i = true; exact h; exact absurd (Or.inl (by simpa using h)) hsm
          simp [small] at this
          exact this.2
        rw [writeL, if_pos hc, List.length_append]
        omega
      simp -implicitDefEqProofs [hc]
      refine (lk_Read ((hx.ext hE3).ext c3) hwl).mono ?_
      rintro _ w9 ⟨ra, rb, rc, rfl, hr, hE9⟩
      rw [hre]
      rw [hrl] at hr
      simp -implicitDefEqProofs
      refine eff_var z26 (fun v => by simp) (by simp [Value.cells]) (by simp [Value.cells, isSl_one hr.names.1.is, isSl_one hr.starts.1.is, isSl_one hr.code.is]) sz26 fun B10 W10 hB10 hE10 hb10 _ => ?_
      simp [Value.cells] at hb10
      have c10 := (c3.trans' hE9).trans' hE10
      simp -implicitDefEqProofs [hb10.cell, (b3.ext c10).cell]
      refine (ref_Same (hr.ext hE10) (i3.ext c10)).mono ?_
      rintro _ w11 ⟨rfl, hE11⟩
      have e11 : Ext w8 w11 := (hE9.trans' hE10).trans' hE11
      simp -implicitDefEqProofs
      exact law4_k1 (x8.trans' e11) (by simp [h1]) (by simp) (by simp) (hb.ext (x8.trans' e11)) (hb8.ext e11) (hp8.ext e11)
    · simp -implicitDefEqProofs [hc]
      exact law4_k1 x8 (by simp [h1]) (by simp) (by simp) (hb.ext x8) hb8 hp8
end Go.L16
