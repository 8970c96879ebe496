/- Texts of mine for the claims about layer 16 (link), joined: L16p, L16q. -/
import Derived.Test.YtaipjaclgkjhdaaDoorJbh
import Derived.Test.YtaipjaclgkjhdaaDoorJap
set_option linter.all false
set_option linter.unusedSimpArgs false
set_option linter.unusedVariables false
/- Layer 16: contracts of the link package: linked. -/
namespace Go.L16
open Go Go.Eng Go.RowKit Go.Proofs
set_option maxRecDepth 10000

/-- What linked answers: an image whose code is new memory. -/
def LinkedPost (w : World) (l : List Obj) (roots : List ByteArray) (e : Ending) (w' : World) : Prop := ∃ a b c, e = .returned (.tuple #[.agg #[a, b, c], .int .i64 (linkE l roots)]) ∧ ImgC w' a b c (linkI l roots) ∧ Ext w w' ∧
  ∃ base, w.heap.size ≤ base ∧ Own base 5 1 w' c ((linkI l roots).code.map encB)

structure MI (l : List Obj) (R : List ByteArray) (y : Value) (W3 : World) (B4 B Bl k : Nat) (ρ' : Env) (W : World) (sv cv : Value) : Prop where
  h4 : ρ' 4 = .pointer (some ⟨B4, 0, none⟩)
  h6 : ρ' 6 = .map (some Bl)
  h8 : ρ' 8 = y
  h10 : ρ' 10 = .pointer (some ⟨B, 0, none⟩)
  h41 : ρ' 41 = y
  h42 : ρ' 42 = .int .i64 R.length
  gb : W3.grownBy W (some B)
  box : Blk W B #[y, sv, cv] 26
  own : OwnS W3.heap.size W [⟨sv, 3, 1, stV l R k⟩, ⟨cv, 5, 1, (cdL l R k).map encB⟩]

structure MJ (R : List ByteArray) (y r sv cv : Value) (W3 : World) (B4 B Bl k from_ : Nat) (ρ' : Env) (W : World) (xs : List UInt8) (S : List Value) (nr : Nat) : Prop where
  h4 : ρ' 4 = .pointer (some ⟨B4, 0, none⟩)
  h6 : ρ' 6 = .map (some Bl)
  h8 : ρ' 8 = y
  h10 : ρ' 10 = .pointer (some ⟨B, 0, none⟩)
  h41 : ρ' 41 = y
  h42 : ρ' 42 = .int .i64 R.length
  h43 : ρ' 43 = .int .i64 k
  h14 : ρ' 14 = .int .i64 from_
  h66 : ρ' 66 = r
  h67 : ρ' 67 = .int .i64 nr
  gb : W3.grownBy W (some B)
  box : Blk W B #[y, sv, cv] 26
  own : OwnS W3.heap.size W [⟨cv, 5, 1, xs.map encB⟩, ⟨sv, 3, 1, S⟩]

theorem set2 {α : Type} (a b : α) : ∀ (c : List α) (p : Nat), p + 1 < c.length → (c.set p a).set (p + 1) b = c.take p ++ [a, b] ++ c.drop (p + 2)
  | [], _, h => by simp at h
  | [x], p, h => by simp at h
  | x :: y :: c, 0, _ => by simp
  | x :: y :: c, p + 1, h => by
    have := set2 a b (y :: c) p (by simpa using h)
    simp only [List.set_cons_succ, List.take_succ_cons, List.cons_append, this, List.drop_succ_cons]
theorem set2_splice (a b : UInt8) (pre c : List UInt8) (p : Nat) (h : p + 1 < c.length) :
    ((pre ++ c).map encB).take (pre.length + p) ++ [encB a, encB b] ++ ((pre ++ c).map encB).drop (pre.length + p + 2) = (pre ++ (c.set p a).set (p + 1) b).map encB := by
  rw [set2 a b c p h, Nat.add_assoc, ← List.map_take, ← List.map_drop, List.take_length_add_append, List.drop_length_add_append]
  simp

theorem sl_only {α : Type} {enc : α → Value} {W W' : World} {B : Nat} {v : Value} {xs : List α} (h : Sl enc W v xs) (hO : Only B W W') (hn : ∀ i x, W.cell? ⟨B, i, none⟩ ≠ some (enc x)) : Sl enc W' v xs := by
  refine ⟨h.is, h.len, h.bd, fun i hi => ?_⟩
  have hc := h.cell i hi
  rcases isSl_cases h.is with ⟨b, o, n, c, rfl, _⟩ | rfl | ⟨b, o, s, rfl⟩
  rotate_left 2
  · have := h.len; simp [slLen] at this; omega
  · simp only [slAddr] at hc ⊢
    have hne : b ≠ B := by rintro rfl; exact hn _ _ hc
    rw [World.cell?_of_block (hO.block b hne)]
    exact hc
  · have := h.len; simp [slLen] at this; omega

theorem lk_linked {w : World} {v u : Value} {l : List Obj} {roots : List ByteArray} (hl : SlO w v l) (hr : SlS w u roots) :
    Calls Tryd.prog 64 #[v, u] w (LinkedPost w l roots) := by
  refine ir64_calls fun ρ h0 h1 => ?_
  simp [ir64, h0, h1]
  refine eff_alloc z26 fun B4 W4 hB4 hE4 hb4 _ => ?_
  simp [h0, h1]
  refine (lk_opened (hl.ext hE4) (hr.ext hE4)).mono ?_
  rintro _ w1 ⟨x, rfl, hx, hw1⟩
  have hb41 := hb4.ext hw1
  have hE1 := hE4.trans' hw1
  have h4lt := hb41.lt
  by_cases ha : askedE l roots = 0
  · obtain ⟨hok, h60⟩ := asked_ok ha
    obtain ⟨Bl, rfl, _, hL⟩ := hx ha
    simp [ha, ir64_k8, h1]
    refine (lk_reached hL hok (hr.ext hE1) h60).mono ?_
    rintro _ w2 ⟨y, z, rfl, hy, hz, hRR, hw2⟩
    have hE2 := hE1.trans' hw2
    have hb42 := hb41.ext hw2
    obtain ⟨M, hMe⟩ : ∃ M, missingL l roots = M := ⟨_, rfl⟩
    rw [hMe] at hz
    have hzi := hz.1.is
    have hzl := hz.1.len
    by_cases hm : M = []
    · have hf := full_of hok hRR (hMe.trans hm)
      obtain ⟨R, hRe⟩ : ∃ R, reachedL l roots = R := ⟨_, rfl⟩
      rw [hRe] at hy hRR hf
      refine wps_split (by simp [hzi, hzl]; exact ⟨rfl, rfl⟩) ?_
      simp [hm, ir64_k7]
      have bu1 : Tryd.prog.built 26 [(0, y)] = some #[y, .slice none 0 0, .slice none 0 0] := by
        rcases isSl_cases hy.1.is with ⟨b, o, m, c, rfl, _⟩ | rfl | ⟨b, o, s, rfl⟩ <;> kernel_rfl
      simp [bu1]
      have hyo := isSl_one hy.1.is
      refine eff_var z26 (fun v => by simp) (by simp [Value.cells]) (by simp [Value.cells, hyo]) sz26 fun B W3 hB hE3 hb3 hS3 => ?_
      simp [Value.cells] at hb3
      simp [hy.1.is, hy.1.len]
      have hB3 : B < W3.heap.size := hb3.lt
      have hBw2 : w2.heap.size ≤ B := hB
      refine loopC 43 R.length (fun k ρ' W' => ∃ sv cv, MI l R y W3 B4 B Bl k ρ' W' sv cv) (by simp) ⟨_, _, by simp, by simp, by simp, by simp, by simp, by simp, gb_refl _ _, hb3, by simpa [stV, cdL] using OwnS.consNil (OwnS.consNil (l := []) trivial 5 1) 3 1⟩ ?_
      rintro k ρ' W' hk h43 ⟨sv, cv, h4, h6, h8, h10, h41, h42, hgb, hbox, hown⟩
      have hE2' : Ext w2 W' := gb_toExt hgb hE3 hBw2
      have hE0 : Ext w W' := hE2.trans' hE2'
      have hy' := hy.ext hE2'
      by_cases hlt : k < R.length
      · obtain ⟨j, hj, hij, hnj⟩ := hf.found _ (List.getElem_mem hlt)
        have hoc : checkObj l[j] = 0 := hok.ok _ (List.getElem_mem hj)
        have hol := checkObj_len hoc
        have hoa : objAt l R[k] = l[j] := objAt_of hj hij
        have hclen := cdL_len hf k
        have hslen := stV_len (l := l) (R := R) k
        have hRlen := hf.len
        obtain ⟨pl, l1, _, l3⟩ := hL.ex
        obtain ⟨n, c, r, hlk, hob⟩ := l3 j hj hj
        have hmap := (l1.ext hw2).ext hE2'
        rw [hnj] at hlk
        have hnc := hob.code.is
        have hnr := hob.rels.is
        simp [ir64_l5, ir64_k4, h43, h42, hlt, h41, hy'.1.is, hy'.1.len, hy'.1.cell k hlt, h6]
        refine eff_lookup (s := R[k]) (kt := 9) (et := 45) (z := .agg #[.string ⟨#[]⟩, .slice none 0 0, .slice none 0 0]) (by kernel_rfl) (by kernel_rfl) (by kernel_rfl) (by simp) (by simp) hmap false ?_
        simp [hlk]
        refine eff_var z45 (fun v => by simp) (by simp [Value.cells]) (by simp [Value.cells, hob.name, isSl_one hnc, isSl_one hnr]) sz45 fun Bo W5 hBo hE5 hbo _ => ?_
        simp [Value.cells] at hbo
        have hcv := (show Own W3.heap.size 5 1 W' cv ((cdL l R k).map encB) from hown.mem ⟨cv, 5, 1, _⟩ (by simp)).sl (by omega)
        have hbox5 := hbox.ext hE5
        have hcv5 := hcv.ext hE5
        have gb5 := gb_ext hgb hE5
        have own5 := OwnS.consBox hown hE5 hbo hBo hgb.size
        simp [h10, hbox5.cell, hcv5.is, hcv5.len]
        refine eff_lit si23 (by decide) (by decide) (by simp [Value.cells]) fun B6 W6 hB6 hE6 hb6 _ => ?_
        simp [Value.cells] at hb6
        have own6 := own5.ext hE6
        have gb6 := gb_ext gb5 hE6
        simp
        refine eff_appendS ri23 gb6.size (by rfl) (by rfl) (by simpa using own6.swap) (by simpa using hb6.cells (n := 1) (by simp)) (by simp [Value.oneCell']) (by simp; omega) (by simp; omega) fun sv' W7 hB7 own7 => ?_
        have gb7 := gb_trans gb6 hB7
        have hbox7 := (hbox5.ext hE6).below hB7 hB3
        simp [h10]
        refine eff_store1 (B := B) (i := 1) (by simp) hbox7 (by simp) (by simp; exact isSl_cells own7.head.isl) (by simp; exact isSl_one own7.head.isl) sz23 fun W8 hO8 hbox8 => ?_
        simp at hbox8 ⊢
        have own8 := own7.only hO8 hB3
        have gb8 := gb_only gb7 hO8
        have hE8 : Ext w2 W8 := gb_toExt gb8 hE3 hBw2
        have hbo8 := fun i hi => (show Own W3.heap.size 45 3 W8 (.slice (some ⟨Bo, 0, none⟩) 1 1) [n, c, r] from own8.mem ⟨_, 45, 3, _⟩ (by simp)).cellAt i hi
        have ho8 := hob.ext (hw2.trans' hE8)
        have hcv8 := (show Own W3.heap.size 5 1 W8 cv ((cdL l R k).map encB) from own8.mem ⟨cv, 5, 1, _⟩ (by simp)).sl (by omega)
        simp [hbox8.cell, hbo8, h10]
        refine eff_appendS ri24 gb8.size (by rfl) (by rfl) own8.rot3 (by simpa using ho8.code.cells) (one_map (fun _ => rfl) _) (by simp; omega) (by simp; omega) fun cv' W10 hB10 own10 => ?_
        have gb10 := gb_trans gb8 hB10
        have hbox10 := hbox8.below hB10 hB3
        simp [h10]
        refine eff_store1 (B := B) (i := 2) (by simp) hbox10 (by simp) (by simp; exact isSl_cells own10.head.isl) (by simp; exact isSl_one own10.head.isl) sz24 fun W11 hO11 hbox11 => ?_
        simp at hbox11 ⊢
        have own11 := own10.only hO11 hB3
        have gb11 := gb_only gb10 hO11
        have hE11 : Ext w2 W11 := gb_toExt gb11 hE3 hBw2
        have ho11 := hob.ext (hw2.trans' hE11)
        have hbo11 := fun i hi => (show Own W3.heap.size 45 3 W11 (.slice (some ⟨Bo, 0, none⟩) 1 1) [n, c, r] from own11.mem ⟨_, 45, 3, _⟩ (by simp)).cellAt i hi
        simp [hbo11, ho11.rels.is, ho11.rels.len]
        refine loopC 68 l[j].relocs.length (fun q ρ2 W2 => MJ R y r sv' cv' W3 B4 B Bl k (cdL l R k).length ρ2 W2 (cdL l R k ++ (l[j].relocs.take q).foldl (put2 R) l[j].code) (stV l R (k + 1)) l[j].relocs.length) (by simp) ?_ ?_
        · refine ⟨by simp [h4], by simp [h6], by simp [h8], by simp [h10], by simp [h41], by simp [h42], by simp [h43], by simp, by simp, by simp, gb11, hbox11, ?_⟩
          rw [stV_succ hlt]
          have := own11.perm (List.Perm.cons _ (List.Perm.swap _ _ _))
          simpa using this.second
        · rintro q ρ2 W2 hq h68 ⟨h4, h6, h8, h10, h41, h42, h43, h14, h66, h67, gb, box, own⟩
          have hE2q : Ext w2 W2 := gb_toExt gb hE3 hBw2
          have hr2 := (hob.ext (hw2.trans' hE2q)).rels
          by_cases hqlt : q < l[j].relocs.length
          · obtain ⟨hp0, hp1, _⟩ := rel_ok hoc hqlt
            have hmem := hf.closed _ (List.getElem_mem hlt) l[j].relocs[q] (by rw [hoa]; exact List.getElem_mem hqlt)
            obtain ⟨p0, hpe⟩ : ∃ p0 : Nat, l[j].relocs[q].pos = p0 := ⟨l[j].relocs[q].pos.toNat, by omega⟩
            rw [hpe] at hp1
            simp at hp1
            have hcl := hob.code.bd
            simp [ir64_l2, ir64_k1, h68, h67, h66, hqlt, hr2.is, hr2.len, hr2.pos q hqlt, hr2.name q hqlt]
            refine eff_var z54 (fun v => by simp) (by simp [Value.cells]) (by simp [Value.cells]) sz54 fun Br W5 hBr hE5 hbr _ => ?_
            simp [Value.cells] at hbr
            have box5 := box.ext hE5
            have own5 := own.ext hE5
            have gb5 := gb_ext gb hE5
            simp [hbr.cell, h8]
            refine (lk_search l[j].relocs[q].name (hy.ext (hE2q.trans' hE5)).1 hf.asc).mono ?_
            rintro _ _ ⟨x0, rfl, hx0, rfl⟩
            have hx0 := hx0 hmem
            have hul : ((l[j].relocs.take q).foldl (put2 R) l[j].code).length = l[j].code.length := foldl_put2_len R _ _
            have huv := own5.head.sl (enc := encB) (xs := cdL l R k ++ (l[j].relocs.take q).foldl (put2 R) l[j].code) (by simp [hul]; omega)
            have hx60 : x0 < 60 := by
              obtain ⟨x1, hx1, hx1i⟩ := idx_lt hmem
              omega
            simp [h10, box5.cell, h14, hbr.cell, hpe, i64w (n := ((cdL l R k).length : Int) + p0) (by omega), huv.is, huv.len, hul, (show (0 : Int) ≤ ((cdL l R k).length : Int) + p0 by omega), (show p0 ≤ l[j].code.length by omega), shr8, u8nat]
            have e1 : Value.int .u8 (IntKind.u8.wrap ((x0 : Int) / 256)) = encB (UInt8.ofNat (x0 / 256)) := by rw [← u8nat]; simp
            have ce : ∀ b, (encB b).cells = #[encB b] := fun _ => rfl
            simp only [e1]
            refine eff_lit si24 (by decide) (by decide) (by simp [ce]) fun B6 W6 hB6 hE6 hb6 _ => ?_
            simp [ce] at hb6
            have own6 := own5.ext hE6
            have gb6 := gb_ext gb5 hE6
            have hcl6 : Cells W6 (.slice (some ⟨B6, 0, none⟩) 2 2) 1 [encB (UInt8.ofNat (x0 / 256)), encB (UInt8.ofNat x0)] := by
              exact hb6.cells (n := 2) (sz := 1) (by simp)
            simp
            refine eff_copyS (sv := cv') (i := (cdL l R k).length + p0) ri24 gb6.size (by simp [huv.len, hul]; congr 1) (by rfl) own6 hcl6 (by simp) (by simp [encB, Value.oneCell']) (by simp [hul]; omega) fun W7 hB7 own7 => ?_
            have gb7 := gb_trans gb6 hB7
            simp [ir64_k0, h68, i64w (n := (q : Int) + 1) (by omega)]
            refine ⟨by simp [h4], by simp [h6], by simp [h8], by simp [h10], by simp [h41], by simp [h42], by simp [h43], by simp [h14], by simp [h66], by simp [h67], gb7, (box5.ext hE6).below hB7 hB3, ?_⟩
            have hput : (l[j].relocs.take (q + 1)).foldl (put2 R) l[j].code = (((l[j].relocs.take q).foldl (put2 R) l[j].code).set p0 (UInt8.ofNat (x0 / 256))).set (p0 + 1) (UInt8.ofNat x0) := by
              rw [List.take_succ_eq_append_getElem hqlt, List.foldl_append]
              simp [put2, hpe, hx0]
            have hsp := set2_splice (UInt8.ofNat (x0 / 256)) (UInt8.ofNat x0) (cdL l R k) ((l[j].relocs.take q).foldl (put2 R) l[j].code) p0 (by rw [hul]; omega)
            rw [hput, ← hsp]
            simpa using own7
          · have hq' : q = l[j].relocs.length := by omega
            subst hq'
            simp [ir64_l2, h68, h67, ir64_k3, h43, i64w (n := (k : Int) + 1) (by omega)]
            rw [List.take_length] at own
            refine ⟨sv', cv', by simp [h4], by simp [h6], by simp [h8], by simp [h10], by simp [h41], by simp [h42], gb, box, ?_⟩
            rw [cdL_succ hlt, hoa]
            exact own.swap
      · have hk' : k = R.length := by omega
        subst hk'
        have hclen := cdL_len hf R.length
        have hRlen := hf.len
        have h1c : (imgOf l R).code = cdL l R R.length := by simp only [imgOf, cdL]; rw [List.take_of_length_le (by simp [codesOf])]
        have h1s : (startsOf l R).length = R.length := by simp [startsOf]
        have h2s : stV l R R.length = (startsOf l R).map Eng.encI := by simp only [stV]; rw [List.take_of_length_le (by omega)]
        have key : ∀ W5, OwnS W3.heap.size W5 [⟨sv, 3, 1, stV l R R.length⟩, ⟨cv, 5, 1, (cdL l R R.length).map encB⟩] → Sl encB W5 cv (imgOf l R).code ∧ SlI W5 sv (imgOf l R).starts ∧ Own W3.heap.size 5 1 W5 cv ((imgOf l R).code.map encB) := by
          intro W5 hown
          have hc : Own W3.heap.size 5 1 W5 cv ((imgOf l R).code.map encB) := by
            rw [h1c]
            exact (show Own W3.heap.size 5 1 W5 cv ((cdL l R R.length).map encB) from hown.mem ⟨cv, 5, 1, _⟩ (by simp))
          refine ⟨hc.sl (by rw [h1c]; omega), ⟨?_, fun n hn => ?_⟩, hc⟩
          · have := hown.head
            simp only [h2s] at this
            exact this.sl (by omega)
          · simp only [imgOf, startsOf, List.mem_map, List.mem_range] at hn
            obtain ⟨k, hk, rfl⟩ := hn
            have := codes_len hf k
            omega
        obtain ⟨hcs, hss, _⟩ := key W' hown
        have h4B : B4 < W3.heap.size := by have := hw2.size; have := hE3.size; omega
        simp [ir64_l5, h43, h42, ir64_k6, h10, hbox.cell]
        have hb4' := hb42.ext hE2'
        refine eff_storeN (by simp [h4]) hb4' (by simp [Value.cells]) (by simp [Value.cells, isSl_one hcs.is, isSl_one hss.1.is, isSl_one hy.1.is]) sz26 fun W5 hO5 hb5 => ?_
        simp [Value.cells] at hb5 ⊢
        refine retK_cN (by simp [h4]) hb5 rfl ?_
        simp
        have hle : linkE l roots = 0 := by simp [linkE, ha, hMe, hm]
        have hli : linkI l roots = imgOf l R := by simp [linkI, hle, hRe]
        obtain ⟨hcs5, hss5, hc5⟩ := key W5 (hown.only hO5 h4B)
        refine ⟨_, _, _, by rw [hle], ?_, hO5.ext hE0 hB4, W3.heap.size, (hE2.trans' hE3).size, by rw [hli]; exact hc5⟩
        rw [hli]
        refine ⟨⟨sl_only hy'.1 hO5 fun i x => ?_, hy'.2⟩, hss5, hcs5⟩
        rw [hb4'.cell]
        match i with
        | 0 => simp
        | 1 => simp
        | 2 => simp
        | i + 3 => simp
    · have hlen : 0 < M.length := List.length_pos_iff.2 hm
      refine wps_split (by simp [hzi, hzl]; exact ⟨rfl, rfl⟩) ?_
      simp [hlen, bu26]
      refine eff_storeN (by simp) hb42 (by simp [Value.cells]) (by simp [Value.cells]) sz26 fun W5 hO5 hb5 => ?_
      simp [Value.cells] at hb5 ⊢
      refine retK_cN (by simp) hb5 rfl ?_
      have hli : linkE l roots = 160 := by simp [linkE, ha, hMe, hm]
      simp [LinkedPost]
      refine ⟨_, _, _, ⟨⟨rfl, rfl, rfl⟩, hli.symm⟩, ?_, hO5.ext hE2 hB4, w.heap.size, Nat.le_refl _, ?_⟩
      · simp [linkI, hli, emptyI]
        exact ⟨⟨Sl.nil _ _, by simp⟩, ⟨Sl.nil _ _, by simp⟩, Sl.nil _ _⟩
      · simp [linkI, hli, emptyI]
        exact Own.nil _ _ _ _
  · simp [ha, bu26]
    refine eff_storeN (by simp) hb41 (by simp [Value.cells]) (by simp [Value.cells]) sz26 fun W5 hO5 hb5 => ?_
    simp [Value.cells] at hb5 ⊢
    refine retK_cN (by simp) hb5 rfl ?_
    have hli : linkE l roots = askedE l roots := by simp [linkE, ha]
    simp [LinkedPost]
    refine ⟨_, _, _, ⟨⟨rfl, rfl, rfl⟩, hli.symm⟩, ?_, hO5.ext hE1 hB4, w.heap.size, Nat.le_refl _, ?_⟩
    · simp [linkI, hli, ha, emptyI]
      exact ⟨⟨Sl.nil _ _, by simp⟩, ⟨Sl.nil _ _, by simp⟩, Sl.nil _ _⟩
    · simp [linkI, hli, ha, emptyI]
      exact Own.nil _ _ _ _
end Go.L16
/- Layer 16: contracts of the link package: Link, CheckLink, Without. -/
namespace Go.L16
open Go Go.Eng Go.RowKit Go.Proofs
set_option maxRecDepth 100000
theorem ImgC.only0 {W W' : World} {B : Nat} {a b c : Value} {i : Img} (h : ImgC W a b c i) (hb : Blk W B #[.slice none 0 0, .slice none 0 0, .slice none 0 0] 26) (hO : Only B W W') : ImgC W' a b c i := by
  have key : ∀ (v : Value), (∀ n c, v ≠ .slice none n c) → ∀ i, W.cell? ⟨B, i, none⟩ ≠ some v := by
    intro v hv i
    rw [hb.cell]
    match i with
    | 0 => simpa using fun e => hv 0 0 e.symm
    | 1 => simpa using fun e => hv 0 0 e.symm
    | 2 => simpa using fun e => hv 0 0 e.symm
    | i + 3 => simp
  exact ⟨⟨sl_only h.names.1 hO fun i x => key _ (by simp) i, h.names.2⟩, ⟨sl_only h.starts.1 hO fun i x => key _ (by simp [Eng.encI]) i, h.starts.2⟩, sl_only h.code hO fun i x => key _ (by simp [encB]) i⟩

theorem lk_Link {w : World} {v u : Value} {l : List Obj} {roots : List ByteArray} (hl : SlO w v l) (hr : SlS w u roots) :
    Calls Tryd.prog 29 #[v, u] w (LinkedPost w l roots) := by
  refine ir29_calls fun ρ h0 h1 => ?_
  simp [ir29, h0, h1]
  refine eff_alloc z26 fun B W hB hE hb _ => ?_
  simp [h0, h1]
  refine (lk_linked (hl.ext hE) (hr.ext hE)).mono ?_
  rintro _ w1 ⟨a, b, c, rfl, hI, hw1, base, hbase, hO⟩
  have hb1 := hb.ext hw1
  simp
  refine eff_storeN (by simp) hb1 (by simp [Value.cells]) (by simp [Value.cells, isSl_one hI.names.1.is, isSl_one hI.starts.1.is, isSl_one hI.code.is]) sz26 fun W5 hO5 hb5 => ?_
  simp [Value.cells] at hb5 ⊢
  refine retK_cN (by simp) hb5 rfl ?_
  simp
  have hlt := hb.lt
  exact ⟨a, b, c, rfl, hI.only0 hb1 hO5, hO5.ext (hE.trans' hw1) hB, base, by have := hE.size; omega, hO.only hO5 (by omega)⟩

theorem asked_ne (l : List Obj) (roots : List ByteArray) : askedE l roots ≠ 160 := by
  have hb : ∀ i, badO l i ≠ 160 := by
    intro i
    unfold badO
    split
    · decide
    · split <;> decide
  have hc : (checkAll l).2 ≠ 160 := by
    unfold checkAll
    split
    · decide
    · split
      · exact hb _
      · decide
  unfold askedE
  split
  · decide
  · exact hc

theorem lk_CheckLink {w : World} {v u a b c : Value} {l : List Obj} {roots : List ByteArray} {i : Img} (hl : SlO w v l) (hr : SlS w u roots) (hi : ImgC w a b c i) :
    Calls Tryd.prog 47 #[v, u, .agg #[a, b, c]] w fun e w' => e = .returned (.tuple #[.bool (checkLinkB l roots i), .int .i64 (askedE l roots)]) ∧ Ext w w' := by
  refine ir47_calls fun ρ h0 h1 h2 => ?_
  simp [ir47, h0, h1, h2]
  refine eff_box fun B W hB hE hb _ => ?_
  simp [h2, Value.cells] at hb
  simp [h0, h1]
  refine (lk_linked (hl.ext hE) (hr.ext hE)).mono ?_
  rintro _ w1 ⟨x, y, z, rfl, hI, hw1, _⟩
  simp
  refine eff_var z26 (fun v => by simp) (by simp [Value.cells]) (by simp [Value.cells, isSl_one hI.names.1.is, isSl_one hI.starts.1.is, isSl_one hI.code.is]) sz26 fun B3 W3 hB3 hE3 hb3 _ => ?_
  simp [Value.cells] at hb3
  have hE0 := (hE.trans' hw1).trans' hE3
  have hi3 := hi.ext hE0
  have hI3 := hI.ext hE3
  have hbB := (hb.ext hw1).ext hE3
  have hne := asked_ne l roots
  simp
  by_cases ha : askedE l roots = 0
  · by_cases hm : linkE l roots = 0
    · simp [hm, ir47_k1, ir47_k0, hb3.cell, hbB.cell]
      refine (lk_eqS hI3.names.1 hi3.names.1).mono ?_
      rintro _ w4 ⟨rfl, hw4⟩
      by_cases hn : (linkI l roots).names = i.names
      · simp [hn, (hb3.ext hw4).cell, (hbB.ext hw4).cell]
        refine (lk_eqI (hI3.starts.1.ext hw4) (hi3.starts.1.ext hw4)).mono ?_
        rintro _ w5 ⟨rfl, hw5⟩
        have hw45 := hw4.trans' hw5
        by_cases hs : (linkI l roots).starts = i.starts
        · simp [hs, (hb3.ext hw45).cell, (hbB.ext hw45).cell]
          refine (lk_eqB (hI3.code.ext hw45) (hi3.code.ext hw45)).mono ?_
          rintro _ w6 ⟨rfl, rfl⟩
          simp [checkLinkB, ha, hm]
          refine ⟨?_, hE0.trans' hw45⟩
          generalize linkI l roots = I at *
          cases I; cases i; simp_all
        · simp [hs, checkLinkB, ha, hm]
          exact ⟨fun e => hs (by rw [e]), hE0.trans' hw45⟩
      · simp [hn, checkLinkB, ha, hm]
        exact ⟨fun e => hn (by rw [e]), hE0.trans' hw4⟩
    · have h160 : linkE l roots = 160 := by
        unfold linkE at hm ⊢
        rw [if_pos ha] at hm ⊢
        split at hm
        · exact absurd rfl hm
        · rename_i h; rw [if_neg h]
      simp [h160, checkLinkB, ha]
      exact hE0
  · have he : linkE l roots = askedE l roots := by simp [linkE, ha]
    simp [he, ha, hne, ir47_k1, checkLinkB]
    exact hE0
end Go.L16
