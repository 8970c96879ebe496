/- Texts of mine for the claims about layer 16 (link), joined: L16M, L16Q. -/
import Derived.Test.YtaipjaclgkjhdaaDoorJay
import Derived.Test.YtaipjaclgkjhdaaDoorJaz
set_option linter.all false
set_option linter.unusedSimpArgs false
set_option linter.unusedVariables false
/- Layer 16: contracts of the reference: Link. -/
namespace Go.L16
open Go Go.Eng Go.RowKit Go.Proofs
set_option maxRecDepth 10000
def stV (l : List Obj) (R : List ByteArray) (k : Nat) : List Value := ((startsOf l R).take k).map encI
def cdL (l : List Obj) (R : List ByteArray) (k : Nat) : List UInt8 := ((codesOf l R).take k).flatten
/-- Where the outer loop stands. -/
structure LI (l : List Obj) (R : List ByteArray) (v x : Value) (w2 : World) (B4 B k : Nat) (ρ' : Env) (W : World) (sv cv : Value) : Prop where
  h0 : ρ' 0 = v
  h4 : ρ' 4 = .pointer (some ⟨B4, 0, none⟩)
  h8 : ρ' 8 = .pointer (some ⟨B, 0, none⟩)
  gb : w2.grownBy W (some B)
  b4 : Blk W B4 #[.slice none 0 0, .slice none 0 0, .slice none 0 0] 26
  box : Blk W B #[x, sv, cv] 26
  own : OwnS w2.heap.size W [⟨sv, 3, 1, stV l R k⟩, ⟨cv, 5, 1, (cdL l R k).map encB⟩]

/-- Where the inner loop stands. -/
structure LJ (v x uv sv cv : Value) (w2 : World) (B4 B Bo k : Nat) (ρ' : Env) (W : World) (bs : List UInt8) (S N C : List Value) : Prop where
  h0 : ρ' 0 = v
  h4 : ρ' 4 = .pointer (some ⟨B4, 0, none⟩)
  h8 : ρ' 8 = .pointer (some ⟨B, 0, none⟩)
  h9 : ρ' 9 = .int .i64 k
  h10 : ρ' 10 = .pointer (some ⟨Bo, 0, none⟩)
  h11 : ρ' 11 = uv
  gb : w2.grownBy W (some B)
  b4 : Blk W B4 #[.slice none 0 0, .slice none 0 0, .slice none 0 0] 26
  box : Blk W B #[x, sv, cv] 26
  own : OwnS w2.heap.size W [⟨uv, 5, 1, bs.map encB⟩, ⟨sv, 3, 1, S⟩, ⟨.slice (some ⟨Bo, 0, none⟩) 1 1, 45, 3, N⟩, ⟨cv, 5, 1, C⟩]

theorem stV_succ {l : List Obj} {R : List ByteArray} {k : Nat} (h : k < R.length) : stV l R (k + 1) = stV l R k ++ [.int .i64 ((cdL l R k).length : Nat)] := by
  unfold stV
  rw [List.take_succ_eq_append_getElem (by simpa [startsOf] using h)]
  simp [startsOf, encI, cdL]
theorem cdL_succ {l : List Obj} {R : List ByteArray} {k : Nat} (h : k < R.length) : cdL l R (k + 1) = cdL l R k ++ codeOf R (objAt l R[k]) := by
  unfold cdL
  rw [List.take_succ_eq_append_getElem (by simpa [codesOf] using h)]
  simp [codesOf]
theorem stV_len {l : List Obj} {R : List ByteArray} (k : Nat) : (stV l R k).length ≤ k := by simp [stV]; omega
theorem cdL_len {l : List Obj} {R : List ByteArray} (h : Full l R) (k : Nat) : (cdL l R k).length ≤ k * 20000 := codes_len h k

def LinkPost (w : World) (l : List Obj) (roots : List ByteArray) (e : Ending) (w' : World) : Prop := ∃ a b c, e = .returned (.tuple #[.agg #[a, b, c], .int .i64 (linkE l roots)]) ∧ ImgC w' a b c (linkI l roots) ∧ (askedE l roots = 0 → IsReached l roots (reachedL l roots)) ∧ Ext w w'

theorem ref_Link {w : World} {v u : Value} {l : List Obj} {roots : List ByteArray} (hl : SlO w v l) (hr : SlS w u roots) :
    Calls Tryd.prog 33 #[v, u] w (LinkPost w l roots) := by
  refine ir33_calls fun ρ h0 h1 => ?_
  simp [ir33, h0, h1]
  refine eff_alloc z26 fun B4 W4 hB4 hE4 hb4 _ => ?_
  simp [h0, h1]
  refine (ref_Missing (hl.ext hE4) (hr.ext hE4)).mono ?_
  rintro _ w1 ⟨x, rfl, hx, hR, hw1⟩
  have hb41 := hb4.ext hw1
  have hE1 := hE4.trans' hw1
  simp
  by_cases ha : askedE l roots = 0
  · obtain ⟨hok, h60⟩ := asked_ok ha
    simp only [missingA, ha, if_true] at hx
    by_cases hm : missingL l roots = []
    · simp [ha, hm, ir33_k10, hx.1.is, hx.1.len, ir33_k9]
      refine eff_alloc z26 fun B W hB hE hb hS => ?_
      simp [h0, h1]
      refine (ref_reached (hl.ext (hE1.trans' hE)) (hr.ext (hE1.trans' hE)) hok h60).mono ?_
      rintro _ w2 ⟨y, R, rfl, hy, hRR, hfr, hw2⟩
      have hf := full_of hok hRR hm
      simp
      have hyne : y.ownBlock ≠ some B := fun e => by have := hfr B e; omega
      refine eff_store1 (B := B) (i := 0) (by simp) (hb.ext hw2) (by simp) (by simp; exact isSl_cells hy.1.is) (by simp; exact isSl_one hy.1.is) sz22 fun W3 hO3 hb3 => ?_
      simp at hb3 ⊢
      have hBw2 : B < w2.heap.size := (hb.ext hw2).lt
      refine loopC 9 R.length (fun k ρ' W' => ∃ sv cv, LI l R v y w2 B4 B k ρ' W' sv cv) (by simp) ⟨_, _, by simp [h0], by simp, by simp, gb_only (gb_refl _ _) hO3, hO3.blk ((hb41.ext hE).ext hw2) (by have := hb41.lt; omega), hb3, by simpa [stV, cdL] using OwnS.consNil (OwnS.consNil (l := []) trivial 5 1) 3 1⟩ ?_
      rintro k ρ' W' hk h9 ⟨sv, cv, h0, h4, h8, hgb, hb4', hbox, hown⟩
      have hE0 : Ext w W' := gb_toExt hgb ((hE1.trans' hE).trans' hw2) (by have := hE1.size; omega)
      have hy' := hy.1.kept hgb (.inr hyne)
      by_cases hlt : k < R.length
      · obtain ⟨j, hj, hij, hnj⟩ := hf.found _ (List.getElem_mem hlt)
        have hl' := hl.ext hE0
        obtain ⟨n, c, r, c0, c1, c2, hob⟩ := hl.obj j hj
        have hoc : checkObj l[j] = 0 := hok.ok _ (List.getElem_mem hj)
        have hol := checkObj_len hoc
        have hoa : objAt l R[k] = l[j] := objAt_of hj hij
        have hnc := hob.code.is
        have hnr := hob.rels.is
        simp [ir33_l7, ir33_k6, h0, h8, h9, hbox.cell, hy'.is, hy'.len, hlt, hy'.cell k hlt]
        refine (ref_find _ hl').mono ?_
        rintro _ _ ⟨rfl, rfl⟩
        simp [hij, hl'.is, hl'.len, hj, hE0.cell c0, hE0.cell c1, hE0.cell c2, h0]
        have hclen := cdL_len hf k
        have hslen := stV_len (l := l) (R := R) k
        have hRlen := hf.len
        have hcv := (show Own w2.heap.size 5 1 W' cv ((cdL l R k).map encB) from hown.mem ⟨cv, 5, 1, _⟩ (by simp)).sl (by omega)
        refine eff_var z45 (fun v => by simp) (by simp [Value.cells]) (by simp [Value.cells, hob.name, isSl_one hnc, isSl_one hnr]) sz45 fun Bo W5 hBo hE5 hbo _ => ?_
        simp [Value.cells] at hbo
        have hbox5 := hbox.ext hE5
        have hcv5 := hcv.ext hE5
        have gb5 := gb_ext hgb hE5
        have own5 := OwnS.consBox hown hE5 hbo hBo hgb.size
        simp [h8, hbox5.cell, hcv5.is, hcv5.len]
        refine eff_lit si23 (by decide) (by decide) (by simp [Value.cells]) fun B6 W6 hB6 hE6 hb6 _ => ?_
        simp [Value.cells] at hb6
        have own6 := own5.ext hE6
        have gb6 := gb_ext gb5 hE6
        simp [h8]
        refine eff_appendS ri23 gb6.size (by rfl) (by rfl) (by simpa using own6.swap) (by simpa using hb6.cells (n := 1) (by simp)) (by simp [Value.oneCell']) (by simp; omega) (by simp; omega) fun sv' W7 hB7 own7 => ?_
        have gb7 := gb_trans gb6 hB7
        have hbox7 := (hbox5.ext hE6).below hB7 hBw2
        simp [h8]
        refine eff_store1 (B := B) (i := 1) (by simp) hbox7 (by simp) (by simp; exact isSl_cells own7.head.isl) (by simp; exact isSl_one own7.head.isl) sz23 fun W8 hO8 hbox8 => ?_
        simp at hbox8 ⊢
        have own8 := own7.only hO8 hBw2
        have gb8 := gb_only gb7 hO8
        refine eff_lit si24 (by decide) (by decide) (by simp) fun B9 W9 hB9 hE9 hb9 _ => ?_
        simp at hb9
        have own9 := own8.consLit hE9 (n := 0) (sz := 1) hb9 hB9 gb8.size (by simp) (by decide)
        have gb9 := gb_ext gb8 hE9
        have hE09 : Ext w W9 := gb_toExt gb9 ((hE1.trans' hE).trans' hw2) (by have := hE1.size; omega)
        have hbo9 := fun i hi => (show Own w2.heap.size 45 3 W9 (.slice (some ⟨Bo, 0, none⟩) 1 1) [n, c, r] from own9.mem ⟨_, 45, 3, _⟩ (by simp)).cellAt i hi
        have hc9 := hob.code.ext hE09
        simp [hbo9]
        refine eff_appendS ri24 gb9.size (by rfl) (by rfl) own9 (by simpa using hc9.cells) (one_map (fun _ => rfl) _) (by simp; omega) (by simp; omega) fun uv W10 hB10 own10 => ?_
        have gb10 := gb_trans gb9 hB10
        have hbox10 := (hbox8.ext hE9).below hB10 hBw2
        simp
        refine loopC 12 l[j].relocs.length (fun q ρ2 W2 => LJ v y uv sv' cv w2 B4 B Bo k ρ2 W2 ((l[j].relocs.take q).foldl (put2 R) l[j].code) (stV l R (k + 1)) [n, c, r] ((cdL l R k).map encB)) (by simp) ?_ ?_
        · refine ⟨by simp [h0], by simp [h4], by simp [h8], by simp [h9], by simp, by simp, gb10, ?_, hbox10, ?_⟩
          · have h45 : B4 < w2.heap.size := ((hb41.ext hE).ext hw2).lt
            have hne : B4 ≠ B := by have := hb41.lt; omega
            exact ((hO8.blk (((hb4'.ext hE5).ext hE6).below hB7 h45) hne).ext hE9).below hB10 h45
          · rw [stV_succ hlt]
            simpa using own10
        · rintro q ρ2 W2 hq h12 ⟨h0, h4, h8, h9, h10, h11, gb, b4, box, own⟩
          have hE2 : Ext w W2 := gb_toExt gb ((hE1.trans' hE).trans' hw2) (by have := hE1.size; omega)
          have hbo2 := fun i hi => (show Own w2.heap.size 45 3 W2 (.slice (some ⟨Bo, 0, none⟩) 1 1) [n, c, r] from own.mem ⟨_, 45, 3, _⟩ (by simp)).cellAt i hi
          have hr2 := hob.rels.ext hE2
          by_cases hqlt : q < l[j].relocs.length
          · obtain ⟨hp0, hp1, _⟩ := rel_ok hoc hqlt
            obtain ⟨x0, hx0, hxi⟩ := idx_lt (hf.closed _ (List.getElem_mem hlt) l[j].relocs[q] (by rw [hoa]; exact List.getElem_mem hqlt))
            have hy2 := hy.1.kept gb (.inr hyne)
            simp [ir33_l3, h10, h12, hbo2, hr2.is, hr2.len, hqlt, ir33_k2, h8, box.cell, hr2.name q hqlt]
            refine ⟨.int .i64 (idx R l[j].relocs[q].name), fun w6 hw6 => (ref_index _ (hy2.ext hw6)).mono ?_, ?_⟩
            · rintro _ _ ⟨rfl, rfl⟩; exact ⟨rfl, hw6⟩
            intro w6 hw6
            have own6 := own.ext hw6
            have gb6 := gb_ext gb hw6
            have hx6 := hy2.ext hw6
            have hr6 := hr2.ext hw6
            have hbo6 := fun i hi => hw6.cell (hbo2 i hi)
            have box6 := box.ext hw6
            have b46 := b4.ext hw6
            have hul : ((l[j].relocs.take q).foldl (put2 R) l[j].code).length = l[j].code.length := foldl_put2_len R _ _
            have huv := (own.head.sl (enc := encB) (xs := (l[j].relocs.take q).foldl (put2 R) l[j].code) (by rw [hul]; omega)).ext hw6
            obtain ⟨p0, hpe⟩ : ∃ p0 : Nat, l[j].relocs[q].pos = p0 := ⟨l[j].relocs[q].pos.toNat, by omega⟩
            rw [hpe] at hp1
            simp at hp1
            simp [ir33_k0, h10, h11, h12, hbo6, hr6.is, hr6.len, hqlt, hr6.pos q hqlt, hpe, huv.is, huv.len, hul, (show p0 < l[j].code.length by omega), hxi]
            have e1 : Value.int .u8 (IntKind.u8.wrap (IntKind.i64.wrap ((x0 : Int) / 256))) = encB (UInt8.ofNat (x0 / 256)) := by
              rw [i64w (by omega), u8w (by omega), encB]
              simp <;> omega
            have e2 : Value.int .u8 (IntKind.u8.wrap ((x0 : Int).tmod 256)) = encB (UInt8.ofNat x0) := by
              rw [Int.tmod_eq_emod_of_nonneg (by omega), u8w (by omega), encB]
              simp <;> omega
            simp only [e1]
            refine eff_storeS (i := p0) gb6.size own6 (by simp [hul]; omega) (by simp) (by simp [encB, Value.cells]) (by simp [encB]) sz5 fun W7 hB7 own7 => ?_
            simp at own7 ⊢
            have gb7 := gb_trans gb6 hB7
            have hE7 : Ext w W7 := gb_toExt gb7 ((hE1.trans' hE).trans' hw2) (by have := hE1.size; omega)
            have hr7 := hob.rels.ext hE7
            have hbo7 := fun i hi => (show Own w2.heap.size 45 3 W7 (.slice (some ⟨Bo, 0, none⟩) 1 1) [n, c, r] from own7.mem ⟨_, 45, 3, _⟩ (by simp)).cellAt i hi
            have box7 := box6.below hB7 hBw2
            have h45 : B4 < w2.heap.size := ((hb41.ext hE).ext hw2).lt
            simp [h10, h11, h12, hbo7, hr7.is, hr7.len, hqlt, hr7.pos q hqlt, hpe, huv.is, huv.len, hul, hp1, i64w (n := (p0 : Int) + 1) (by omega)]
            simp only [e2]
            refine eff_storeS (i := p0 + 1) gb7.size own7 (by simp [hul]; omega) (by simp) (by simp [encB, Value.cells]) (by simp [encB]) sz5 fun W8 hB8 own8 => ?_
            have gb8 := gb_trans gb7 hB8
            have hput : (l[j].relocs.take (q + 1)).foldl (put2 R) l[j].code = (((l[j].relocs.take q).foldl (put2 R) l[j].code).set p0 (UInt8.ofNat (x0 / 256))).set (p0 + 1) (UInt8.ofNat x0) := by
              rw [List.take_succ_eq_append_getElem hqlt, List.foldl_append]
              simp [put2, hpe, hxi]
            simp [ir33_k1, h12, i64w (n := (q : Int) + 1) (by omega)]
            refine ⟨by simp [h0], by simp [h4], by simp [h8], by simp [h9], by simp [h10], by simp [h11], gb8, (b46.below hB7 h45).below hB8 h45, box7.below hB8 hBw2, ?_⟩
            rw [hput]
            simpa using own8
          · have hq' : q = l[j].relocs.length := by omega
            subst hq'
            simp [ir33_l3, h10, h12, hbo2, hr2.is, hr2.len, ir33_k4, h8, box.cell, h11]
            rw [List.take_length] at own
            have hul : (codeOf R l[j]).length = l[j].code.length := codeOf_len R _
            have huv := own.head.sl (enc := encB) (xs := codeOf R l[j]) (by rw [hul]; omega)
            refine eff_appendS ri24 gb.size (by rfl) (by rfl) own.tail.second.swap (by simpa using huv.cells) (one_map (fun _ => rfl) _) (by simp [hul]; omega) (by simp [hul]; omega) fun cv' W11 hB11 own11 => ?_
            have gb11 := gb_trans gb hB11
            have h45 : B4 < w2.heap.size := ((hb41.ext hE).ext hw2).lt
            have hne : B4 ≠ B := by have := hb41.lt; omega
            simp [h8]
            refine eff_store1 (B := B) (i := 2) (by simp) (box.below hB11 hBw2) (by simp) (by simp; exact isSl_cells own11.head.isl) (by simp; exact isSl_one own11.head.isl) sz24 fun W12 hO12 hbox12 => ?_
            simp at hbox12
            have own12 := (own11.only hO12 hBw2).swap
            simp [ir33_k5, h9, i64w (n := (k : Int) + 1) (by omega)]
            refine ⟨sv', cv', by simp [h0], by simp [h4], by simp [h8], gb_only gb11 hO12, hO12.blk (b4.below hB11 h45) hne, hbox12, ?_⟩
            rw [cdL_succ hlt, hoa]
            simpa using own12
      · have hk' : k = R.length := by omega
        subst hk'
        simp [ir33_l7, h8, h9, hbox.cell, hy'.is, hy'.len, ir33_k8]
        have hne : B4 ≠ B := by have := hb41.lt; omega
        have hclen := cdL_len hf R.length
        have hRlen := hf.len
        have key : ∀ W5, OwnS w2.heap.size W5 [⟨sv, 3, 1, stV l R R.length⟩, ⟨cv, 5, 1, (cdL l R R.length).map encB⟩] → Sl encB W5 cv (imgOf l R).code ∧ SlI W5 sv (imgOf l R).starts := by
          intro W5 hown
          constructor
          · have : (imgOf l R).code = cdL l R R.length := by simp only [imgOf, cdL]; rw [List.take_of_length_le (by simp [codesOf])]
            rw [this]
            exact (show Own w2.heap.size 5 1 W5 cv ((cdL l R R.length).map encB) from hown.mem ⟨cv, 5, 1, _⟩ (by simp)).sl (by omega)
          · have h1 : (startsOf l R).length = R.length := by simp [startsOf]
            have h2 : stV l R R.length = (startsOf l R).map encI := by simp only [stV]; rw [List.take_of_length_le (by omega)]
            refine ⟨?_, fun n hn => ?_⟩
            · have := hown.head
              simp only [h2] at this
              exact this.sl (by omega)
            · simp only [imgOf, startsOf, List.mem_map, List.mem_range] at hn
              obtain ⟨k, hk, rfl⟩ := hn
              have := codes_len hf k
              omega
        obtain ⟨hcs, hss⟩ := key W' hown
        refine eff_storeN (by simp [h4]) hb4' (by simp [Value.cells]) (by simp [Value.cells, isSl_one hcs.is, isSl_one hss.1.is, isSl_one hy.1.is]) sz26 fun W5 hO5 hb5 => ?_
        simp [Value.cells] at hb5 ⊢
        refine retK_cN (by simp [h4]) hb5 rfl ?_
        simp
        have hle : linkE l roots = 0 := by simp [linkE, ha, hm]
        have hli : linkI l roots = imgOf l R := by simp [linkI, hle, reachedL_eq hRR]
        simp [LinkPost, ha, hle]
        refine ⟨_, _, _, ⟨rfl, rfl, rfl⟩, ?_, hR ha, ?_⟩
        · rw [hli]
          have h45 : B4 < w2.heap.size := ((hb41.ext hE).ext hw2).lt
          obtain ⟨hcs5, hss5⟩ := key W5 (hown.only hO5 h45)
          have hy4 : y.ownBlock ≠ some B4 := fun e => by have := hfr B4 e; have := hE.size; have := hb41.lt; omega
          exact ⟨⟨hy'.kept (only_grownBy hO5) (.inr hy4), hy.2⟩, hss5, hcs5⟩
        · exact hO5.ext hE0 hB4
    · have hlen : 0 < (missingL l roots).length := List.length_pos_iff.2 hm
      simp [ha, hm, hlen, ir33_k10, hx.1.is, hx.1.len, bu26]
      refine eff_storeN (by simp) hb41 (by simp [Value.cells]) (by simp [Value.cells]) sz26 fun W5 hO5 hb5 => ?_
      simp [Value.cells] at hb5 ⊢
      refine retK_cN (by simp) hb5 rfl ?_
      simp
      have hli : linkE l roots = 160 := by simp [linkE, ha, hm]
      simp [LinkPost, ha]
      refine ⟨_, _, _, ⟨⟨rfl, rfl, rfl⟩, hli.symm⟩, ?_, hR ha, hO5.ext hE1 hB4⟩
      simp [linkI, hli, emptyI]
      exact ⟨⟨Sl.nil _ _, by simp⟩, ⟨Sl.nil _ _, by simp⟩, Sl.nil _ _⟩
  · simp [ha, bu26]
    refine eff_storeN (by simp) hb41 (by simp [Value.cells]) (by simp [Value.cells]) sz26 fun W5 hO5 hb5 => ?_
    simp [Value.cells] at hb5 ⊢
    refine retK_cN (by simp) hb5 rfl ?_
    simp
    have hli : linkE l roots = askedE l roots := by simp [linkE, ha]
    simp [LinkPost, ha]
    refine ⟨_, _, _, ⟨⟨rfl, rfl, rfl⟩, hli.symm⟩, ?_, hO5.ext hE1 hB4⟩
    simp [linkI, hli, ha, emptyI]
    exact ⟨⟨Sl.nil _ _, by simp⟩, ⟨Sl.nil _ _, by simp⟩, Sl.nil _ _⟩
end Go.L16
/- Layer 16: contracts of the reference: CheckLink, Without, Number, Part. -/
namespace Go.L16
open Go Go.Eng Go.RowKit Go.Proofs
set_option maxRecDepth 10000
theorem ri42 : rowInfo Tryd.prog 42 = some (45, 3, 64) := by kernel_rfl
theorem si42 : sliceInfo Tryd.prog 42 = some (45, 3) := by kernel_rfl

noncomputable def checkLinkB (l : List Obj) (roots : List ByteArray) (i : Img) : Bool := decide (askedE l roots = 0) && (decide (linkE l roots = 0) && decide (linkI l roots = i))

theorem ref_CheckLink {w : World} {v u a b c : Value} {l : List Obj} {roots : List ByteArray} {i : Img} (hl : SlO w v l) (hr : SlS w u roots) (hi : ImgC w a b c i) :
    Calls Tryd.prog 48 #[v, u, .agg #[a, b, c]] w fun e w' => e = .returned (.tuple #[.bool (checkLinkB l roots i), .int .i64 (askedE l roots)]) ∧ Ext w w' := by
  refine ir48_calls fun ρ h0 h1 h2 => ?_
  simp [ir48, h0, h1]
  refine eff_box fun B W hB hE hb _ => ?_
  simp [h0, h1, h2, Value.cells] at hb ⊢
  refine (ref_asked (hl.ext hE) (hr.ext hE)).mono ?_
  rintro _ w1 ⟨rfl, hw1⟩
  by_cases ha : askedE l roots = 0
  · simp [ha, ir48_k0, h0, h1]
    refine (ref_Link (hl.ext (hE.trans' hw1)) (hr.ext (hE.trans' hw1))).mono ?_
    rintro _ w2 ⟨x, y, z, rfl, hI, _, hw2⟩
    simp
    refine eff_var z26 (fun v => by simp) (by simp [Value.cells]) (by simp [Value.cells, isSl_one hI.names.1.is, isSl_one hI.starts.1.is, isSl_one hI.code.is]) sz26 fun B3 W3 hB3 hE3 hb3 _ => ?_
    simp [Value.cells] at hb3
    have hb03 := ((hb.ext hw1).ext hw2).ext hE3
    by_cases he : linkE l roots = 0
    · simp [he, hb3.cell, hb03.cell]
      refine (ref_Same (hI.ext hE3) ((((hi.ext hE).ext hw1).ext hw2).ext hE3)).mono ?_
      rintro _ w4 ⟨rfl, hw4⟩
      simp [checkLinkB, ha, he]
      exact (((hE.trans' hw1).trans' hw2).trans' hE3).trans' hw4
    · simp [he, checkLinkB, ha]
      exact ((hE.trans' hw1).trans' hw2).trans' hE3
  · simp [ha, checkLinkB]
    exact hE.trans' hw1

noncomputable def withoutL (l : List Obj) (roots : List ByteArray) : List Obj := if linkE l roots = 0 then l.filter (fun o => decide (0 ≤ idx (reachedL l roots) o.name)) else []


/-! ### Slices of objects that the call itself makes -/
def rowsV (rows : List (Value × Value × Value)) : List Value := rows.flatMap fun t => [t.1, t.2.1, t.2.2]
theorem rowsV_len (rows : List (Value × Value × Value)) : (rowsV rows).length = rows.length * 3 := by
  induction rows with
  | nil => rfl
  | cons t rows ih => simp only [rowsV, List.flatMap_cons, List.length_append, List.length_cons, List.length_nil] at ih ⊢; omega
theorem rowsV_get : ∀ (rows : List (Value × Value × Value)) (i : Nat) (h : i < rows.length), (rowsV rows)[i * 3]? = some rows[i].1 ∧ (rowsV rows)[i * 3 + 1]? = some rows[i].2.1 ∧ (rowsV rows)[i * 3 + 2]? = some rows[i].2.2
  | t :: rows, 0, _ => by simp [rowsV]
  | t :: rows, i + 1, h => by
    have := rowsV_get rows i (by simpa using h)
    have e : ∀ j, (rowsV (t :: rows))[(i + 1) * 3 + j]? = (rowsV rows)[i * 3 + j]? := fun j => by
      rw [show (i + 1) * 3 + j = (i * 3 + j) + 3 by omega]
      simp [rowsV]
    have e0 := e 0
    simp only [Nat.add_zero] at e0
    rw [e0, e 1, e 2]
    simpa using this
theorem _root_.Go.Eng.Own.toCells {base e sz : Nat} {w : World} {v : Value} {xs : List Value} (h : Own base e sz w v xs) : Cells w v sz xs := by
  have his := h.isl
  rcases h with ⟨rfl, rfl⟩ | ⟨g, off, n, cap, cur, rfl, hb, hg, hl, hc, hm, hs, ht⟩
  · exact ⟨rfl, by simp [slLen], fun j hj => by simp at hj⟩
  · refine ⟨his, hl, fun j hj => ?_⟩
    have h2 : ((cur.toList.drop off).take (n * sz))[j]? = xs[j]? := by rw [ht]
    rw [List.getElem?_take, if_pos (by omega), List.getElem?_drop] at h2
    simp only [slAddr, add_lit, World.cell?, hg]
    simpa [hj] using h2
theorem isSl_one' {v : Value} (h : isSl v = true) : v.oneCell' = true := by
  rcases isSl_cases h with ⟨b, o, n, c, rfl, _⟩ | rfl | ⟨b, o, s, rfl⟩ <;> rfl
theorem SlO.ofOwn {base : Nat} {w : World} {v : Value} {rows : List (Value × Value × Value)} {os : List Obj} (h : Own base 45 3 w v (rowsV rows)) (hl : rows.length = os.length) (hb : os.length < 1537228672809129301)
    (ho : ∀ i (h1 : i < rows.length) (h2 : i < os.length), ObjC w rows[i].1 rows[i].2.1 rows[i].2.2 os[i]) : SlO w v os := by
  have hc := h.toCells
  have hlen := hc.len
  rw [rowsV_len] at hlen
  refine ⟨hc.is, by omega, hb, fun i hi => ?_⟩
  obtain ⟨e0, e1, e2⟩ := rowsV_get rows i (by omega)
  have key : ∀ j x, (rowsV rows)[j]? = some x → w.cell? (slAddr v j) = some x := fun j x hx => by
    obtain ⟨hj, rfl⟩ := List.getElem?_eq_some_iff.1 hx
    exact hc.cell j hj
  exact ⟨_, _, _, key _ _ e0, key _ _ e1, key _ _ e2, ho i (by omega) hi⟩

theorem ref_Without {w : World} {v u : Value} {l : List Obj} {roots : List ByteArray} (hl : SlO w v l) (hr : SlS w u roots) :
    Calls Tryd.prog 39 #[v, u] w fun e w' => ∃ x, e = .returned (.tuple #[x, .int .i64 (linkE l roots)]) ∧ SlO w' x (withoutL l roots) ∧ (askedE l roots = 0 → IsReached l roots (reachedL l roots)) ∧ Ext w w' := by
  refine ir39_calls fun ρ h0 h1 => ?_
  simp [ir39, h0, h1]
  refine (ref_Link hl hr).mono ?_
  rintro _ w1 ⟨x, y, z, rfl, hI, hR, hw1⟩
  simp
  refine eff_var z26 (fun v => by simp) (by simp [Value.cells]) (by simp [Value.cells, isSl_one hI.names.1.is, isSl_one hI.starts.1.is, isSl_one hI.code.is]) sz26 fun B3 W3 hB3 hE3 hb3 _ => ?_
  by_cases he : linkE l roots = 0
  · have ha : askedE l roots = 0 := by
      by_cases ha : askedE l roots = 0
      · exact ha
      · simp [linkE, ha] at he
    obtain ⟨hok, h60⟩ := asked_ok ha
    simp [he, ir39_k4, h0, h1]
    refine (ref_reached (hl.ext (hw1.trans' hE3)) (hr.ext (hw1.trans' hE3)) hok h60).mono ?_
    rintro _ w2 ⟨yv, R, rfl, hy, hRR, _, hw2⟩
    have hreq := reachedL_eq hRR
    simp
    have hE02 := (hw1.trans' hE3).trans' hw2
    refine loopC 10 l.length (fun k ρ' w' => Ext w2 w' ∧ ρ' 0 = v ∧ ρ' 8 = yv ∧ ∃ rows, Own w2.heap.size 45 3 w' (ρ' 9) (rowsV rows) ∧ rows.length = ((l.take k).filter (fun o => decide (0 ≤ idx R o.name))).length ∧
      ∀ i (h1 : i < rows.length) (h2 : i < ((l.take k).filter (fun o => decide (0 ≤ idx R o.name))).length), ObjC w rows[i].1 rows[i].2.1 rows[i].2.2 ((l.take k).filter (fun o => decide (0 ≤ idx R o.name)))[i]) (by simp) ⟨ext_refl _, by simp [h0], by simp, [], by simpa [rowsV] using Own.nil _ _ _ _, by simp, by simp⟩ ?_
    rintro k ρ' w' hk h10 ⟨hE, h0, h8, rows, hO, hrl, hro⟩
    have hl' := hl.ext (hE02.trans' hE)
    have hbd := hl.bd
    have hok60 := hok.len
    have hfl := List.length_filter_le (fun o : Obj => decide (0 ≤ idx R o.name)) (l.take k)
    rw [List.length_take] at hfl
    by_cases hlt : k < l.length
    · obtain ⟨n, c, r, c0, c1, c2, hob⟩ := hl.obj k hlt
      have hE4 := hE02.trans' hE
      have htk : (l.take (k + 1)).filter (fun o => decide (0 ≤ idx R o.name)) = (l.take k).filter (fun o => decide (0 ≤ idx R o.name)) ++ if 0 ≤ idx R l[k].name then [l[k]] else [] := by
        rw [List.take_succ_eq_append_getElem hlt, List.filter_append]
        congr 1
        by_cases hi : 0 ≤ idx R l[k].name <;> simp [hi]
      simp [ir39_l2, ir39_k1, h0, h8, h10, hl'.is, hl'.len, hlt, hE4.cell c0, hob.name]
      refine (ref_index _ ((hy.1.ext hE))).mono ?_
      rintro _ _ ⟨rfl, rfl⟩
      by_cases hi : 0 ≤ idx R l[k].name
      · simp [hi, h0, h10, hl'.is, hl'.len, hlt, hE4.cell c0, hE4.cell c1, hE4.cell c2]
        refine eff_lit si42 (by decide) (by decide) (by simp [Value.cells]) fun B W hB hE1 hb _ => ?_
        simp [Value.cells] at hb
        simp
        refine eff_append ri42 (hE.trans' hE1) (by rfl) (by rfl) (by simpa using hO.ext hE1) (by simpa using hb.cells (n := 1) (sz := 3) (by simp)) (by simp [hob.name]; exact ⟨rfl, isSl_one' hob.code.is, isSl_one' hob.rels.is⟩) (by simp [rowsV_len]; omega) (by simp [rowsV_len]; omega) fun u2 W2 hE2 ho2 _ _ => ?_
        simp [ir39_k0, h10, hlt, h0, h8, i64w (n := (k : Int) + 1) (by omega)]
        refine ⟨hE2, rows ++ [(n, c, r)], ?_, ?_, ?_⟩
        · simpa [rowsV] using ho2
        · rw [htk]; simp [hi, hrl]
        · intro i h1 h2
          by_cases hik : i < rows.length
          · have := hro i hik (by omega)
            simp only [htk, hi, if_true]
            rw [List.getElem_append_left hik, List.getElem_append_left (by omega)]
            exact this
          · have hik : i = rows.length := by simp at h1; omega
            subst hik
            simp only [htk, hi, if_true]
            simp [List.getElem_append_right, hrl]
            exact hob
      · simp [hi, ir39_k0, h10, hlt, h0, h8, i64w (n := (k : Int) + 1) (by omega)]
        refine ⟨hE, rows, hO, ?_, ?_⟩
        · rw [htk]; simp [hi, hrl]
        · intro i h1 h2
          simp only [htk, hi, if_false, List.append_nil]
          exact hro i h1 (by omega)
    · have hk' : k = l.length := by omega
      subst hk'
      simp [ir39_l2, ir39_k3, h0, h10, hl'.is, hl'.len]
      rw [List.take_length] at hrl
      have : withoutL l roots = l.filter (fun o => decide (0 ≤ idx R o.name)) := by simp [withoutL, he, hreq]
      rw [this]
      refine ⟨SlO.ofOwn hO hrl (by have := List.length_filter_le (fun o : Obj => decide (0 ≤ idx R o.name)) l; omega) fun i h1 h2 => ?_, hR, hE02.trans' hE⟩
      have := hro i h1 (by rw [List.take_length]; exact h2)
      simp only [List.take_length] at this
      exact this.ext (hE02.trans' hE)
  · simp [he, withoutL]
    exact ⟨⟨rfl, rfl, by simp, fun i hi => by simp at hi⟩, hR, hw1.trans' hE3⟩
end Go.L16
