/- Texts of mine for the claims about layer 16 (link), joined: L16r. -/
import Derived.Test.YtaipjaclgkjhdaaDoorJbi
import Derived.Test.YtaipjaclgkjhdaaDoorJaw
set_option linter.all false
set_option linter.unusedSimpArgs false
set_option linter.unusedVariables false
/- Layer 16: contracts of the link package: Without. -/
namespace Go.L16
open Go Go.Eng Go.RowKit Go.Proofs
set_option maxRecDepth 100000

theorem SlR.kept {w w' : World} {v : Value} {rs : List Rel} {row : Option Nat} (h : SlR w v rs) (hg : w.grownBy w' row) (hne : v.ownBlock = none ∨ v.ownBlock ≠ row) : SlR w' v rs := by
  rcases isSl_cases h.is with ⟨b, o, n, c, rfl, _⟩ | rfl | ⟨b, o, s, rfl⟩
  rotate_left 2
  · have h0 : rs.length = 0 := by have := h.len; simp [slLen] at this; omega
    exact ⟨h.is, h.len, h.bd, fun i hi => by omega, fun i hi => by omega, h.wf⟩
  · refine ⟨h.is, h.len, h.bd, fun i hi => ?_, fun i hi => ?_, h.wf⟩
    · exact hg.cell (h.pos i hi) (by simpa [Value.ownBlock, slAddr] using hne)
    · exact hg.cell (h.name i hi) (by simpa [Value.ownBlock, slAddr] using hne)
  · have h0 : rs.length = 0 := by have := h.len; simp [slLen] at this; omega
    exact ⟨h.is, h.len, h.bd, fun i hi => by omega, fun i hi => by omega, h.wf⟩
/-- An object that lies apart from a row. -/
def Off (w : World) (row : Option Nat) (t : Value × Value × Value) : Prop := ∀ g, (t.2.1.ownBlock = some g ∨ t.2.2.ownBlock = some g) → some g ≠ row ∧ g < w.heap.size
theorem ObjC.kept {w w' : World} {t : Value × Value × Value} {o : Obj} {row : Option Nat} (h : ObjC w t.1 t.2.1 t.2.2 o) (hg : w.grownBy w' row) (hf : Off w row t) : ObjC w' t.1 t.2.1 t.2.2 o := by
  have key : ∀ v : Value, (∀ g, v.ownBlock = some g → some g ≠ row) → v.ownBlock = none ∨ v.ownBlock ≠ row := by
    intro v hv
    cases hb : v.ownBlock with
    | none => exact .inl rfl
    | some g => exact .inr (hv g hb)
  exact ⟨h.name, h.size, h.code.kept hg (key _ fun g hg => (hf g (.inl hg)).1), h.rels.kept hg (key _ fun g hg => (hf g (.inr hg)).1)⟩

theorem lk_Without {w : World} {v u : Value} {l : List Obj} {roots : List ByteArray} (hl : SlO w v l) (hr : SlS w u roots) :
    Calls Tryd.prog 38 #[v, u] w fun e w' => ∃ x, e = .returned (.tuple #[x, .int .i64 (linkE l roots)]) ∧ SlO w' x (withoutL l roots) ∧ Ext w w' := by
  refine ir38_calls fun ρ h0 h1 => ?_
  simp [ir38, h0, h1]
  refine (lk_opened hl hr).mono ?_
  rintro _ w1 ⟨x, rfl, hx, hw1⟩
  by_cases ha : askedE l roots = 0
  · obtain ⟨Bl, rfl, hB, hL⟩ := hx ha
    obtain ⟨hok, h60⟩ := asked_ok ha
    simp [ha, ir38_k6, h1]
    refine (lk_reached hL hok (hr.ext hw1) h60).mono ?_
    rintro _ w2 ⟨y, z, rfl, hy, hz, hRR, hw2⟩
    obtain ⟨M, hMe⟩ : ∃ M, missingL l roots = M := ⟨_, rfl⟩
    rw [hMe] at hz
    obtain ⟨R, hRe⟩ : ∃ R, reachedL l roots = R := ⟨_, rfl⟩
    rw [hRe] at hy hRR
    have hzi := hz.1.is
    have hzl := hz.1.len
    have hE02 := hw1.trans' hw2
    refine wps_split (by simp [hzi, hzl]; exact ⟨rfl, rfl⟩) ?_
    by_cases hm : M = []
    · have he : linkE l roots = 0 := by simp [linkE, ha, hMe, hm]
      simp [hm, ir38_k5, h0, hl.is, hl.len]
      refine loopC 35 l.length (fun k ρ' w' => Ext w2 w' ∧ ρ' 33 = v ∧ ρ' 34 = .int .i64 l.length ∧ ρ' 8 = y ∧ ∃ rows, Own w2.heap.size 45 3 w' (ρ' 10) (rowsV rows) ∧ rows.length = ((l.take k).filter (fun o => decide (0 ≤ idx R o.name))).length ∧
        (∀ i (h1 : i < rows.length) (h2 : i < ((l.take k).filter (fun o => decide (0 ≤ idx R o.name))).length), ObjC w' rows[i].1 rows[i].2.1 rows[i].2.2 ((l.take k).filter (fun o => decide (0 ≤ idx R o.name)))[i] ∧ Off w' (ρ' 10).ownBlock rows[i])) (by simp) ⟨ext_refl _, by simp, by simp, by simp, [], by simpa [rowsV] using Own.nil _ _ _ _, by simp, by simp⟩ ?_
      rintro k ρ' w' hk h35 ⟨hE, h33, h34, h8, rows, hO, hrl, hro⟩
      have hl' := hl.ext (hE02.trans' hE)
      have hbd := hl.bd
      have hok60 := hok.len
      have hfl := List.length_filter_le (fun o : Obj => decide (0 ≤ idx R o.name)) (l.take k)
      rw [List.length_take] at hfl
      by_cases hlt : k < l.length
      · obtain ⟨n, c, r, c0, c1, c2, hob⟩ := hl.obj k hlt
        have hE4 := hE02.trans' hE
        have hoc : checkObj l[k] = 0 := hok.ok _ (List.getElem_mem hlt)
        have hol := checkObj_len hoc
        have htk : (l.take (k + 1)).filter (fun o => decide (0 ≤ idx R o.name)) = (l.take k).filter (fun o => decide (0 ≤ idx R o.name)) ++ if 0 ≤ idx R l[k].name then [l[k]] else [] := by
          rw [List.take_succ_eq_append_getElem hlt, List.filter_append]
          congr 1
          by_cases hi : 0 ≤ idx R l[k].name <;> simp [hi]
        simp [ir38_l3, ir38_k2, h35, h34, h33, hlt, hl'.is, hl'.len, hE4.cell c0, hE4.cell c1, hE4.cell c2]
        refine eff_var z45 (fun v => by simp) (by simp [Value.cells]) (by simp [Value.cells, hob.name, isSl_one hob.code.is, isSl_one hob.rels.is]) sz45 fun Bo W3 hBo hE3 hbo _ => ?_
        simp [Value.cells] at hbo
        have hO3 := hO.ext hE3
        simp [hbo.cell, hob.name, h8]
        refine (lk_search l[k].name (hy.ext (hE.trans' hE3)).1 hRR.1).mono ?_
        rintro _ _ ⟨x0, rfl, _, rfl⟩
        by_cases hi : 0 ≤ idx R l[k].name
        · refine wps_split (by simp; exact ⟨rfl, rfl⟩) ?_
          simp [hi]
          refine raw_ord ir38_o13_ok (Ext W3) fun w4 hw4 _ => ⟨hw4, ?_⟩
          have hcell : ∀ w', Ext W3 w' → ∀ j, w'.cell? ⟨Bo, j, none⟩ = #[n, c, r][j]? := fun w' h' j => (hbo.ext h').cell j
          have hob4 := hob.ext ((hE4.trans' hE3).trans' hw4)
          simp +contextual [ir38_o13, hcell, hw4]
          refine (lk_Clone hob4.code (by omega)).mono ?_
          rintro _ w5 ⟨c', rfl, hc', hw5, _, bc, hbc, hOc⟩
          have hw45 := hw4.trans' hw5
          simp +contextual [hcell, hw45]
          refine (lk_CloneR (hob4.rels.ext hw5) (by omega)).mono ?_
          rintro _ w6 ⟨r', rfl, hr', hw6, br, hbr, hOr⟩
          have hw46 := hw45.trans' hw6
          simp [hw46]
          have hb6 := hbo.ext hw46
          refine eff_store1 (B := Bo) (i := 1) (by simp) hb6 (by simp) (by simp; exact isSl_cells hc'.is) (by simp; exact isSl_one hc'.is) sz24 fun W7 hO7 hb7 => ?_
          simp at hb7 ⊢
          refine eff_store1 (B := Bo) (i := 2) (by simp) hb7 (by simp) (by simp; exact isSl_cells hr'.is) (by simp; exact isSl_one hr'.is) (by kernel_rfl) fun W8 hO8 hb8 => ?_
          simp at hb8 ⊢
          have hsz3 := hE3.size
          have hsz4 := hw4.size
          have hsz5 := hw5.size
          have hsz6 := hw6.size
          have hBo3 : Bo < W3.heap.size := hbo.lt
          have hE8 : Ext w' W8 := hO8.ext (hO7.ext (hE3.trans' hw46) hBo) hBo
          have hbc' : ∀ g, c'.ownBlock = some g → w4.heap.size ≤ g ∧ g < w5.heap.size := fun g hg => by have := hOc.blk g hg; omega
          have hbr' : ∀ g, r'.ownBlock = some g → w5.heap.size ≤ g ∧ g < w6.heap.size := fun g hg => by have := hOr.blk g hg; omega
          have nb : ∀ (v : Value), (∀ g, v.ownBlock = some g → w4.heap.size ≤ g) → v.ownBlock = none ∨ v.ownBlock ≠ some Bo := by
            intro v hv
            cases hb : v.ownBlock with
            | none => exact .inl rfl
            | some g => exact .inr fun e => by have := hv g hb; simp at e; omega
          have hnew8 : ObjC W8 n c' r' l[k] :=
            ⟨hob.name, hob.size, ((hc'.ext hw6).kept (only_grownBy hO7) (nb _ fun g hg => (hbc' g hg).1)).kept (only_grownBy hO8) (nb _ fun g hg => (hbc' g hg).1),
              (hr'.kept (only_grownBy hO7) (nb _ fun g hg => by have := (hbr' g hg).1; omega)).kept (only_grownBy hO8) (nb _ fun g hg => by have := (hbr' g hg).1; omega)⟩
          simp [ir38_k0, hb8.cell]
          refine eff_lit si42 (by decide) (by decide) (by simp [Value.cells]) fun B9 W9 hB9 hE9 hb9 _ => ?_
          simp [Value.cells] at hb9
          have hE89 := hE8.trans' hE9
          have hsz8 : w6.heap.size = W8.heap.size := by rw [hO8.size, hO7.size]
          have hsz9 := hE9.size
          simp
          refine eff_append ri42 (hE.trans' hE89) (by rfl) (by rfl) (by simpa using hO.ext hE89) (by simpa using hb9.cells (n := 1) (sz := 3) (by simp)) (by simp [hob.name]; exact ⟨rfl, isSl_one' hc'.is, isSl_one' hr'.is⟩) (by simp [rowsV_len]; omega) (by simp [rowsV_len]; omega) fun u2 W10 hE10 ho10 hg10 hfr => ?_
          simp at hg10 hfr
          simp [ir38_k1, h35, h34, h33, h8, i64w (n := (k : Int) + 1) (by omega)]
          have hofn : Off W9 (ρ' 10).ownBlock (n, c', r') := by
            rintro g (hg | hg)
            · have h1 := hbc' g hg
              refine ⟨fun e => ?_, by omega⟩
              have := hO.blk g e.symm; omega
            · have h1 := hbr' g hg
              refine ⟨fun e => ?_, by omega⟩
              have := hO.blk g e.symm; omega
          have hup : ∀ t, Off W9 (ρ' 10).ownBlock t → Off W10 u2.ownBlock t := by
            intro t ht g hg
            have h1 := ht g hg
            have := hg10.size
            refine ⟨fun e => ?_, by omega⟩
            rcases hfr with h | h
            · exact h1.1 (e.trans h)
            · rw [h] at e; simp at e; omega
          refine ⟨hE10, rows ++ [(n, c', r')], ?_, ?_, ?_⟩
          · simpa [rowsV] using ho10
          · rw [htk]; simp [hi, hrl]
          · intro i h1 h2
            by_cases hik : i < rows.length
            · obtain ⟨g1, g2⟩ := hro i hik (by omega)
              have g3 : Off W9 (ρ' 10).ownBlock rows[i] := fun g hg => ⟨(g2 g hg).1, by have := (g2 g hg).2; have := hE89.size; omega⟩
              simp only [htk, hi, if_true]
              rw [List.getElem_append_left hik, List.getElem_append_left (by omega)]
              exact ⟨ObjC.kept (g1.ext hE89) hg10 g3, hup _ g3⟩
            · have hik : i = rows.length := by simp at h1; omega
              subst hik
              simp only [htk, hi, if_true]
              simp [List.getElem_append_right, hrl]
              exact ⟨ObjC.kept (t := (n, c', r')) (hnew8.ext hE9) hg10 hofn, hup _ hofn⟩
        · refine wps_split (by simp; exact ⟨rfl, rfl⟩) ?_
          simp [hi, ir38_k1, h35, h34, h33, h8, i64w (n := (k : Int) + 1) (by omega)]
          refine ⟨hE.trans' hE3, rows, hO3, ?_, ?_⟩
          · rw [htk]; simp [hi, hrl]
          · intro i h1 h2
            simp only [htk, hi, if_false, List.append_nil]
            obtain ⟨g1, g2⟩ := hro i h1 (by omega)
            exact ⟨g1.ext hE3, fun g hg => ⟨(g2 g hg).1, by have := (g2 g hg).2; have := hE3.size; omega⟩⟩
      · have hk' : k = l.length := by omega
        subst hk'
        simp [ir38_l3, h35, h34, ir38_k4]
        rw [List.take_length] at hrl
        have : withoutL l roots = l.filter (fun o => decide (0 ≤ idx R o.name)) := by simp [withoutL, he, hRe]
        rw [this]
        refine ⟨_, ⟨rfl, he.symm⟩, SlO.ofOwn hO hrl (by have := List.length_filter_le (fun o : Obj => decide (0 ≤ idx R o.name)) l; omega) fun i h1 h2 => ?_, hE02.trans' hE⟩
        have := hro i h1 (by rw [List.take_length]; exact h2)
        simp only [List.take_length] at this
        exact this.1
    · have hlen : 0 < M.length := List.length_pos_iff.2 hm
      have he : linkE l roots = 160 := by simp [linkE, ha, hMe, hm]
      simp [hlen, withoutL, he]
      exact ⟨⟨rfl, rfl, by simp, fun i hi => by simp at hi⟩, hE02⟩
  · have he : linkE l roots = askedE l roots := by simp [linkE, ha]
    simp [ha, withoutL, he]
    exact ⟨⟨rfl, rfl, by simp, fun i hi => by simp at hi⟩, hw1⟩
end Go.L16
