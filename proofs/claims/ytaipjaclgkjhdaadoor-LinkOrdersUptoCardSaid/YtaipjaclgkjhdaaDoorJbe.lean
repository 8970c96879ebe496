/- Texts of mine for the claims about layer 16 (link), joined: L16a, L16b, L16c. -/
import Derived.Test.YtaipjaclgkjhdaaDoorJbd
import Derived.Test.YtaipjaclgkjhdaaDoorShelf
set_option linter.all false
set_option linter.unusedSimpArgs false
set_option linter.unusedVariables false
/- Layer 16: the keys of a set, sorted. -/
namespace Go.L16
open Go Go.Eng Go.RowKit Go.Proofs
set_option maxRecDepth 10000

theorem bytesLess_lt : ∀ (a b : List UInt8), Op.bytesLess a b = true ↔ a < b
  | [], [] => by simp [Op.bytesLess]
  | [], _ :: _ => by simp [Op.bytesLess]
  | _ :: _, [] => by simp [Op.bytesLess]
  | x :: a, y :: b => by
    have ih := bytesLess_lt a b
    simp only [Op.bytesLess, Bool.or_eq_true, Bool.and_eq_true, decide_eq_true_eq, beq_iff_eq, List.cons_lt_cons_iff, ih]

def sortL (ks : List ByteArray) : List ByteArray := ((ks.map fun s => s.data.toList).mergeSort fun x y => decide (x ≤ y)).map mkS
theorem sortL_len (ks : List ByteArray) : (sortL ks).length = ks.length := by simp [sortL]
theorem mem_sortL {ks : List ByteArray} {s : ByteArray} : s ∈ sortL ks ↔ s ∈ ks := by
  simp only [sortL, List.mem_map, List.mem_mergeSort]
  constructor
  · rintro ⟨_, ⟨t, ht, rfl⟩, rfl⟩; exact ht
  · intro h; exact ⟨_, ⟨s, h, rfl⟩, rfl⟩
theorem asc_sortL {ks : List ByteArray} (hn : ks.Nodup) : Asc (sortL ks) := by
  have hle : ∀ a b : List UInt8, decide (a ≤ b) = true ↔ ¬ Op.bytesLess b a = true := fun a b => by rw [decide_eq_true_eq, bytesLess_lt]; exact Iff.rfl
  have hp := List.pairwise_mergeSort (le := fun x y : List UInt8 => decide (x ≤ y)) (fun a b c h1 h2 => by
    rw [hle] at *
    intro h
    rcases bytesLess_total b a with h3 | h3 | h3
    · exact h1 h3
    · subst h3; exact h2 h
    · exact h2 (bytesLess_trans h h3)) (fun a b => by
    rw [Bool.or_eq_true, hle, hle]
    by_cases h : Op.bytesLess b a = true
    · right
      intro h2
      have := bytesLess_trans h h2
      rw [bytesLess_irrefl] at this; cases this
    · exact .inl h) (ks.map fun s => s.data.toList)
  have hnd : ((ks.map fun s => s.data.toList).mergeSort fun x y => decide (x ≤ y)).Nodup := by
    rw [(List.mergeSort_perm _ _).nodup_iff]
    rw [List.Nodup, List.pairwise_map]
    exact hn.imp fun h e => h (toList_inj' e)
  unfold Asc sortL
  rw [List.pairwise_map]
  refine (hp.and hnd).imp fun {a b} h => ?_
  obtain ⟨h1, h2⟩ := h
  rw [hle] at h1
  show Op.bytesLess a b = true
  rcases bytesLess_total a b with h3 | h3 | h3
  · exact h3
  · exact absurd h3 h2
  · exact absurd h3 h1

theorem encStr_mkS (b : List UInt8) : encStr b = Value.string (mkS b) := rfl

theorem lk_sort {w : World} {base : Nat} {v : Value} {ks : List ByteArray} (hO : Own base 9 1 w v (ks.map Value.string)) (hbase : base ≤ w.heap.size) (hl : ks.length < 4611686018427387904) :
    Calls Tryd.prog 86 #[v] w fun e w' => e = .returned (.tuple #[]) ∧ Sl Value.string w' v (sortL ks) ∧ Below base w w' := by
  rcases hO with ⟨rfl, hks⟩ | ⟨g, off, n, cap, cur, rfl, hb, hg, hn, hnc, hm, hcs, ht⟩
  · have : ks = [] := by simpa using hks
    subst this
    refine (Tryd.sort_none none 0 w).mono ?_
    rintro _ _ ⟨rfl, rfl⟩
    exact ⟨rfl, by simpa [sortL] using Sl.nil Value.string _, Below.refl _ _⟩
  · have hn' : n = (ks.map fun s => s.data.toList).length := by simp at hn ⊢; omega
    have hsl := Own.sl (enc := Value.string) (xs := ks) (.inr ⟨g, off, n, cap, cur, rfl, hb, hg, hn, hnc, hm, hcs, ht⟩ : Own base 9 1 w _ _) hl
    have hgl : g < w.heap.size := (Array.getElem?_eq_some_iff.1 hg).1
    have hH : Sort.Holds encStr w g off (ks.map fun s => s.data.toList).toArray := by
      intro j hj
      have hj' : j < ks.length := by simpa using hj
      have := hsl.cell j hj'
      simp only [slAddr, add_lit] at this
      refine ⟨?_, by simp [World.frozen?, hg]⟩
      rw [this]
      simp [hj', encStr_mkS, mkS_toList]
    have hc := Tryd.sort_some g off cap (ks.map fun s => s.data.toList) w hH hgl (by simpa using hl)
    rw [← hn'] at hc
    refine hc.mono ?_
    rintro _ _ ⟨rfl, m, os, rfl⟩
    have hlen : ((ks.map fun s => s.data.toList).mergeSort fun x y => decide (x ≤ y)).length = n := by simp [hn']
    have hheap : (Sort.grow (Sort.putRow encStr (Sort.ahead w m) g off ((ks.map fun s => s.data.toList).mergeSort fun x y => decide (x ≤ y)).toArray) os).heap[g]? = some (.cells (Sort.putCells encStr off ((ks.map fun s => s.data.toList).mergeSort fun x y => decide (x ≤ y)).toArray cur) 9 (0, 0)) := by
      rw [Sort.heap_grow_old _ _ (by simpa [Sort.putRow, Sort.mapBlock] using hgl)]
      simp [Sort.putRow, Sort.mapBlock, Sort.ahead, Array.getElem?_modify, hg, Sort.onCells]
    refine ⟨rfl, ⟨by simp [isSl, hnc], by rw [sortL_len]; simp [slLen, hn'], by rw [sortL_len]; exact hl, fun i hi => ?_⟩, ?_⟩
    · rw [sortL_len] at hi
      have hi2 : i < n := by simp at hn'; omega
      simp only [slAddr, add_lit, World.cell?, hheap]
      have hsz : off + i < cur.size := by omega
      simp [Sort.putCells, hsz, hi, sortL, encStr_mkS]
    · refine ⟨rfl, rfl, rfl, by simp [Sort.grow, Sort.putRow, Sort.mapBlock, Sort.ahead], fun k hk => ?_⟩
      rw [Sort.heap_grow_old _ _ (by simp [Sort.putRow, Sort.mapBlock, Sort.ahead]; omega)]
      have : g ≠ k := by omega
      simp [Sort.putRow, Sort.mapBlock, Sort.ahead, Array.getElem?_modify, this]
end Go.L16
/- Layer 16: contracts of the link package: sorted. -/
namespace Go.L16
open Go Go.Eng Go.RowKit Go.Proofs
set_option maxRecDepth 10000

theorem lk_sorted {w : World} {B : Nat} {ps : List (ByteArray × Value)} (hm : MapB w B ps) (hlen : ps.length ≤ 1099511627776) (hks : ∀ p ∈ ps, p.1.size ≤ maxLen) :
    Calls Tryd.prog 72 #[.map (some B)] w fun e w' => ∃ x R, e = .returned x ∧ SlS w' x R ∧ Asc R ∧ (∀ s, s ∈ R ↔ s ∈ ps.map (·.1)) ∧ Ext w w' ∧ (∀ g, x.ownBlock = some g → w.heap.size ≤ g) := by
  refine ir72_calls fun ρ h0 => ?_
  simp [ir72, h0]
  refine eff_range (kt := 9) (et := 4) (B := B) (by kernel_rfl) (by simp) hm fun R0 W hR0 hE hr => ?_
  subst hR0
  simp
  have hRlt := hr.lt.2
  have hBlt := hm.lt
  refine loopI (fun ρ' w' => Below (w.heap.size) w w' ∧ ρ' 6 = .pointer (some ⟨w.heap.size, 0, none⟩) ∧ w.heap.size + 1 ≤ w'.heap.size ∧ ∃ vis cur, RangeB w' w.heap.size B ps vis cur ∧ vis.Nodup ∧ (∀ k ∈ vis, k ∈ ps.map (·.1)) ∧ Own (w.heap.size + 1) 9 1 w' (ρ' 3) (vis.reverse.map Value.string))
    (fun ρ' _ => ps.length - slLen (ρ' 3)) ⟨hE, by simp, by omega, [], none, hr, by simp, by simp, by simpa using Own.nil _ _ _ _⟩ ?_
  rintro ρ' w' ⟨hE, h6, hsz, vis, cur, hr, hnd, hin, hO⟩
  have hvl : vis.length ≤ ps.length := by
    have := nodup_le vis (ps.map (·.1)) hnd hin
    simpa using this
  have hsl := hO.sl (by simp; omega)
  have hl3 : slLen (ρ' 3) = vis.length := by rw [hsl.len]; simp
  simp [ir72_l1]
  refine eff_next (R := w.heap.size) (B := B) (by simpa using h6) hr (fun hdone => ?_) (fun k v W2 hkp hkv hO2 hr2 => ?_)
  · simp [ir72_k2]
    refine (lk_sort hO (by omega) (by simp; omega)).mono ?_
    rintro _ w3 ⟨rfl, hsl3, hB3⟩
    simp
    have hnr : vis.reverse.Nodup := (List.reverse_perm vis).nodup_iff.2 hnd
    refine ⟨_, ⟨hsl3, fun s hs => ?_⟩, asc_sortL hnr, fun s => ?_, Below.trans hE (hB3.mono (by omega)), fun g hg => ?_⟩
    · rw [mem_sortL, List.mem_reverse] at hs
      obtain ⟨p, hp, rfl⟩ := List.mem_map.1 (hin s hs)
      exact hks p hp
    · rw [mem_sortL, List.mem_reverse]
      constructor
      · intro h; simpa using hin s h
      · intro h; exact hdone s (by simpa using h)
    · have := hO.blk g (by simpa using hg); omega
  · have hkin : k ∈ ps.map (·.1) := List.mem_map.2 ⟨_, hkp, rfl⟩
    have hnd2 : (k :: vis).Nodup := List.nodup_cons.2 ⟨hkv, hnd⟩
    have hin2 : ∀ x ∈ k :: vis, x ∈ ps.map (·.1) := fun x hx => by
      rcases List.mem_cons.1 hx with rfl | hx
      · exact hkin
      · exact hin x hx
    have hvl2 : (k :: vis).length ≤ ps.length := by
      have := nodup_le _ (ps.map (·.1)) hnd2 hin2
      simpa using this
    simp [ir72_k0, h6]
    refine eff_entry (R := w.heap.size) (B := B) (by simpa using h6) hr2 ?_
    simp
    have hOs := hO.only hO2 (by omega)
    refine eff_lit si22 (by decide) (by decide) (by simp [Value.cells]) fun B3 W3 hB3 hE3 hb3 _ => ?_
    simp [Value.cells] at hb3
    simp
    have hsz2 := hO2.size
    refine eff_appendS (base := w.heap.size + 1) (l := []) ri22 (by have := hE3.size; omega) (by rfl) (by rfl) (show OwnS _ W3 [⟨ρ' 3, 9, 1, vis.reverse.map Value.string⟩] from ⟨hOs.ext hE3, by simp, trivial⟩) (by simpa using hb3.cells (n := 1) (by simp)) (by simp [Value.oneCell']) (by simp; omega) (by simp; omega) fun v4 W4 hB4 ho4 => ?_
    have hOn := ho4.head
    dsimp only at hOn
    have e5 : vis.reverse.map Value.string ++ [Value.string k] = (k :: vis).reverse.map Value.string := by simp
    rw [e5] at hOn
    have hsl4 := hOn.sl (by simp at hvl2 ⊢; omega)
    simp [h6]
    refine ⟨⟨?_, ?_, k :: vis, ⟨_, (hr2.block (hE3.block B (by have := hr2.lt.1; omega)) (hE3.block _ (by have := hr2.lt.2; omega))).block (hB4.block B (by omega)) (hB4.block _ (by omega))⟩, hnd2, by simpa using hin2, by simpa using hOn⟩, ?_⟩
    · exact Below.trans (Below.trans (Below.trans hE (only_below hO2 (Nat.le_refl _))) (hE3.mono (by omega))) (hB4.mono (by omega))
    · have := hE3.size; have := hB4.size; omega
    · rw [hsl4.len, hl3]
      simp at hvl2 ⊢; omega
end Go.L16
/- Layer 16: contracts of the link package: opened. -/
namespace Go.L16
open Go Go.Eng Go.RowKit Go.Proofs
set_option maxRecDepth 10000

/-- Block B is the library l, by names, of its first k objects. -/
structure LibM (w : World) (B : Nat) (l : List Obj) (k : Nat) : Prop where
  ex : ∃ ps, MapB w B ps ∧ (∀ s, (∀ i (h : i < l.length), i < k → l[i].name ≠ s) → lookP ps s = none) ∧ (∀ i (h : i < l.length), i < k → ∃ n c r, lookP ps l[i].name = some (.agg #[n, c, r]) ∧ ObjC w n c r l[i])
theorem LibM.ext {w w' : World} {B k : Nat} {l : List Obj} (h : LibM w B l k) (hE : Ext w w') : LibM w' B l k := by
  obtain ⟨ps, h1, h2, h3⟩ := h.ex
  exact ⟨ps, h1.ext hE, h2, fun i hi hk => let ⟨n, c, r, e, o⟩ := h3 i hi hk; ⟨n, c, r, e, o.ext hE⟩⟩

theorem lk_opened {w : World} {v u : Value} {l : List Obj} {roots : List ByteArray} (hl : SlO w v l) (hr : SlS w u roots) :
    Calls Tryd.prog 67 #[v, u] w fun e w' => ∃ x, e = .returned (.tuple #[x, .int .i64 (askedE l roots)]) ∧ (askedE l roots = 0 → ∃ B, x = .map (some B) ∧ w.heap.size ≤ B ∧ LibM w' B l l.length) ∧ Ext w w' := by
  refine ir67_calls fun ρ h0 h1 => ?_
  simp [ir67, h0]
  refine (lk_CheckAll hl).mono ?_
  rintro _ w1 ⟨rfl, hw1⟩
  by_cases hc : (checkAll l).2 = 0
  · have hok := libOk_of hc
    have h60 := hok.len
    simp [hc, ir67_k5, h1, hr.1.is, hr.1.len]
    by_cases h6 : 60 < roots.length
    · have ha : askedE l roots = 2 := by simp [askedE, hc, h6]
      rw [if_pos (by omega)]
      refine ⟨_, ⟨rfl, ha.symm⟩, by rw [ha]; simp, hw1⟩
    · have ha : askedE l roots = 0 := by simp [askedE, hc, h6]
      rw [if_neg (by omega)]
      simp [ir67_k4]
      refine eff_makeMap fun B W hB hE hm _ => ?_
      have hEW := hw1.trans' hE
      have hBw : w.heap.size ≤ B := by have := hw1.size; omega
      simp [h0, hl.is, hl.len]
      refine loopC 25 l.length (fun k ρ' w' => Ext w w' ∧ ρ' 8 = .map (some B) ∧ ρ' 23 = v ∧ ρ' 24 = .int .i64 l.length ∧ B < w'.heap.size ∧
        ∃ ps, MapB w' B ps ∧ (∀ s, (∀ i (h : i < l.length), i < k → l[i].name ≠ s) → lookP ps s = none) ∧ (∀ i (h : i < l.length), i < k → ∃ n c r, lookP ps l[i].name = some (.agg #[n, c, r]) ∧ ObjC w n c r l[i])) (by simp) ⟨hEW, by simp, by simp, by simp, hm.lt, [], hm, by simp, by simp⟩ ?_
      rintro k ρ' w' hk h25 ⟨hE2, h8, h23, h24, hBlt, ps, hmap, hp1, hp2⟩
      by_cases hlt : k < l.length
      · obtain ⟨n, c, r, c0, c1, c2, ho⟩ := hl.obj k hlt
        have hl' := hl.ext hE2
        simp [ir67_l2, ir67_k1, h25, h24, h23, hlt, hl'.is, hl'.len, hE2.cell c0, hE2.cell c1, hE2.cell c2]
        refine eff_var z45 (fun v => by simp) (by simp [Value.cells]) (by simp [Value.cells, ho.name, isSl_one ho.code.is, isSl_one ho.rels.is]) sz45 fun Bo W3 hBo hE3 hbo _ => ?_
        simp [Value.cells] at hbo
        simp [h8, hbo.cell, ho.name]
        refine eff_mapUpdate (s := l[k].name) (kt := 9) (et := 45) (by kernel_rfl) (by kernel_rfl) (by simp) (by simp) (hmap.ext hE3) fun W4 hO4 hm4 => ?_
        simp [ho.name] at hm4
        simp [ir67_k0, h25, h8, h23, h24, i64w (n := (k : Int) + 1) (by omega)]
        refine ⟨hO4.ext (hE2.trans' hE3) hBw, by rw [hO4.size]; have := hE3.size; omega, _, hm4, fun s hs => ?_, fun i hi hik => ?_⟩
        · rw [look_setP, if_neg (hs k hlt (by omega))]
          exact hp1 s fun i hi hik => hs i hi (by omega)
        · rw [look_setP]
          by_cases hne : l[k].name = l[i].name
          · have hki := hok.diff k i hlt hi hne
            subst hki
            rw [if_pos rfl]
            exact ⟨_, _, _, by rw [← ho.name], ho⟩
          · rw [if_neg hne]
            exact hp2 i hi (by
              have : i ≠ k := by rintro rfl; exact hne rfl
              omega)
      · have hk' : k = l.length := by omega
        subst hk'
        simp [ir67_l2, ir67_k3, h25, h24, h8]
        exact ⟨_, ⟨rfl, ha.symm⟩, fun _ => ⟨B, rfl, hBw, ⟨ps, hmap, hp1, fun i hi hik => let ⟨n, c, r, e, o⟩ := hp2 i hi hik; ⟨n, c, r, e, o.ext hE2⟩⟩⟩, hE2⟩
  · have ha : askedE l roots = (checkAll l).2 := by simp [askedE, hc]
    simp [hc]
    exact ⟨_, ⟨rfl, ha.symm⟩, by rw [ha]; exact fun h => absurd h hc, hw1⟩
end Go.L16
