/- Texts of mine for the claims about layer 17 (heap), joined: L17SHELF, L17b, L17c, L17d, L17e, L17f, L17g, L17h, L17i, L17j, L17k, L17l, L17m, L17Ie. -/
import Derived.Test.YtbopdbinllokkaaGreatJav
import Derived.Test.YtbopdbinllokkaaGreatShelf
import Derived.Test.YtbopdbinllokkaaGreatProg
import Derived.KernelRfl
set_option linter.all false
set_option linter.unusedSimpArgs false
set_option linter.unusedVariables false

namespace Go.L17
open Go Go.Eng Go.RowKit
open Go.Proofs hiding encI
set_option maxRecDepth 100000
set_option maxHeartbeats 2000000
def sortI (ks : List Int) : List Int := ks.mergeSort fun x y => decide (x ≤ y)
theorem sortI_len (ks : List Int) : (sortI ks).length = ks.length := by simp [sortI]
theorem mem_sortI {ks : List Int} {n : Int} : n ∈ sortI ks ↔ n ∈ ks := by simp [sortI, List.mem_mergeSort]
theorem sortI_sorted (ks : List Int) : (sortI ks).Pairwise (· ≤ ·) := by
 have := List.pairwise_mergeSort (le := fun x y : Int => decide (x ≤ y)) (fun a b c h1 h2 => by simp at *; omega) (fun a b => by simp; omega) ks
 exact this.imp fun h => by simpa using h
theorem sorted_unique {a b : List Int} (ha : a.Pairwise (· < ·)) (hb : b.Pairwise (· < ·)) (h : ∀ n, n ∈ a ↔ n ∈ b) : a = b := by
 have hp : a.Perm b := (List.perm_ext_iff_of_nodup (ha.imp fun h e => by omega) (hb.imp fun h e => by omega)).2 h
 exact hp.eq_of_pairwise (le := (· < ·)) (fun x y _ _ h1 h2 => by omega) ha hb
theorem sortI_eq {ks l : List Int} (hn : ks.Nodup) (hl : l.Pairwise (· < ·)) (h : ∀ n, n ∈ ks ↔ n ∈ l) : sortI ks = l := by
 have hnd : (sortI ks).Nodup := (List.mergeSort_perm _ _).nodup_iff.2 hn
 refine sorted_unique ?_ hl fun n => by rw [mem_sortI, h]
 refine ((sortI_sorted ks).and hnd).imp fun {a b} h => ?_
 have h1 := h.1
 have h2 : a ≠ b := h.2
 omega
theorem sorted_row {w : World} {base : Nat} {g off n cap : Nat} {cur : Array Value} {ks : List Int} (hb : base ≤ g) (hg : w.heap[g]? = some (.cells cur 3)) (hn : n = ks.length) (hnc : n ≤ cap) (hm : cap ≤ maxLen) (hcs : off + cap * 1 ≤ cur.size) (m : Nat) (os : Array Obj) :
  Own base 3 1 (Sort.grow (Sort.putRow (Value.int .i64) (Sort.ahead w m) g off (sortI ks).toArray) os) (.slice (some ⟨g, off, none⟩) n cap) ((sortI ks).map encI) ∧
  Fr (fun k => k = g) w (Sort.grow (Sort.putRow (Value.int .i64) (Sort.ahead w m) g off (sortI ks).toArray) os) := by
 have hgl : g < w.heap.size := (Array.getElem?_eq_some_iff.1 hg).1
 have hlen : (sortI ks).length = n := by rw [sortI_len, hn]
 have hheap : (Sort.grow (Sort.putRow (Value.int .i64) (Sort.ahead w m) g off (sortI ks).toArray) os).heap[g]? = some (.cells (Sort.putCells (Value.int .i64) off (sortI ks).toArray cur) 3 (0, 0)) := by
  rw [Sort.heap_grow_old _ _ (by simpa [Sort.putRow, Sort.mapBlock] using hgl)]
  simp [Sort.putRow, Sort.mapBlock, Sort.ahead, Array.getElem?_modify, hg, Sort.onCells]
 refine ⟨.inr ⟨g, off, n, cap, _, rfl, hb, hheap, by simp [hlen], hnc, hm, by simpa [Sort.putCells] using hcs, ?_⟩, ⟨rfl, rfl, rfl, by simp [Sort.grow, Sort.putRow, Sort.mapBlock, Sort.ahead], fun k hk hne => ?_⟩⟩
 ·apply List.ext_getElem?
  intro i
  rw [List.getElem?_take, List.getElem?_drop]
  by_cases hi : i < n
  ·have hsz : off + i < cur.size := by omega
   have hi2 : i < (sortI ks).length := by omega
   simp [hi, Sort.putCells, hsz, hi2, encI]
  ·have : ((sortI ks).map encI)[i]? = none := by rw [List.getElem?_eq_none_iff]; simp; omega
   rw [this, if_neg (by omega)]
 ·rw [Sort.heap_grow_old _ _ (by simp [Sort.putRow, Sort.mapBlock, Sort.ahead]; omega)]
  have : g ≠ k := fun e => hne e.symm
  simp [Sort.putRow, Sort.mapBlock, Sort.ahead, Array.getElem?_modify, this]
theorem row_holds {w : World} {base : Nat} {g off n cap : Nat} {ks : List Int} (h : Own base 3 1 w (.slice (some ⟨g, off, none⟩) n cap) (ks.map encI)) (hl : ks.length < 4611686018427387904) : Sort.Holds (Value.int .i64) w g off ks.toArray := by
 intro j hj
 have hj' : j < ks.length := by simpa using hj
 have hc := (h.sl (enc := encI) hl).cell j hj'
 simp only [slAddr, add_lit] at hc
 rcases h with ⟨h, _⟩ | ⟨g', off', n', cap', cur, he, hb, hg, hn, hnc, hm, hcs, ht⟩
 ·cases h
 ·cases he
  refine ⟨?_, by simp [World.frozen?, hg]⟩
  rw [hc]
  simp [hj', encI]
@[simp] theorem cb111 : callB Tryz.prog 111 = true := by kernel_rfl
@[simp] theorem cb140 : callB Tryz.prog 140 = true := by kernel_rfl
@[simp] theorem cb86 : callB Tryz.prog 86 = true := by kernel_rfl
@[simp] theorem cb126 : callB Tryz.prog 126 = true := by kernel_rfl
theorem t_Sort {w : World} {base : Nat} {v : Value} {ks : List Int} (hO : Own base 3 1 w v (ks.map encI)) (hl : ks.length < 4611686018427387904) :
  Calls Tryz.prog 111 #[v] w fun e w' => e = .returned (.tuple #[]) ∧ Own base 3 1 w' v ((sortI ks).map encI) ∧ Fr (fun k => v.ownBlock = some k) w w' := by
 rcases hO with ⟨rfl, hks⟩ | ⟨g, off, n, cap, cur, rfl, hb, hg, hn, hnc, hm, hcs, ht⟩
 ·have : ks = [] := by simpa using hks
  subst this
  refine (Tryz.sort_none none 0 w).mono ?_
  rintro _ _ ⟨rfl, rfl⟩
  exact ⟨rfl, .inl ⟨rfl, by simp [sortI]⟩, Fr.of (ext_refl _)⟩
 ·have hn' : n = ks.length := by simp at hn; omega
  have hgl : g < w.heap.size := (Array.getElem?_eq_some_iff.1 hg).1
  have hc := Tryz.sort_some g off cap ks w (row_holds (.inr ⟨g, off, n, cap, cur, rfl, hb, hg, hn, hnc, hm, hcs, ht⟩) hl) hgl hl
  rw [← hn'] at hc
  refine hc.mono ?_
  rintro _ _ ⟨rfl, m, os, rfl⟩
  obtain ⟨h1, h2⟩ := sorted_row hb hg hn' hnc hm hcs m os
  exact ⟨rfl, h1, h2.mono fun x h => .inl (by rw [h]; rfl)⟩
open Go.Lib Go.Sort in
theorem lt_cmp (x y : Int) : ltOf Lib.compareInt x y = decide (x < y) := by
 unfold ltOf Lib.compareInt
 by_cases h1 : x < y
 ·simp [h1]
 ·by_cases h2 : y < x <;> simp [h1, h2]
open Go.Lib Go.Sort in
theorem t_SortFunc {w : World} {base : Nat} {v : Value} {ks : List Int} (hO : Own base 3 1 w v (ks.map encI)) (hl : ks.length < 4611686018427387904) :
  Calls Tryz.prog 140 #[v, .func (.func 89) #[] #[]] w fun e w' => e = .returned (.tuple #[]) ∧ Own base 3 1 w' v ((sortI ks).map encI) ∧ Fr (fun k => v.ownBlock = some k) w w' := by
 rcases hO with ⟨rfl, hks⟩ | ⟨g, off, n, cap, cur, rfl, hb, hg, hn, hnc, hm, hcs, ht⟩
 ·have : ks = [] := by simpa using hks
  subst this
  refine (Tryz.sortF_none none 0 _ w).mono ?_
  rintro _ _ ⟨rfl, rfl⟩
  exact ⟨rfl, .inl ⟨rfl, by simp [sortI]⟩, Fr.of (ext_refl _)⟩
 ·have hn' : n = ks.length := by simp at hn; omega
  have hgl : g < w.heap.size := (Array.getElem?_eq_some_iff.1 hg).1
  have hc := Tryz.sortF_some Lib.compareInt ⟨fun x => by rw [lt_cmp]; simp, fun x y z h1 h2 => by rw [lt_cmp] at *; simp at *; omega, fun x y z h1 h2 => by rw [lt_cmp] at *; simp at *; omega⟩ 89 #[] g off cap ks.toArray w
   (enters_of Tryz.func89 (by kernel_rfl) rfl) (CmpReads.lays fun m os dk _ x y => (Tryz.compare x y _).mono fun e w' h => ⟨h.1, 0, by rw [h.2]; rfl⟩) (row_holds (.inr ⟨g, off, n, cap, cur, rfl, hb, hg, hn, hnc, hm, hcs, ht⟩) hl) hgl (by simpa using hl) (fun x y h1 h2 => by rw [lt_cmp] at *; simp at *; omega)
  have hs : (ks.toArray.toList.mergeSort fun x y => !(ltOf Lib.compareInt) y x) = sortI ks := by
   have : (fun x y : Int => !(ltOf Lib.compareInt) y x) = fun x y => decide (x ≤ y) := by
    funext x y
    rw [lt_cmp]
    by_cases h : x ≤ y
    ·have h' : ¬ y < x := by omega
     simp [h, h']
    ·have h' : y < x := by omega
     simp [h, h']
   rw [this]; rfl
  rw [hs] at hc
  have e0 : ks.toArray.size = n := by simp [hn']
  rw [e0] at hc
  refine hc.mono ?_
  rintro _ _ ⟨rfl, m, os, rfl⟩
  obtain ⟨h1, h2⟩ := sorted_row hb hg hn' hnc hm hcs m os
  exact ⟨rfl, h1, h2.mono fun x h => .inl (by rw [h]; rfl)⟩
end Go.L17
namespace Go.L17
open Go Go.Eng Go.RowKit
open Go.Proofs hiding encI
set_option maxRecDepth 100000
set_option maxHeartbeats 2000000
theorem cb127 : callB Tryz.prog 127 = true := by kernel_rfl
theorem cb155 : callB Tryz.prog 155 = true := by kernel_rfl
@[simp] theorem cb87 : callB Tryz.prog 87 = true := by kernel_rfl
@[simp] theorem cb142 : callB Tryz.prog 142 = true := by kernel_rfl
@[simp] theorem cb135 : callB Tryz.prog 135 = true := by kernel_rfl
theorem nodup_le' : ∀ (a b : List Int), a.Nodup → (∀ x ∈ a, x ∈ b) → a.length ≤ b.length
 | [], b, _, _ => by simp
 | x :: a, b, hn, h => by
  obtain ⟨h1, h2⟩ := List.nodup_cons.1 hn
  have ih := nodup_le' a (b.erase x) h2 fun y hy => by
   have hyx : y ≠ x := fun e => h1 (e ▸ hy)
   exact (List.mem_erase_of_ne hyx).2 (h y (by simp [hy]))
  have hx := h x (by simp)
  rw [List.length_erase_of_mem hx] at ih
  have := List.length_pos_of_mem hx
  simp
  omega
theorem sortI_perm {a b : List Int} (h : a.Perm b) : sortI a = sortI b := by
 have hp : (sortI a).Perm (sortI b) := ((List.mergeSort_perm _ _).trans h).trans (List.mergeSort_perm _ _).symm
 exact hp.eq_of_pairwise (le := (· ≤ ·)) (fun x y _ _ h1 h2 => by omega) (sortI_sorted a) (sortI_sorted b)
def KeysR (w : World) (ps : List (Int × Value)) : Ending → World → Prop := fun e w' => ∃ (x : Value) (ks : List Int), e = .returned x ∧ Own w.heap.size 3 1 w' x (ks.map encI) ∧ ks.Nodup ∧ (∀ k, k ∈ ks ↔ k ∈ ps.map (·.1)) ∧ Ext w w'
theorem t_AppendK155 {w : World} {Bm M : Nat} {ps : List (Int × Value)} (hb : Blk w Bm #[.map (some M)] 91) (hm : I.MapB w M ps) (hlen : ps.length ≤ 1000000) :
  Calls Tryz.prog 141 #[.slice none 0 0, .func (.func 155) #[] #[.pointer (some ⟨Bm, 0, none⟩)]] w (KeysR w ps) := by
 obtain ⟨R0, hR0⟩ : ∃ R0, R0 = KeysR w ps := ⟨_, rfl⟩
 rw [← hR0]
 refine ir141_calls fun ρ r0 r1 rg => ?_
 have rg' : ρ 1000000000 = .tuple #[] := rg
 simp [ir141, r0]
 refine eff_box fun S W1 hS hE1 hbS hs1 => ?_
 simp [r0, Value.cells] at hbS
 simp [r1]
 obtain ⟨bA, bB, hrf, hpA, hpB⟩ := ir141_rf0
 rw [hrf]
 have lS := hbS.lt
 have z1 := hE1.size
 refine raw_range (gf := 155) (lb := #[.pointer (some ⟨Bm, 0, none⟩)]) (by simp [dAny]) (by simp) (by decide) cb155 fun a rec W2 hag hrt hrp hra hrb hrs hrpd hE2 hsz2 hL2 => ?_
 have hE02 := hE1.trans' hE2
 have hb2 := hb.ext hE02
 have hm2 := hm.ext hE02
 simp
 refine ir155_calls fun ρ2 s0 s1 => ?_
 simp [ir155, s1, hb2.cell]
 refine I.eff_range (kt := 3) (et := 129) (B := M) und91 (by simp) hm2 fun R W3 hR0 hE3 hr => ?_
 subst hR0
 have hF : CF w (fun k => k = W2.heap.size) W3 S (W1.heap.size + 1) W1.heap.size := ⟨⟨by omega, by omega, by omega⟩, ⟨by omega, by omega, by omega⟩, ⟨by omega, by omega, by omega⟩, fun k hk => by rw [hk]; exact hr.lt.2⟩
 have lM := hm.lt
 simp
 obtain ⟨J, hJ⟩ : ∃ J : Nat → Env → World → Prop, ∀ n ρ' W, J n ρ' W ↔ (ρ' 0 = .func (.yield (W1.heap.size + 1)) #[] #[] ∧ ρ' 5 = .pointer (some ⟨W2.heap.size, 0, none⟩) ∧ ∃ vis cur lv, I.RangeB W W2.heap.size M ps vis cur ∧ vis.Nodup ∧ (∀ k ∈ vis, k ∈ ps.map (·.1)) ∧ CJ w (fun k => k = W2.heap.size) W S (W1.heap.size + 1) W1.heap.size rec lv vis.reverse W ∧ W3.heap.size ≤ W.heap.size ∧ n + vis.length = ps.length) := ⟨_, fun _ _ _ => Iff.rfl⟩
 refine loopN J ps.length ((hJ _ _ _).2 ⟨by simp [s0], by simp, [], none, .slice none 0 0, hr, List.nodup_nil, fun _ h => (by cases h), ⟨hE02.trans' hE3, hL2.ext hE3, (hbS.ext hE2).ext hE3, Own.nil _ _ _ _, by simp [Value.ownBlock], fun _ _ => rfl, Nat.le_refl _⟩, Nat.le_refl _, by simp⟩) ?_
 intro n ρ' W hj
 obtain ⟨q0, q5, vis, cur, lv, hr, hnd, hin, hC, hsz, hn⟩ := (hJ _ _ _).1 hj
 simp [ir155_l1]
 refine I.eff_next (R := W2.heap.size) (B := M) (by simpa using q5) hr (fun hdone => ?_) (fun k v W4 hkp hkv hO4 hr4 => ?_)
 ·simp
  refine ⟨.ready, none, by simp, hC.lp.ready' hrs hrpd, fun W7 hO7 hL7 => ?_⟩
  have hF' : CF w (fun k => k = W2.heap.size) W S (W1.heap.size + 1) W1.heap.size := ⟨hF.lo, hF.ne, hF.nk, fun k hk => by rw [hk]; exact hr.lt.2⟩
  have h7 := hC.round hF' hO7 hL7
  simp [ir141_k0, h7.bl.cell]
  refine end_mark (Db := W1.heap.size) (by simp [gS, rg']) hL7.col fun w8 hO8 => ?_
  simp
  rw [hR0]
  exact ⟨_, vis.reverse, rfl, Own.same' h7.own fun k hk => hO8.block k (h7.ne k hk).2.2.1, (List.reverse_perm vis).nodup_iff.2 hnd, fun k => by rw [List.mem_reverse]; exact ⟨hin k, hdone k⟩, hO8.ext h7.ext hF.lo.2.2⟩
 ·have hkin : k ∈ ps.map (·.1) := List.mem_map.2 ⟨_, hkp, rfl⟩
  have hnd2 : (k :: vis).Nodup := List.nodup_cons.2 ⟨hkv, hnd⟩
  have hin2 : ∀ x ∈ k :: vis, x ∈ ps.map (·.1) := fun x hx => by
   rcases List.mem_cons.1 hx with rfl | hx
   ·exact hkin
   ·exact hin x hx
  have hvl2 : (k :: vis).length ≤ ps.length := by
   have := nodup_le' _ (ps.map (·.1)) hnd2 hin2
   simpa using this
  have hlt4 := hr4.lt
  have sz4 := hO4.size
  have lW1 := hC.lp.lt
  simp [ir155_k0, q5]
  refine I.eff_entry (R := W2.heap.size) (B := M) (by simpa using q5) hr4 ?_
  simp [q0]
  have hC4 : CJ w (fun k => k = W2.heap.size) W4 S (W1.heap.size + 1) W1.heap.size rec lv vis.reverse W4 :=
   ⟨hO4.ext hC.ext (by omega), hC.lp.keep (hO4.block _ (by omega)) (hO4.block _ (by omega)), hO4.blk hC.bl (by omega), Own.same' hC.own fun x hx => hO4.block x (hC.ne x hx).2.2.2, hC.ne, fun _ _ => rfl, Nat.le_refl _⟩
  have hF4 : CF w (fun k => k = W2.heap.size) W4 S (W1.heap.size + 1) W1.heap.size := ⟨hF.lo, hF.ne, hF.nk, fun k hk => by rw [hk]; exact hlt4.2⟩
  refine eff_yield (l := W1.heap.size + 1) (by simp) (by simp) ?_
  simp
  have key : YieldR Tryz.prog (W1.heap.size + 1) #[.int .i64 k] W4 fun e W' => e = .returned (.bool true) ∧ ∃ lv', CJ w (fun k => k = W2.heap.size) W4 S (W1.heap.size + 1) W1.heap.size rec lv' (vis.reverse ++ [k]) W' := by
   refine yield_of hC4.lp hrs hag hrt hrp (by rfl) (by decide) (by rw [hra]; exact hpA) (by rw [hrb]; exact hpB) ?_
   simp [parEnv, ir141_a0]
   refine ⟨hC4.lp, fun W5 hO5 hL5 => ?_⟩
   have h5 := hC4.round hF4 hO5 hL5
   simp [ir141_b0, h5.bl.cell]
   refine eff_lit si35 (by decide) (by decide) (by simp [Value.cells]) fun B9 W6 hB9 hE6 hb9 _ => ?_
   simp [Value.cells] at hb9
   have h6 := h5.new hF4 hE6
   have hO9 : Own w.heap.size 3 1 W6 (.slice (some ⟨B9, 0, none⟩) 1 1) [.int .i64 k] := Own.lit hb9 rfl (by have := h5.ext.size; omega) (by decide)
   simp
   refine eff_appendG ri35 h6.ext.size (by simp) (by simp) h6.own (own_cells hO9) (by simp; rfl) (by simp at hvl2 ⊢; omega) (by simp at hvl2 ⊢; omega) fun lv' W7 ho7 hg7 hf7 => ?_
   have hone := own_one ho7
   have hbl7 : Blk W7 S #[lv] 35 := ⟨(hg7.block S h6.bl.lt (fun e => (h6.ne S e.symm).1 rfl)).trans h6.bl.heap⟩
   simp
   refine eff_store1 (B := S) (i := 0) (by simp) hbl7 (by simp) (by simpa using hone.1) (by simpa using hone.2) sz35 fun W8 hO8 hb8 => ?_
   simp at hb8
   have h8 := h6.app (ys := vis.reverse ++ [k]) hF4 (ext_refl _) hg7 (by simpa [encI] using ho7) hf7 hO8 hb8
   simp [roundK]
   refine ⟨h8.lp, fun W9 hO9' hL9 => ?_⟩
   exact ⟨lv', h8.round hF4 hO9' (hL9.ready hrs hrpd)⟩
  refine key.mono ?_
  rintro _ W5 ⟨rfl, lv', h5⟩
  have hM5 : W5.heap[M]? = W4.heap[M]? := by
   have e1 := h5.ext.block M lM
   have e2 := hC4.ext.block M lM
   rw [e1, e2]
  simp
  refine ⟨n - 1, by simp at hvl2; omega, (hJ _ _ _).2 ⟨by simp [q0], by simp [q5], k :: vis, some (k, v), lv', hr4.block hM5 (h5.kept _ rfl), hnd2, hin2, ?_, by have := h5.size; omega, by simp at hvl2 ⊢; omega⟩⟩
  exact ⟨h5.ext, h5.lp, h5.bl, by simpa using h5.own, h5.ne, fun _ _ => rfl, Nat.le_refl _⟩
theorem t_CollectK155 {w : World} {Bm M : Nat} {ps : List (Int × Value)} (hb : Blk w Bm #[.map (some M)] 91) (hm : I.MapB w M ps) (hlen : ps.length ≤ 1000000) :
  Calls Tryz.prog 126 #[.func (.func 155) #[] #[.pointer (some ⟨Bm, 0, none⟩)], .func (.func 89) #[] #[]] w fun e w' => ∃ x, e = .returned x ∧ Own w.heap.size 3 1 w' x ((sortI (ps.map (·.1))).map encI) ∧ Ext w w' := by
 refine ir126_calls fun ρ r0 r1 => ?_
 simp [ir126, r0]
 have h133 : Calls Tryz.prog 133 #[.func (.func 155) #[] #[.pointer (some ⟨Bm, 0, none⟩)]] w (KeysR w ps) := by
  obtain ⟨R0, hR0⟩ : ∃ R0, R0 = KeysR w ps := ⟨_, rfl⟩
  rw [← hR0]
  refine ir133_calls fun ρ2 s0 => ?_
  simp [ir133, s0]
  refine (t_AppendK155 hb hm hlen).mono ?_
  rintro _ w' ⟨x, ks, rfl, hx, hn, hk, hE⟩
  simp
  rw [hR0]
  exact ⟨x, ks, rfl, hx, hn, hk, hE⟩
 refine h133.mono ?_
 rintro _ w' ⟨x, ks, rfl, hx, hn, hk, hE⟩
 have hkl : ks.length ≤ 1000000 := by
  have := nodup_le' ks (ps.map (·.1)) hn fun k hk' => (hk k).1 hk'
  simp at this
  omega
 simp [r1]
 refine (t_SortFunc hx (by omega)).mono ?_
 rintro _ w2 ⟨rfl, hx2, hF⟩
 simp
 have hs : sortI ks = sortI (ps.map (·.1)) := sortI_perm ((List.perm_ext_iff_of_nodup hn hm.nodup).2 hk)
 rw [hs] at hx2
 exact ⟨hx2, hF.ext hE fun b hb' => (Own.blk hx b hb').1⟩
theorem t_AppendK127 {w : World} {Bm M : Nat} {ps : List (Int × Value)} (hb : Blk w Bm #[.map (some M)] 106) (hm : I.MapB w M ps) (hlen : ps.length ≤ 1000000) :
  Calls Tryz.prog 141 #[.slice none 0 0, .func (.func 127) #[] #[.pointer (some ⟨Bm, 0, none⟩)]] w (KeysR w ps) := by
 obtain ⟨R0, hR0⟩ : ∃ R0, R0 = KeysR w ps := ⟨_, rfl⟩
 rw [← hR0]
 refine ir141_calls fun ρ r0 r1 rg => ?_
 have rg' : ρ 1000000000 = .tuple #[] := rg
 simp [ir141, r0]
 refine eff_box fun S W1 hS hE1 hbS hs1 => ?_
 simp [r0, Value.cells] at hbS
 simp [r1]
 obtain ⟨bA, bB, hrf, hpA, hpB⟩ := ir141_rf0
 rw [hrf]
 have lS := hbS.lt
 have z1 := hE1.size
 refine raw_range (gf := 127) (lb := #[.pointer (some ⟨Bm, 0, none⟩)]) (by simp [dAny]) (by simp) (by decide) cb127 fun a rec W2 hag hrt hrp hra hrb hrs hrpd hE2 hsz2 hL2 => ?_
 have hE02 := hE1.trans' hE2
 have hb2 := hb.ext hE02
 have hm2 := hm.ext hE02
 simp
 refine ir127_calls fun ρ2 s0 s1 => ?_
 simp [ir127, s1, hb2.cell]
 refine I.eff_range (kt := 3) (et := 4) (B := M) und106 (by simp) hm2 fun R W3 hR0 hE3 hr => ?_
 subst hR0
 have hF : CF w (fun k => k = W2.heap.size) W3 S (W1.heap.size + 1) W1.heap.size := ⟨⟨by omega, by omega, by omega⟩, ⟨by omega, by omega, by omega⟩, ⟨by omega, by omega, by omega⟩, fun k hk => by rw [hk]; exact hr.lt.2⟩
 have lM := hm.lt
 simp
 obtain ⟨J, hJ⟩ : ∃ J : Nat → Env → World → Prop, ∀ n ρ' W, J n ρ' W ↔ (ρ' 0 = .func (.yield (W1.heap.size + 1)) #[] #[] ∧ ρ' 5 = .pointer (some ⟨W2.heap.size, 0, none⟩) ∧ ∃ vis cur lv, I.RangeB W W2.heap.size M ps vis cur ∧ vis.Nodup ∧ (∀ k ∈ vis, k ∈ ps.map (·.1)) ∧ CJ w (fun k => k = W2.heap.size) W S (W1.heap.size + 1) W1.heap.size rec lv vis.reverse W ∧ W3.heap.size ≤ W.heap.size ∧ n + vis.length = ps.length) := ⟨_, fun _ _ _ => Iff.rfl⟩
 refine loopN J ps.length ((hJ _ _ _).2 ⟨by simp [s0], by simp, [], none, .slice none 0 0, hr, List.nodup_nil, fun _ h => (by cases h), ⟨hE02.trans' hE3, hL2.ext hE3, (hbS.ext hE2).ext hE3, Own.nil _ _ _ _, by simp [Value.ownBlock], fun _ _ => rfl, Nat.le_refl _⟩, Nat.le_refl _, by simp⟩) ?_
 intro n ρ' W hj
 obtain ⟨q0, q5, vis, cur, lv, hr, hnd, hin, hC, hsz, hn⟩ := (hJ _ _ _).1 hj
 simp [ir127_l1]
 refine I.eff_next (R := W2.heap.size) (B := M) (by simpa using q5) hr (fun hdone => ?_) (fun k v W4 hkp hkv hO4 hr4 => ?_)
 ·simp
  refine ⟨.ready, none, by simp, hC.lp.ready' hrs hrpd, fun W7 hO7 hL7 => ?_⟩
  have hF' : CF w (fun k => k = W2.heap.size) W S (W1.heap.size + 1) W1.heap.size := ⟨hF.lo, hF.ne, hF.nk, fun k hk => by rw [hk]; exact hr.lt.2⟩
  have h7 := hC.round hF' hO7 hL7
  simp [ir141_k0, h7.bl.cell]
  refine end_mark (Db := W1.heap.size) (by simp [gS, rg']) hL7.col fun w8 hO8 => ?_
  simp
  rw [hR0]
  exact ⟨_, vis.reverse, rfl, Own.same' h7.own fun k hk => hO8.block k (h7.ne k hk).2.2.1, (List.reverse_perm vis).nodup_iff.2 hnd, fun k => by rw [List.mem_reverse]; exact ⟨hin k, hdone k⟩, hO8.ext h7.ext hF.lo.2.2⟩
 ·have hkin : k ∈ ps.map (·.1) := List.mem_map.2 ⟨_, hkp, rfl⟩
  have hnd2 : (k :: vis).Nodup := List.nodup_cons.2 ⟨hkv, hnd⟩
  have hin2 : ∀ x ∈ k :: vis, x ∈ ps.map (·.1) := fun x hx => by
   rcases List.mem_cons.1 hx with rfl | hx
   ·exact hkin
   ·exact hin x hx
  have hvl2 : (k :: vis).length ≤ ps.length := by
   have := nodup_le' _ (ps.map (·.1)) hnd2 hin2
   simpa using this
  have hlt4 := hr4.lt
  have sz4 := hO4.size
  have lW1 := hC.lp.lt
  simp [ir127_k0, q5]
  refine I.eff_entry (R := W2.heap.size) (B := M) (by simpa using q5) hr4 ?_
  simp [q0]
  have hC4 : CJ w (fun k => k = W2.heap.size) W4 S (W1.heap.size + 1) W1.heap.size rec lv vis.reverse W4 :=
   ⟨hO4.ext hC.ext (by omega), hC.lp.keep (hO4.block _ (by omega)) (hO4.block _ (by omega)), hO4.blk hC.bl (by omega), Own.same' hC.own fun x hx => hO4.block x (hC.ne x hx).2.2.2, hC.ne, fun _ _ => rfl, Nat.le_refl _⟩
  have hF4 : CF w (fun k => k = W2.heap.size) W4 S (W1.heap.size + 1) W1.heap.size := ⟨hF.lo, hF.ne, hF.nk, fun k hk => by rw [hk]; exact hlt4.2⟩
  refine eff_yield (l := W1.heap.size + 1) (by simp) (by simp) ?_
  simp
  have key : YieldR Tryz.prog (W1.heap.size + 1) #[.int .i64 k] W4 fun e W' => e = .returned (.bool true) ∧ ∃ lv', CJ w (fun k => k = W2.heap.size) W4 S (W1.heap.size + 1) W1.heap.size rec lv' (vis.reverse ++ [k]) W' := by
   refine yield_of hC4.lp hrs hag hrt hrp (by rfl) (by decide) (by rw [hra]; exact hpA) (by rw [hrb]; exact hpB) ?_
   simp [parEnv, ir141_a0]
   refine ⟨hC4.lp, fun W5 hO5 hL5 => ?_⟩
   have h5 := hC4.round hF4 hO5 hL5
   simp [ir141_b0, h5.bl.cell]
   refine eff_lit si35 (by decide) (by decide) (by simp [Value.cells]) fun B9 W6 hB9 hE6 hb9 _ => ?_
   simp [Value.cells] at hb9
   have h6 := h5.new hF4 hE6
   have hO9 : Own w.heap.size 3 1 W6 (.slice (some ⟨B9, 0, none⟩) 1 1) [.int .i64 k] := Own.lit hb9 rfl (by have := h5.ext.size; omega) (by decide)
   simp
   refine eff_appendG ri35 h6.ext.size (by simp) (by simp) h6.own (own_cells hO9) (by simp; rfl) (by simp at hvl2 ⊢; omega) (by simp at hvl2 ⊢; omega) fun lv' W7 ho7 hg7 hf7 => ?_
   have hone := own_one ho7
   have hbl7 : Blk W7 S #[lv] 35 := ⟨(hg7.block S h6.bl.lt (fun e => (h6.ne S e.symm).1 rfl)).trans h6.bl.heap⟩
   simp
   refine eff_store1 (B := S) (i := 0) (by simp) hbl7 (by simp) (by simpa using hone.1) (by simpa using hone.2) sz35 fun W8 hO8 hb8 => ?_
   simp at hb8
   have h8 := h6.app (ys := vis.reverse ++ [k]) hF4 (ext_refl _) hg7 (by simpa [encI] using ho7) hf7 hO8 hb8
   simp [roundK]
   refine ⟨h8.lp, fun W9 hO9' hL9 => ?_⟩
   exact ⟨lv', h8.round hF4 hO9' (hL9.ready hrs hrpd)⟩
  refine key.mono ?_
  rintro _ W5 ⟨rfl, lv', h5⟩
  have hM5 : W5.heap[M]? = W4.heap[M]? := by
   have e1 := h5.ext.block M lM
   have e2 := hC4.ext.block M lM
   rw [e1, e2]
  simp
  refine ⟨n - 1, by simp at hvl2; omega, (hJ _ _ _).2 ⟨by simp [q0], by simp [q5], k :: vis, some (k, v), lv', hr4.block hM5 (h5.kept _ rfl), hnd2, hin2, ?_, by have := h5.size; omega, by simp at hvl2 ⊢; omega⟩⟩
  exact ⟨h5.ext, h5.lp, h5.bl, by simpa using h5.own, h5.ne, fun _ _ => rfl, Nat.le_refl _⟩
theorem t_CollectK127 {w : World} {Bm M : Nat} {ps : List (Int × Value)} (hb : Blk w Bm #[.map (some M)] 106) (hm : I.MapB w M ps) (hlen : ps.length ≤ 1000000) :
  Calls Tryz.prog 126 #[.func (.func 127) #[] #[.pointer (some ⟨Bm, 0, none⟩)], .func (.func 89) #[] #[]] w fun e w' => ∃ x, e = .returned x ∧ Own w.heap.size 3 1 w' x ((sortI (ps.map (·.1))).map encI) ∧ Ext w w' := by
 refine ir126_calls fun ρ r0 r1 => ?_
 simp [ir126, r0]
 have h133 : Calls Tryz.prog 133 #[.func (.func 127) #[] #[.pointer (some ⟨Bm, 0, none⟩)]] w (KeysR w ps) := by
  obtain ⟨R0, hR0⟩ : ∃ R0, R0 = KeysR w ps := ⟨_, rfl⟩
  rw [← hR0]
  refine ir133_calls fun ρ2 s0 => ?_
  simp [ir133, s0]
  refine (t_AppendK127 hb hm hlen).mono ?_
  rintro _ w' ⟨x, ks, rfl, hx, hn, hk, hE⟩
  simp
  rw [hR0]
  exact ⟨x, ks, rfl, hx, hn, hk, hE⟩
 refine h133.mono ?_
 rintro _ w' ⟨x, ks, rfl, hx, hn, hk, hE⟩
 have hkl : ks.length ≤ 1000000 := by
  have := nodup_le' ks (ps.map (·.1)) hn fun k hk' => (hk k).1 hk'
  simp at this
  omega
 simp [r1]
 refine (t_SortFunc hx (by omega)).mono ?_
 rintro _ w2 ⟨rfl, hx2, hF⟩
 simp
 have hs : sortI ks = sortI (ps.map (·.1)) := sortI_perm ((List.perm_ext_iff_of_nodup hn hm.nodup).2 hk)
 rw [hs] at hx2
 exact ⟨hx2, hF.ext hE fun b hb' => (Own.blk hx b hb').1⟩
end Go.L17
namespace Go.L17
open Go Go.Eng Go.RowKit
open Go.Proofs hiding encI
set_option maxRecDepth 100000
set_option maxHeartbeats 2000000
theorem need_at {m : MS} {i : Nat} (hi : i < m.objs.length) : m.at ((i : Int) + 1) = m.objs[i] := by
 simp only [MS.at, List.getD_eq_getElem?_getD]
 have e : ((i : Int) + 1 - 1).toNat = i := by omega
 rw [e, List.getElem?_eq_getElem hi]; rfl
theorem there_at {m : MS} {i : Nat} (hi : i < m.objs.length) : m.there ((i : Int) + 1) = m.objs[i].there := by
 unfold MS.there
 rw [need_at hi]
 have h1 : decide (1 ≤ (i : Int) + 1) = true := by simp; omega
 have h2 : decide ((i : Int) + 1 ≤ (m.objs.length : Int)) = true := by simp; omega
 rw [h1, h2]; simp
@[simp] theorem cb21 : callB Tryz.prog 21 = true := by kernel_rfl
section
variable {base Hb : Nat} {β : Lay} {m : MS} {c : Option Wh} {w : World}
theorem thereL_len (m : MS) (hu : m.used ≤ 1000000) : m.thereL.length ≤ 500000 := by have := count_used m; omega
theorem t_allL {Hv : Value} {M : Nat} {x0 x1 x2 x4 x5 : Value} {ps : List (Int × Value)} {l : List Int} (hHv : Hv = ptr Hb) (hd : Blk w Hb #[x0, x1, x2, .map (some M), x4, x5] 96) (hmp : I.MapB w M ps) (hl : sortI (ps.map (·.1)) = l) (hlen : ps.length ≤ 1000000) :
  Calls Tryz.prog 135 #[Hv] w fun e w' => ∃ x, e = .returned x ∧ Own w.heap.size 3 1 w' x (l.map encI) ∧ Ext w w' := by
 subst hHv
 refine ir135_calls fun ρ r0 => ?_
 simp [ir135, r0, ptr, hd.cell]
 have h142 : Calls Tryz.prog 142 #[.map (some M)] w fun e w' => ∃ Bm, e = .returned (.func (.func 155) #[] #[.pointer (some ⟨Bm, 0, none⟩)]) ∧ Blk w' Bm #[.map (some M)] 91 ∧ Ext w w' := by
  refine ir142_calls fun ρ2 s0 => ?_
  simp [ir142]
  refine eff_box fun B W hB hE hb hs1 => ?_
  simp [s0, Value.cells] at hb
  simp
  exact ⟨hb, hE⟩
 refine h142.mono ?_
 rintro _ W ⟨Bm, rfl, hb, hE⟩
 have h86 : Calls Tryz.prog 86 #[.func (.func 155) #[] #[.pointer (some ⟨Bm, 0, none⟩)], .func (.func 89) #[] #[]] W fun e w' => ∃ x, e = .returned x ∧ Own W.heap.size 3 1 w' x ((sortI (ps.map (·.1))).map encI) ∧ Ext W w' := by
  refine ir86_calls fun ρ2 s0 s1 => ?_
  simp [ir86, s0, s1]
  refine (t_CollectK155 hb (hmp.ext hE) hlen).mono ?_
  rintro _ w' ⟨x, rfl, hx, hE2⟩
  simp
  exact ⟨hx, hE2⟩
 simp
 refine h86.mono ?_
 rintro _ w' ⟨x, rfl, hx, hE2⟩
 simp
 rw [hl] at hx
 exact ⟨Own.low hx hE.size, hE.trans' hE2⟩
theorem sort_keys {M : Nat} {ps : List (Int × Value)} (h : HAt base w Hb β m c) (hmp : I.MapB w M ps) (hps : ∀ n, I.lookP ps n = if m.there n then (β (.ob n)).map ptr else none) : sortI (ps.map (·.1)) = m.thereL ∧ ps.length ≤ 1000000 := by
 have hk := h.keys hmp hps
 refine ⟨sortI_eq hmp.nodup (thereL_sorted m) fun n => hk.mem_iff, ?_⟩
 have := hk.length_eq
 rw [List.length_map] at this
 have := thereL_len m (by have := h.words; omega)
 omega
theorem setPs_keys (ks : List Int) : (setPs ks).map (·.1) = ks := by
 unfold setPs
 rw [List.map_map]
 simp [Function.comp_def]
theorem met_list (h : HAt base w Hb β m c) {roots ks : List Int} (hr : m.rootE roots = 0) (hn : ks.Nodup) (hk : ∀ n, n ∈ ks ↔ m.met roots n = true) : sortI ks = m.nums.filter (m.met roots) ∧ ks.length ≤ 1000000 := by
 have hth := fun n hm => reach_there h.wf (roots_there hr) (n := n) hm
 refine ⟨sortI_eq hn ((nums_sorted m).filter _) fun n => ?_, ?_⟩
 ·rw [List.mem_filter, hk, mem_nums]
  exact ⟨fun hm => ⟨there_le (hth n hm), hm⟩, fun hm => hm.2⟩
 ·have := nodup_le' ks m.thereL hn fun n hx => mem_thereL.2 (hth n ((hk n).1 hx))
  have := thereL_len m (by have := h.words; omega)
  omega
theorem t_Reached (h : HAt base w Hb β m c) {v : Value} {roots : List Int} (hl : Sl encI w v roots) :
  Calls Tryz.prog 21 #[ptr Hb, v] w fun e w' => ∃ x, e = .returned (.tuple #[x, .int .i64 (m.reached roots).2]) ∧ Own w.heap.size 3 1 w' x ((m.reached roots).1.map encI) ∧ Ext w w' := by
 refine ir21_calls fun ρ r0 r1 => ?_
 simp -implicitDefEqProofs [-wps_asg, -wps_eff, wa2, we2, ir21, r0, r1]
 refine eff_eqlNilP (p := some ⟨Hb, 0, none⟩) und25 (by simp [ptr]) ?_
 simp -implicitDefEqProofs [-wps_asg, -wps_eff, wa2, we2, ir21_k1, r0, r1]
 refine (t_rooted h hl).mono ?_
 rintro _ W ⟨rfl, hE⟩
 by_cases he : m.rootE roots = 0
 ·have hlen : roots.length ≤ 10000 := by
   unfold MS.rootE at he
   split at he
   ·cases he
   ·omega
  simp -implicitDefEqProofs [-wps_asg, -wps_eff, wa2, we2, he, ir21_k0, r0, r1, ptr]
  refine (t_reached (h.ext hE) (hl.ext hE) (by omega) (roots_there he)).mono ?_
  rintro _ W2 ⟨B, ks, rfl, hB, hmB, hnd, hks, hE2⟩
  obtain ⟨hs, hkl⟩ := met_list h he hnd hks
  have h87 : Calls Tryz.prog 87 #[.map (some B)] W2 fun e w' => ∃ Bm, e = .returned (.func (.func 127) #[] #[.pointer (some ⟨Bm, 0, none⟩)]) ∧ Blk w' Bm #[.map (some B)] 106 ∧ Ext W2 w' := by
   refine ir87_calls fun ρ2 s0 => ?_
   simp [ir87]
   refine eff_box fun B W hB hE hb hs1 => ?_
   simp [s0, Value.cells] at hb
   simp
   exact ⟨hb, hE⟩
  simp -implicitDefEqProofs [-wps_asg, -wps_eff, wa2, we2]
  refine h87.mono ?_
  rintro _ W3 ⟨Bm, rfl, hb, hE3⟩
  have h86 : Calls Tryz.prog 86 #[.func (.func 127) #[] #[.pointer (some ⟨Bm, 0, none⟩)], .func (.func 89) #[] #[]] W3 fun e w' => ∃ x, e = .returned x ∧ Own W3.heap.size 3 1 w' x ((sortI ((setPs ks).map (·.1))).map encI) ∧ Ext W3 w' := by
   refine ir86_calls fun ρ2 s0 s1 => ?_
   simp [ir86, s0, s1]
   refine (t_CollectK127 hb (hmB.ext hE3) (by unfold setPs; simpa using hkl)).mono ?_
   rintro _ w' ⟨x, rfl, hx, hE2⟩
   simp
   exact ⟨hx, hE2⟩
  simp -implicitDefEqProofs [-wps_asg, -wps_eff, wa2, we2]
  refine h86.mono ?_
  rintro _ w' ⟨x, rfl, hx, hE4⟩
  rw [setPs_keys, hs] at hx
  have hE' := (hE.trans' hE2).trans' hE3
  simp -implicitDefEqProofs [-wps_asg, -wps_eff, wa2, we2, MS.reached, he]
  exact ⟨Own.low hx hE'.size, hE'.trans' hE4⟩
 ·simp -implicitDefEqProofs [-wps_asg, -wps_eff, wa2, we2, he, MS.reached]
  exact ⟨Own.nil _ _ _ _, hE⟩
end
end Go.L17
namespace Go.L17
open Go Go.Eng Go.RowKit
open Go.Proofs hiding encI
set_option maxRecDepth 100000
set_option maxHeartbeats 2000000
structure HW (base : Nat) (w : World) (Hb : Nat) (β : Lay) (m : MS) (onv : Value) : Prop where
 inj : ∀ r1 r2 b, β r1 = some b → β r2 = some b → r1 = r2
 lo : ∀ r b, β r = some b → base ≤ b
 hi : ∀ r b, β r = some b → b < w.heap.size
 hb : β .heap = some Hb
 hd : ∃ M ps ev, β .map = some M ∧ Blk w Hb #[.int .i64 m.words, .int .i64 m.used, .int .i64 m.objs.length, .map (some M), onv, ev] 96 ∧ I.MapB w M ps ∧
  (∀ n, I.lookP ps n = if m.there n then (β (.ob n)).map ptr else none) ∧ SlAt base 3 w ev (m.told.map encI) (β .en)
 obs : ∀ n, m.there n = true → ObAt base w β n (m.at n)
 free : ∀ n, m.there n = false → β (.ob n) = none ∧ β (.th n) = none ∧ β (.ks n) = none ∧ β (.vs n) = none
 small : ∀ n, m.there n = true → (m.at n).vals.length ≤ 200
 words : m.used ≤ m.words ∧ m.words ≤ 1000000 ∧ 0 ≤ m.words
 len : m.objs.length < 1152921504606846976
theorem HAt.weak {base Hb : Nat} {β : Lay} {m : MS} {c : Option Wh} {w : World} (h : HAt base w Hb β m c) : ∃ onv, HW base w Hb β m onv ∧ WhAt base w β m c onv := by
 obtain ⟨M, ps, onv, ev, h1, h2, h3, h4, h5, h6⟩ := h.hd
 exact ⟨onv, ⟨h.inj, h.lo, h.hi, h.hb, ⟨M, ps, ev, h1, h2, h3, h4, h6⟩, h.obs, h.free, h.small, h.words, h.len⟩, h5⟩
theorem HW.strong {base Hb : Nat} {β : Lay} {m : MS} {c : Option Wh} {w : World} {onv : Value} (h : HW base w Hb β m onv) (hw : WhAt base w β m c onv) (wf : m.wf) (hok : whOk c) : HAt base w Hb β m c := by
 obtain ⟨M, ps, ev, h1, h2, h3, h4, h6⟩ := h.hd
 exact ⟨h.inj, h.lo, h.hi, h.hb, ⟨M, ps, onv, ev, h1, h2, h3, h4, hw, h6⟩, h.obs, h.free, wf, h.small, h.words, h.len, hok⟩
structure MS.Same (m m' : MS) : Prop where
 words : m'.words = m.words
 len : m'.objs.length = m.objs.length
 told : m'.told = m.told
 there : ∀ n, m'.there n = m.there n
 at' : ∀ n, m.there n = true → m'.at n = m.at n
theorem MS.Same.used {m m' : MS} (h : m.Same m') : m'.used = m.used := by
 rw [used_range, used_range, h.len]
 congr 1
 apply List.map_congr_left
 intro i hi
 have hi' := List.mem_range.1 hi
 have ht := h.there ((i : Int) + 1)
 cases hm : m.there ((i : Int) + 1) with
 | true => rw [h.at' _ hm]
 | false =>
  rw [hm] at ht
  rw [there_at (by rw [h.len]; exact hi')] at ht
  rw [there_at hi'] at hm
  rw [need_at (by rw [h.len]; exact hi'), need_at hi']
  simp [MO.need, ht, hm]
theorem HW.same {base Hb : Nat} {β : Lay} {m m' : MS} {w : World} {onv : Value} (h : HW base w Hb β m onv) (k : m.Same m') : HW base w Hb β m' onv := by
 obtain ⟨M, ps, ev, h1, h2, h3, h4, h6⟩ := h.hd
 refine ⟨h.inj, h.lo, h.hi, h.hb, ⟨M, ps, ev, h1, ?_, h3, fun n => ?_, ?_⟩, fun n hn => ?_, fun n hn => ?_, fun n hn => ?_, ?_, ?_⟩
 ·rw [k.words, k.used, k.len]; exact h2
 ·rw [k.there]; exact h4 n
 ·rw [k.told]; exact h6
 ·rw [k.there] at hn; rw [k.at' n hn]; exact h.obs n hn
 ·rw [k.there] at hn; exact h.free n hn
 ·rw [k.there] at hn; rw [k.at' n hn]; exact h.small n hn
 ·rw [k.used, k.words]; exact h.words
 ·rw [k.len]; exact h.len
theorem HW.keep {base : Nat} {w w' : World} {Hb : Nat} {β : Lay} {m : MS} {onv : Value} (h : HW base w Hb β m onv) (hk : ∀ r b, β r = some b → w'.heap[b]? = w.heap[b]?) : HW base w' Hb β m onv := by
 obtain ⟨M, ps, ev, h1, h2, h3, h4, h6⟩ := h.hd
 have hi : ∀ r b, β r = some b → b < w'.heap.size := fun r b hr => by
  have h1 := hk r b hr
  rw [Array.getElem?_eq_getElem (h.hi r b hr)] at h1
  exact (Array.getElem?_eq_some_iff.1 h1).1
 exact ⟨h.inj, h.lo, hi, h.hb, ⟨M, ps, ev, h1, Blk.keep h2 (hk _ _ h.hb), h3.block (hk _ _ h1), h4, h6.keep (fun k => hk _ k)⟩, fun n hn => (h.obs n hn).keep hk, h.free, h.small, h.words, h.len⟩
theorem HW.ext {base : Nat} {w w' : World} {Hb : Nat} {β : Lay} {m : MS} {onv : Value} (h : HW base w Hb β m onv) (hE : Ext w w') : HW base w' Hb β m onv := h.keep fun r b hr => hE.block b (h.hi r b hr)
theorem there_true {m : MS} {n : Int} (h : m.there n = true) : (m.at n).there = true := by
 simp only [MS.there, Bool.and_eq_true] at h
 exact h.2
section
variable {base Hb p f : Nat} {β : Lay} {m : MS} {w w' : World} {kept : Int} {onv : Value}
theorem HW.head (h : HW base w Hb β m onv) {ref : Int} (hr : m.there ref = true) {o' : MO} (hot : o'.there = true) (ht : o'.tag = (m.at ref).tag) (he : o'.elem = (m.at ref).elem) (hks : o'.kinds = (m.at ref).kinds) (hvs : o'.vals = (m.at ref).vals)
  (q1 : β (.ob ref) = some p) (q2 : β (.th ref) = some f) (hF : Fr (fun k => k = p) w w') (hb : Blk w' p #[.iface (tyOf o') (ptr f), .int .i64 kept, .bool (decide (2 ≤ o'.age)), .bool o'.watched] 133) (hk : o'.age < 2 → kept = o'.age) :
  HW base w' Hb β (m.put ref o') onv ∧ Turn β w β w' := by
 obtain ⟨r1, r2⟩ := there_le hr
 obtain ⟨M, ps, ev, hM, hd, hmp, hps, hev⟩ := h.hd
 have hot0 := there_true hr
 have stay : ∀ r x, β r = some x → r ≠ .ob ref → w'.heap[x]? = w.heap[x]? := fun r x hx hne => hF.block x (h.hi r x hx) fun e => hne (h.inj _ _ _ hx (by rw [e]; exact q1))
 have hth' : ∀ n, (m.put ref o').there n = m.there n := fun n => there_put hr hot
 have hat' : ∀ n, m.there n = true → (m.put ref o').at n = if n = ref then o' else m.at n := fun n hn => at_put ⟨r1, r2⟩ (there_le hn).1
 have hneed : o'.need = (m.at ref).need := by rw [need_there hot, need_there hot0, hvs]
 have hused : (m.put ref o').used = m.used := by rw [used_put hr, hneed]; omega
 have hlen : (m.put ref o').objs.length = m.objs.length := by simp [MS.put]
 refine ⟨⟨h.inj, h.lo, fun r b hb => by have := hF.size; have := h.hi r b hb; omega, h.hb, ⟨M, ps, ev, hM, ?_, hmp.block (stay .map M hM (by simp)), fun n => ?_, hev.keep fun k hk => stay .en k hk (by simp)⟩, ?_, ?_, ?_, ?_, ?_⟩, hF.mono fun x hx => .inl ⟨.ob ref, hx ▸ q1⟩, fun _ h => .inl h⟩
 ·rw [hused, hlen]; exact Blk.keep hd (stay .heap Hb h.hb (by simp))
 ·rw [hps n, hth' n]
 ·intro n hn
  rw [hth' n] at hn
  rw [hat' n hn]
  by_cases e : n = ref
  ·subst e
   rw [if_pos rfl]
   obtain ⟨p2, f2, kept2, vv, a1, a2, a3, a4, a5, a6⟩ := (h.obs n hn).ex
   rw [q1] at a1; cases a1
   rw [q2] at a2; cases a2
   refine ⟨p, f, kept, vv, q1, q2, hb, hk, by rw [hvs]; exact a5.keep fun k hk => stay _ k hk (by simp), ?_⟩
   have hf := stay (.th n) f q2 (by simp)
   cases a6 with
   | fields kv b1 b2 b3 b4 b5 => exact .fields kv (by rw [he]; exact b1) (by rw [hks, hvs]; exact b2) (by rw [hks]; exact b3) (by rw [ht]; exact Blk.keep b4 hf) (by rw [hks]; exact b5.keep fun k hk => stay _ k hk (by simp))
   | array b1 b2 => exact .array (by rw [he]; exact b1) (by rw [he]; exact Blk.keep b2 hf)
  ·rw [if_neg e]
   refine (h.obs n hn).move rfl rfl rfl rfl fun b hb => ?_
   rcases hb with hb | hb | hb | hb
   ·exact stay _ b hb (by simpa using e)
   ·exact stay _ b hb (by simp)
   ·exact stay _ b hb (by simp)
   ·exact stay _ b hb (by simp)
 ·intro n hn
  rw [hth' n] at hn
  exact h.free n hn
 ·intro n hn
  rw [hth' n] at hn
  rw [hat' n hn]
  by_cases e : n = ref
  ·rw [if_pos e, hvs]; exact h.small ref hr
  ·rw [if_neg e]; exact h.small n hn
 ·rw [hused]; exact h.words
 ·rw [hlen]; exact h.len
def enR (β : Lay) (b : Option Nat) : Lay
 | .en => b
 | r => β r
def MS.tell (m : MS) (n : Int) : MS := { m with told := m.told ++ [n] }
theorem HW.tell (h : HW base w Hb β m onv) {n : Int} {w' : World} {ev ev' : Value} {M : Nat} (hM : β .map = some M) (hev : SlAt base 3 w ev (m.told.map encI) (β .en)) (hF : Fr (fun k => k = Hb ∨ β .en = some k) w w')
  (hd' : Blk w' Hb #[.int .i64 m.words, .int .i64 m.used, .int .i64 m.objs.length, .map (some M), onv, ev'] 96) (ho : Own base 3 1 w' ev' ((m.told ++ [n]).map encI)) (hb : ∀ b, ev'.ownBlock = some b → β .en = some b ∨ w.heap.size ≤ b) :
  HW base w' Hb (enR β ev'.ownBlock) (m.tell n) onv ∧ Turn β w (enR β ev'.ownBlock) w' := by
 obtain ⟨M1, ps, ev1, hM1, hd, hmp, hps, hev1⟩ := h.hd
 rw [hM] at hM1; cases hM1
 have hz := hF.size
 have hoB := Own.blk ho
 have hHl := h.lo _ _ h.hb
 have hHi := h.hi _ _ h.hb
 have stay : ∀ r x, β r = some x → r ≠ .heap → r ≠ .en → w'.heap[x]? = w.heap[x]? := fun r x hx h1 h2 => hF.block x (h.hi r x hx) fun e => by
  rcases e with e | e
  ·exact h1 (h.inj _ _ _ hx (by rw [e]; exact h.hb))
  ·exact h2 (h.inj _ _ _ hx e)
 have eN : ∀ r, r ≠ .en → enR β ev'.ownBlock r = β r := fun r hr => by cases r <;> first | rfl | exact absurd rfl hr
 have back : ∀ r b, enR β ev'.ownBlock r = some b → β r = some b ∨ (w.heap.size ≤ b ∧ r = .en) := fun r b hrb => by
  by_cases e : r = .en
  ·subst e
   rcases hb b hrb with e | e
   ·exact .inl e
   ·exact .inr ⟨e, rfl⟩
  ·rw [eN r e] at hrb; exact .inl hrb
 refine ⟨⟨?_, ?_, ?_, h.hb, ⟨M, ps, ev', hM, hd', hmp.block (stay _ _ hM (by simp) (by simp)), hps, ⟨ho, rfl⟩⟩, fun n hn => ?_, h.free, h.small, h.words, h.len⟩, hF.mono fun x hx => ?_, fun b hb' => ?_⟩
 ·intro a b x ha hb2
  rcases back a x ha with ea | ⟨la, ea⟩ <;> rcases back b x hb2 with eb | ⟨lb, eb⟩
  ·exact h.inj a b x ea eb
  ·have := h.hi a x ea; omega
  ·have := h.hi b x eb; omega
  ·rw [ea, eb]
 ·intro r b hrb
  by_cases e : r = .en
  ·subst e; exact (hoB b hrb).1
  ·rw [eN r e] at hrb; exact h.lo r b hrb
 ·intro r b hrb
  by_cases e : r = .en
  ·subst e; exact (hoB b hrb).2
  ·rw [eN r e] at hrb; have := h.hi r b hrb; omega
 ·refine (h.obs n hn).move rfl rfl rfl rfl fun b hb => ?_
  rcases hb with hb | hb | hb | hb <;> exact stay _ b hb (by simp) (by simp)
 ·rcases hx with rfl | hx
  ·exact .inl ⟨_, h.hb⟩
  ·exact .inl ⟨_, hx⟩
 ·obtain ⟨r, hr⟩ := hb'
  rcases back r b hr with e | ⟨e, _⟩
  ·exact .inl ⟨r, e⟩
  ·exact .inr e
def offR (β : Lay) (N : Int) : Lay
 | .ob k => if k = N then none else β (.ob k)
 | .th k => if k = N then none else β (.th k)
 | .ks k => if k = N then none else β (.ks k)
 | .vs k => if k = N then none else β (.vs k)
 | r => β r
theorem offR_some {β : Lay} {N : Int} {r : Role} {b : Nat} (h : offR β N r = some b) : β r = some b := by
 cases r <;> simp only [offR] at h <;> first | exact h | (split at h <;> first | cases h | exact h)
theorem there_off {m : MS} {n k : Int} (h : m.there n = true) : (m.put n noMO).there k = (m.there k && !decide (k = n)) := by
 have hr := there_le h
 have hl : (m.put n noMO).objs.length = m.objs.length := by simp [MS.put]
 by_cases h1 : 1 ≤ k
 ·unfold MS.there
  rw [at_put hr h1, hl]
  by_cases e : k = n
  ·subst e; simp [noMO]
  ·simp [e]
 ·simp [MS.there, h1]
theorem HW.off (h : HW base w Hb β m onv) {n : Int} (hn : m.there n = true) {w' : World} {ev : Value} {M : Nat} {ps : List (Int × Value)} (hM : β .map = some M) (hps : ∀ n, I.lookP ps n = if m.there n then (β (.ob n)).map ptr else none) (hev : SlAt base 3 w ev (m.told.map encI) (β .en)) (hF : Fr (fun k => k = Hb ∨ k = M) w w')
  (hd' : Blk w' Hb #[.int .i64 m.words, .int .i64 (m.used - (m.at n).need), .int .i64 m.objs.length, .map (some M), onv, ev] 96) (hmp' : I.MapB w' M (delI ps n)) :
  HW base w' Hb (offR β n) (m.put n noMO) onv ∧ Turn β w (offR β n) w' := by
 obtain ⟨r1, r2⟩ := there_le hn
 have hz := hF.size
 have stay : ∀ r x, β r = some x → r ≠ .heap → r ≠ .map → w'.heap[x]? = w.heap[x]? := fun r x hx h1 h2 => hF.block x (h.hi r x hx) fun e => by
  rcases e with e | e
  ·exact h1 (h.inj _ _ _ hx (by rw [e]; exact h.hb))
  ·exact h2 (h.inj _ _ _ hx (by rw [e]; exact hM))
 have hused : (m.put n noMO).used = m.used - (m.at n).need := by
  rw [used_put hn]
  have : noMO.need = 0 := rfl
  omega
 have hlen : (m.put n noMO).objs.length = m.objs.length := by simp [MS.put]
 have hat' : ∀ k, 1 ≤ k → k ≠ n → (m.put n noMO).at k = m.at k := fun k h1 hk => by rw [at_put ⟨r1, r2⟩ h1, if_neg hk]
 refine ⟨⟨fun a b x ha hb => h.inj a b x (offR_some ha) (offR_some hb), fun r b hr => h.lo r b (offR_some hr), fun r b hr => by have := h.hi r b (offR_some hr); omega, h.hb, ⟨M, delI ps n, ev, hM, ?_, hmp', fun k => ?_, hev.keep fun k hk => stay .en k hk (by simp) (by simp)⟩, fun k hk => ?_, fun k hk => ?_, fun k hk => ?_, ?_, ?_⟩, hF.mono fun x hx => ?_, fun b hb' => ?_⟩
 ·rw [hused, hlen]; exact hd'
 ·rw [look_delI, hps, there_off hn]
  by_cases e : n = k
  ·subst e; simp
  ·have e' : ¬ k = n := fun x => e x.symm
   simp [e, e', offR]
 ·rw [there_off hn] at hk
  simp only [Bool.and_eq_true, Bool.not_eq_true', decide_eq_false_iff_not] at hk
  rw [hat' k (there_le hk.1).1 hk.2]
  refine (h.obs k hk.1).move (by simp [offR, hk.2]) (by simp [offR, hk.2]) (by simp [offR, hk.2]) (by simp [offR, hk.2]) fun b hb => ?_
  rcases hb with hb | hb | hb | hb <;> exact stay _ b hb (by simp) (by simp)
 ·rw [there_off hn] at hk
  by_cases e : k = n
  ·subst e; simp [offR]
  ·simp [e] at hk
   simp [offR, e]
   exact h.free k hk
 ·rw [there_off hn] at hk
  simp only [Bool.and_eq_true, Bool.not_eq_true', decide_eq_false_iff_not] at hk
  rw [hat' k (there_le hk.1).1 hk.2]
  exact h.small k hk.1
 ·rw [hused]
  have := need_nonneg (m.at n)
  have := h.words
  show m.used - (m.at n).need ≤ m.words ∧ m.words ≤ 1000000 ∧ 0 ≤ m.words
  omega
 ·rw [hlen]; exact h.len
 ·rcases hx with rfl | rfl
  ·exact .inl ⟨_, h.hb⟩
  ·exact .inl ⟨_, hM⟩
 ·obtain ⟨r, hr⟩ := hb'
  exact .inl ⟨r, offR_some hr⟩
end
@[simp] theorem cb136 : callB Tryz.prog 136 = true := by kernel_rfl
@[simp] theorem cb104 : callB Tryz.prog 104 = true := by kernel_rfl
section
variable {base Hb : Nat} {β : Lay} {m : MS} {w : World} {onv : Value}
theorem t_free (h : HW base w Hb β m onv) {n : Int} (hn : m.there n = true) :
  Calls Tryz.prog 136 #[ptr Hb, .int .i64 n] w fun e w' => e = .returned (.tuple #[]) ∧ HW base w' Hb (offR β n) (m.put n noMO) onv ∧ Turn β w (offR β n) w' := by
 obtain ⟨M, ps, ev, hM, hd, hmp, hps, hev⟩ := h.hd
 obtain ⟨p, f, kept, vv, q1, q2, q3, q4, q5, q6⟩ := (h.obs n hn).ex
 have hsm := h.small n hn
 have hvs := q5.sl (enc := encI) (by omega)
 have hlk := hps n
 rw [hn, q1] at hlk
 have hwd := h.words
 have hnm : Hb ≠ M := fun e => by have := h.inj .heap .map M (by rw [h.hb, e]) hM; cases this
 have hneed : (m.at n).need = 2 + (m.at n).vals.length := need_there (there_true hn)
 have hu0 := used_nonneg m
 refine ir136_calls fun ρ r0 r1 => ?_
 simp -implicitDefEqProofs [-wps_asg, -wps_eff, wa2, we2, ir136]
 refine raw_ord ir136_o0_ok (Ext w) fun W hE _ => ⟨hE, ?_⟩
 have c1 : ∀ W5, Ext w W5 → ∀ i, W5.cell? ⟨Hb, i, none⟩ = #[.int .i64 m.words, .int .i64 m.used, .int .i64 m.objs.length, .map (some M), onv, ev][i]? := fun W5 h5 => (hd.ext h5).cell
 have c3 : ∀ W5, Ext w W5 → ∀ i, W5.cell? ⟨p, i, none⟩ = #[.iface (tyOf (m.at n)) (ptr f), .int .i64 kept, .bool (decide (2 ≤ (m.at n).age)), .bool (m.at n).watched][i]? := fun W5 h5 => (q3.ext h5).cell
 simp +contextual -implicitDefEqProofs [ir136_o0, r0, r1, ptr, c1, hE]
 refine I.eff_lookup (s := n) und91 und3 zi129 (by simp) (by simp) (hmp.ext hE) false ?_
 simp +contextual -implicitDefEqProofs [hlk, ptr, c3, hE]
 refine eff_words (base := base) (β := β) (k := n) (o := m.at n) (f := f) (vv := vv) (by simp [ptr]) (q6.ext hE) (hvs.ext hE) ?_
 simp -implicitDefEqProofs [-wps_asg, -wps_eff, wa2, we2, hE]
 refine eff_store1 (B := Hb) (i := 1) (by simp) (hd.ext hE) (by simp) rfl rfl sz3' fun W2 hO2 hb2 => ?_
 simp at hb2
 simp -implicitDefEqProofs [-wps_asg, -wps_eff, wa2, we2, ir136_k0, r0, r1, ptr, hb2.cell]
 refine eff_delete (n := n) (B := M) und91 und3 (by simp) (by simp) (I.MapB.block (hmp.ext hE) (hO2.block M (Ne.symm hnm))) fun W3 hO3 hm3 => ?_
 simp
 have hw : IntKind.i64.wrap (m.used - (2 + ((m.at n).vals.length : Int))) = m.used - (2 + ((m.at n).vals.length : Int)) := i64w (by omega)
 rw [hw, ← hneed] at hb2
 have hF : Fr (fun k => k = Hb ∨ k = M) w W3 := ((Fr.of hE (S := fun k => k = Hb ∨ k = M)).trans (Fr.only hO2 (S := fun k => k = Hb ∨ k = M) (.inl rfl)) (fun x h => .inl h)).trans (Fr.only hO3 (S := fun k => k = Hb ∨ k = M) (.inr rfl)) (fun x h => .inl h)
 exact h.off hn hM hps hev hF (hO3.blk hb2 hnm) hm3
end
end Go.L17
namespace Go.L17
open Go Go.Eng Go.RowKit
open Go.Proofs hiding encI
set_option maxRecDepth 100000
set_option maxHeartbeats 2000000
def MS.sw1 (K : Int → Bool) (g : MO → MO) (m : MS) (n : Int) : MS :=
 if K n then m.put n (g (m.at n)) else (if (m.at n).watched then (m.put n (m.at n)).tell n else m.put n (m.at n)).put n noMO
def MS.sw (K : Int → Bool) (g : MO → MO) (m : MS) (l : List Int) : MS := l.foldl (MS.sw1 K g) m
theorem at_tell (m : MS) (n k : Int) : (m.tell n).at k = m.at k := rfl
theorem there_tell (m : MS) (n k : Int) : (m.tell n).there k = m.there k := rfl
theorem len_put (m : MS) (n : Int) (o : MO) : (m.put n o).objs.length = m.objs.length := by simp [MS.put]
section
variable {K : Int → Bool} {g : MO → MO} {m : MS} {n : Int}
structure Sw1 (K : Int → Bool) (g : MO → MO) (m : MS) (n : Int) (m' : MS) : Prop where
 words : m'.words = m.words
 len : m'.objs.length = m.objs.length
 on : m'.on = m.on
 told : m'.told = m.told ++ (if !K n && (m.at n).watched then [n] else [])
 there : ∀ k, m'.there k = if k = n then K n else m.there k
 at' : ∀ k, 1 ≤ k → m'.at k = if k = n then (if K n then g (m.at n) else noMO) else m.at k
theorem sw1_of (hg : ∀ o : MO, (g o).there = o.there) (hn : m.there n = true) : Sw1 K g m n (m.sw1 K g n) := by
 have hr := there_le hn
 have ho := there_true hn
 unfold MS.sw1
 cases hK : K n with
 | true =>
  have e0 : (if true = true then m.put n (g (m.at n)) else (if (m.at n).watched then (m.put n (m.at n)).tell n else m.put n (m.at n)).put n noMO) = m.put n (g (m.at n)) := if_pos rfl
  rw [e0]
  refine ⟨rfl, len_put _ _ _, rfl, by simp [hK, MS.put], fun k => ?_, fun k hk => ?_⟩
  ·rw [there_put hn (by rw [hg]; exact ho), hK]
   split
   ·rename_i e; rw [e, hn]
   ·rfl
  ·rw [at_put hr hk]; simp [hK]
 | false =>
  have hput : (m.put n (m.at n)).there n = true := by rw [there_put hn ho]; exact hn
  have hth : ∀ k, ((if (m.at n).watched then (m.put n (m.at n)).tell n else m.put n (m.at n)).put n noMO).there k = if k = n then false else m.there k := by
   intro k
   rw [there_off (by split <;> first | exact hput | (rw [there_tell]; exact hput))]
   have e1 : (if (m.at n).watched then (m.put n (m.at n)).tell n else m.put n (m.at n)).there k = m.there k := by
    split
    ·rw [there_tell, there_put hn ho]
    ·rw [there_put hn ho]
   rw [e1]
   split
   ·rename_i e; simp [e]
   ·rename_i e; simp [e]
  have hat : ∀ k, 1 ≤ k → ((if (m.at n).watched then (m.put n (m.at n)).tell n else m.put n (m.at n)).put n noMO).at k = if k = n then noMO else m.at k := by
   intro k hk
   have hr2 : 1 ≤ n ∧ n ≤ ((if (m.at n).watched then (m.put n (m.at n)).tell n else m.put n (m.at n)).objs.length : Int) := by
    split
    ·show 1 ≤ n ∧ n ≤ ((m.put n (m.at n)).objs.length : Int)
     rw [len_put]; exact hr
    ·rw [len_put]; exact hr
   rw [at_put hr2 hk]
   by_cases e : k = n
   ·rw [if_pos e, if_pos e]
   ·rw [if_neg e, if_neg e]
    split
    ·rw [at_tell, at_put hr hk, if_neg e]
    ·rw [at_put hr hk, if_neg e]
  simp only [Bool.false_eq_true, if_false]
  refine ⟨?_, ?_, ?_, ?_, fun k => by rw [hth k, hK], fun k hk => by rw [hat k hk, hK]; simp⟩
  ·split <;> rfl
  ·rw [len_put]; split
   ·show (m.put n (m.at n)).objs.length = _; rw [len_put]
   ·rw [len_put]
  ·split <;> rfl
  ·rw [hK]
   cases (m.at n).watched <;> simp [MS.put, MS.tell]
structure Sw (K : Int → Bool) (g : MO → MO) (m : MS) (l : List Int) (m' : MS) : Prop where
 words : m'.words = m.words
 len : m'.objs.length = m.objs.length
 on : m'.on = m.on
 told : m'.told = m.told ++ l.filter fun n => !K n && (m.at n).watched
 there : ∀ k, m'.there k = if k ∈ l then K k else m.there k
 at' : ∀ k, 1 ≤ k → m'.at k = if k ∈ l then (if K k then g (m.at k) else noMO) else m.at k
theorem sw_of (hg : ∀ o : MO, (g o).there = o.there) : ∀ {l : List Int} {m : MS}, l.Nodup → (∀ n ∈ l, m.there n = true) → Sw K g m l (m.sw K g l)
 | [], m, _, _ => ⟨rfl, rfl, rfl, by simp [MS.sw], fun k => by simp [MS.sw], fun k _ => by simp [MS.sw]⟩
 | n :: l, m, hn, hl => by
  obtain ⟨n1, n2⟩ := List.nodup_cons.1 hn
  have h1 := sw1_of (K := K) (g := g) (m := m) (n := n) hg (hl n (by simp))
  have hne : ∀ k ∈ l, k ≠ n := fun k hk e => n1 (e ▸ hk)
  have ih := sw_of hg (l := l) (m := m.sw1 K g n) n2 fun k hk => by rw [h1.there, if_neg (hne k hk)]; exact hl k (by simp [hk])
  have e : m.sw K g (n :: l) = (m.sw1 K g n).sw K g l := rfl
  rw [e]
  refine ⟨ih.words.trans h1.words, ih.len.trans h1.len, ih.on.trans h1.on, ?_, fun k => ?_, fun k hk => ?_⟩
  ·rw [ih.told, h1.told, List.append_assoc]
   congr 1
   have e2 : (l.filter fun k => !K k && ((m.sw1 K g n).at k).watched) = l.filter fun k => !K k && (m.at k).watched := by
    apply List.filter_congr
    intro k hk
    rw [h1.at' k (there_le (hl k (by simp [hk]))).1, if_neg (hne k hk)]
   rw [e2, List.filter_cons]
   split <;> simp
  ·rw [ih.there, h1.there]
   by_cases ek : k = n
   ·subst ek; simp [n1]
   ·simp [ek]
  ·rw [ih.at' k hk, h1.at' k hk]
   by_cases ek : k = n
   ·subst ek; simp [n1]
   ·simp [ek]
theorem sw_take {l : List Int} {k : Nat} (hk : k < l.length) : m.sw K g (l.take (k + 1)) = (m.sw K g (l.take k)).sw1 K g l[k] := by
 unfold MS.sw
 rw [List.take_add_one, List.getElem?_eq_getElem hk, List.foldl_append]
 rfl
end
theorem at_out {m : MS} {n : Int} (h : (m.objs.length : Int) < n) : m.at n = noMO := by
 simp only [MS.at, List.getD_eq_getElem?_getD]
 rw [List.getElem?_eq_none (by omega)]; rfl
theorem frees_at {m : MS} {ns : List Int} {n : Int} (h1 : 1 ≤ n) (h2 : n ≤ m.objs.length) : (m.frees ns).at n = if n ∈ ns then noMO else m.at n := by
 have hi : (n - 1).toNat < m.objs.length := by omega
 have e : (((n - 1).toNat : Nat) : Int) + 1 = n := by omega
 simp only [MS.at, MS.frees, List.getD_eq_getElem?_getD, List.getElem?_map, List.getElem?_range hi, Option.map_some, Option.getD_some, e, List.contains_eq_mem, decide_eq_true_eq]
theorem frees_len (m : MS) (ns : List Int) : (m.frees ns).objs.length = m.objs.length := by simp [MS.frees]
theorem frees_there {m : MS} {ns : List Int} {n : Int} : (m.frees ns).there n = (m.there n && !decide (n ∈ ns)) := by
 by_cases hb : 1 ≤ n ∧ n ≤ m.objs.length
 ·unfold MS.there
  rw [frees_at hb.1 hb.2, frees_len]
  by_cases e : n ∈ ns
  ·simp [e, noMO]
  ·simp [e]
 ·have e1 : (m.frees ns).there n = false := by
   cases h : (m.frees ns).there n with
   | false => rfl
   | true => have := there_le h; rw [frees_len] at this; exact absurd this hb
  have e2 : m.there n = false := by
   cases h : m.there n with
   | false => rfl
   | true => exact absurd (there_le h) hb
  rw [e1, e2]; rfl
def MS.mapO (m : MS) (f : MO → MO) : MS := { m with objs := m.objs.map f }
theorem mapO_at {m : MS} {f : MO → MO} {n : Int} (h1 : 1 ≤ n) (h2 : n ≤ m.objs.length) : (m.mapO f).at n = f (m.at n) := by
 have hi : (n - 1).toNat < m.objs.length := by omega
 simp only [MS.at, MS.mapO, List.getD_eq_getElem?_getD, List.getElem?_map, List.getElem?_eq_getElem hi, Option.map_some, Option.getD_some]
theorem mapO_len (m : MS) (f : MO → MO) : (m.mapO f).objs.length = m.objs.length := by simp [MS.mapO]
theorem mapO_there {m : MS} {f : MO → MO} (hf : ∀ o : MO, (f o).there = o.there) (n : Int) : (m.mapO f).there n = m.there n := by
 by_cases hb : 1 ≤ n ∧ n ≤ m.objs.length
 ·unfold MS.there
  rw [mapO_at hb.1 hb.2, mapO_len, hf]
 ·have e1 : (m.mapO f).there n = false := by
   cases h : (m.mapO f).there n with
   | false => rfl
   | true => have := there_le h; rw [mapO_len] at this; exact absurd this hb
  have e2 : m.there n = false := by
   cases h : m.there n with
   | false => rfl
   | true => exact absurd (there_le h) hb
  rw [e1, e2]
def MO.older (o : MO) : MO := { o with age := o.age + 1 }
def MO.old (o : MO) : MO := { o with age := 2 }
theorem aged_eq (m : MS) : m.aged = m.mapO fun o => if o.there then o.older else o := rfl
theorem minor_same {m m' : MS} {roots : List Int} (h : Sw (m.met (roots ++ m.olds)) MO.older m m.thereL m') (he : m.minorE roots = 0) : m'.Same (m.minor roots).2.2 ∧ (m.minor roots).1 = ((m.thereL.filter fun n => !m.met (roots ++ m.olds) n).length : Int) := by
 have hfl : m.minorFree roots = m.thereL.filter fun n => !m.met (roots ++ m.olds) n := by
  unfold MS.minorFree MS.thereL
  rw [List.filter_filter]
  congr 1
  funext n
  rw [Bool.and_comm]
 have hm : (m.minor roots) = (((m.minorFree roots).length : Int), 0, (m.aged).frees (m.minorFree roots)) := by unfold MS.minor; rw [if_neg (by simp [he])]
 have hfm : ∀ n, n ∈ m.minorFree roots ↔ m.there n = true ∧ m.met (roots ++ m.olds) n = false := fun n => by rw [hfl, List.mem_filter, mem_thereL]; simp
 have hag : ∀ o : MO, (if o.there then o.older else o).there = o.there := fun o => by split <;> rfl
 have hlen : m.aged.objs.length = m.objs.length := mapO_len _ _
 have hth : ∀ n, ((m.aged).frees (m.minorFree roots)).there n = m'.there n := by
  intro n
  rw [frees_there, aged_eq, mapO_there hag, h.there]
  cases ht : m.there n with
  | false =>
   have : n ∉ m.thereL := fun e => by rw [mem_thereL, ht] at e; cases e
   rw [if_neg this]; rfl
  | true =>
   rw [if_pos (mem_thereL.2 ht)]
   cases hK : m.met (roots ++ m.olds) n with
   | true =>
    have : n ∉ m.minorFree roots := fun e => by have := ((hfm n).1 e).2; rw [hK] at this; cases this
    simp [this]
   | false =>
    have := (hfm n).2 ⟨ht, hK⟩
    simp [this]
 refine ⟨⟨?_, ?_, ?_, ?_, ?_⟩, by rw [hm, hfl]⟩
 ·rw [hm, h.words]; rfl
 ·rw [hm, h.len]
  show ((m.aged).frees _).objs.length = _
  rw [frees_len, hlen]
 ·rw [hm, h.told]
  show m.told ++ (m.minorFree roots).filter _ = _
  congr 1
  rw [hfl, List.filter_filter]
  apply List.filter_congr
  intro n hn
  have hb := there_le (mem_thereL.1 hn)
  rw [aged_eq, mapO_at hb.1 hb.2]
  have : (if (m.at n).there then (m.at n).older else m.at n).watched = (m.at n).watched := by split <;> rfl
  rw [this, Bool.and_comm]
 ·intro n; rw [hm]; exact hth n
 ·intro n hn
  rw [hm]
  show ((m.aged).frees (m.minorFree roots)).at n = m'.at n
  have hn2 := hn
  rw [h.there] at hn2
  have ht : m.there n = true := by
   apply Classical.byContradiction
   intro hc
   have : n ∉ m.thereL := fun e => hc (mem_thereL.1 e)
   rw [if_neg this] at hn2
   exact hc hn2
  have hb := there_le ht
  rw [if_pos (mem_thereL.2 ht)] at hn2
  have hnf : n ∉ m.minorFree roots := fun e => by have := ((hfm n).1 e).2; rw [hn2] at this; cases this
  rw [frees_at hb.1 (by rw [hlen]; exact hb.2), if_neg hnf, aged_eq, mapO_at hb.1 hb.2, h.at' n hb.1, if_pos (mem_thereL.2 ht), if_pos hn2, if_pos (there_true ht)]
theorem ends_same {m m' : MS} {K : Int → Bool} (h : Sw K MO.old m m.thereL m') (hK : (m.thereL.filter fun n => !K n) = m.endFree) : m'.Same m.ends := by
 have hfm : ∀ n, n ∈ m.endFree ↔ m.there n = true ∧ K n = false := fun n => by rw [← hK, List.mem_filter, mem_thereL]; simp
 have ho : m.ends.objs = ((m.frees m.endFree).mapO MO.old).objs := rfl
 have hlen : (m.frees m.endFree).objs.length = m.objs.length := frees_len _ _
 have hth : ∀ n, m.ends.there n = m'.there n := by
  intro n
  rw [there_objs ho, mapO_there (f := MO.old) (fun _ => rfl), frees_there, h.there]
  cases ht : m.there n with
  | false =>
   have : n ∉ m.thereL := fun e => by rw [mem_thereL, ht] at e; cases e
   rw [if_neg this]; rfl
  | true =>
   rw [if_pos (mem_thereL.2 ht)]
   cases hKn : K n with
   | true =>
    have : n ∉ m.endFree := fun e => by have := ((hfm n).1 e).2; rw [hKn] at this; cases this
    simp [this]
   | false =>
    have := (hfm n).2 ⟨ht, hKn⟩
    simp [this]
 refine ⟨?_, ?_, ?_, hth, ?_⟩
 ·rw [h.words]; rfl
 ·rw [h.len, ho, mapO_len, hlen]
 ·rw [h.told]
  show m.told ++ (m.endFree).filter _ = _
  congr 1
  rw [← hK, List.filter_filter]
  apply List.filter_congr
  intro n hn
  rw [Bool.and_comm]
 ·intro n hn
  have hn2 := hn
  rw [h.there] at hn2
  have ht : m.there n = true := by
   apply Classical.byContradiction
   intro hc
   have : n ∉ m.thereL := fun e => hc (mem_thereL.1 e)
   rw [if_neg this] at hn2
   exact hc hn2
  have hb := there_le ht
  rw [if_pos (mem_thereL.2 ht)] at hn2
  have hnf : n ∉ m.endFree := fun e => by have := ((hfm n).1 e).2; rw [hn2] at this; cases this
  rw [at_objs ho, mapO_at hb.1 (by rw [hlen]; exact hb.2), frees_at hb.1 hb.2, if_neg hnf, h.at' n hb.1, if_pos (mem_thereL.2 ht), if_pos hn2]
theorem sw_wf {m m' : MS} {from' : List Int} {g : MO → MO} (hw : m.wf) (hg : ∀ o : MO, (g o).refs = o.refs) (hf : ∀ n ∈ from', n ≠ 0 → m.there n = true) (h : Sw (m.met from') g m m.thereL m') : m'.wf := by
 have ht' : ∀ n, m'.there n = true ↔ m.met from' n = true := by
  intro n
  rw [h.there]
  split
  ·exact Iff.rfl
  ·rename_i e
   constructor
   ·intro ht; exact absurd (mem_thereL.2 ht) e
   ·intro hm; exact absurd (mem_thereL.2 (reach_there hw hf hm)) e
 intro n hn k hk
 have hm := (ht' n).1 hn
 have htn := reach_there hw hf hm
 have hat := h.at' n (there_le htn).1
 rw [if_pos (mem_thereL.2 htn), if_pos hm] at hat
 unfold MS.refsOf at hk
 rw [hat, hg] at hk
 exact (ht' k).2 (met_iff.2 (.step (met_iff.1 hm) hk))
theorem same_wf {m m' : MS} (h : m.Same m') (hw : m.wf) : m'.wf := by
 intro n hn k hk
 rw [h.there] at hn ⊢
 unfold MS.refsOf at hk
 rw [h.at' n hn] at hk
 exact hw n hn k hk
end Go.L17
namespace Go.L17
open Go Go.Eng Go.RowKit
open Go.Proofs hiding encI
set_option maxRecDepth 100000
set_option maxHeartbeats 2000000
theorem sw1_kept {K : Int → Bool} {g : MO → MO} {m : MS} {n : Int} (h : K n = true) : m.sw1 K g n = m.put n (g (m.at n)) := by unfold MS.sw1; rw [if_pos h]
theorem sw1_freed {K : Int → Bool} {g : MO → MO} {m : MS} {n : Int} (h : K n = false) : m.sw1 K g n = (if (m.at n).watched then (m.put n (m.at n)).tell n else m.put n (m.at n)).put n noMO := by unfold MS.sw1; rw [if_neg (by simp [h])]
section
variable {base Hb : Nat} {β : Lay} {m : MS} {w : World} {onv : Value}
def KeepR (w : World) (β : Lay) (m : MS) (K : Int → Bool) (g : MO → MO) (gf : FuncId) (caps : Array Value) : Prop :=
 ∀ n, m.there n = true → ∀ (W : World) (p f : Nat) (kept : Int), w.heap.size ≤ W.heap.size → (∀ b, b < w.heap.size → ¬ β.has b → W.heap[b]? = w.heap[b]?) → (β.has p ∨ w.heap.size ≤ p) →
  Blk W p #[.iface (tyOf (m.at n)) (ptr f), .int .i64 kept, .bool (decide (2 ≤ (m.at n).age)), .bool (m.at n).watched] 133 → ((m.at n).age < 2 → kept = (m.at n).age) →
  Calls Tryz.prog gf (#[.int .i64 n, ptr p] ++ caps) W fun e W' => e = .returned (.bool (K n)) ∧ Fr (fun k => k = p) W W' ∧
   ∃ kept' : Int, Blk W' p #[.iface (tyOf (m.at n)) (ptr f), .int .i64 kept', .bool (decide (2 ≤ (if K n then g (m.at n) else m.at n).age)), .bool (m.at n).watched] 133 ∧ ((if K n then g (m.at n) else m.at n).age < 2 → kept' = (if K n then g (m.at n) else m.at n).age)
def SweepR (base : Nat) (w : World) (Hb : Nat) (β : Lay) (m : MS) (onv : Value) (K : Int → Bool) (g : MO → MO) : Ending → World → Prop := fun e w' =>
 e = .returned (.int .i64 ((m.thereL.filter fun n => !K n).length : Int)) ∧ ∃ β', HW base w' Hb β' (m.sw K g m.thereL) onv ∧ Turn β w β' w'
theorem HW.keys (h : HW base w Hb β m onv) {M : Nat} {ps : List (Int × Value)} (hmp : I.MapB w M ps) (hps : ∀ n, I.lookP ps n = if m.there n then (β (.ob n)).map ptr else none) : sortI (ps.map (·.1)) = m.thereL ∧ ps.length ≤ 1000000 := by
 have hk : (ps.map (·.1)).Perm m.thereL := by
  rw [List.perm_ext_iff_of_nodup hmp.nodup ((thereL_sorted m).imp fun h e => by omega)]
  intro n
  rw [I.mem_keys_look, hps, mem_thereL]
  cases ht : m.there n with
  | false => simp
  | true =>
   obtain ⟨p, f, kept, vv, q1, _⟩ := (h.obs n ht).ex
   simp [q1]
 refine ⟨sortI_eq hmp.nodup (thereL_sorted m) fun n => hk.mem_iff, ?_⟩
 have := hk.length_eq
 rw [List.length_map] at this
 have := thereL_len m (by have := h.words; omega)
 omega
theorem t_sweep (h : HW base w Hb β m onv) (hbw : base ≤ w.heap.size) {K : Int → Bool} {g : MO → MO} {gf : FuncId} {caps : Array Value} (hcb : callB Tryz.prog gf = true)
  (hg : ∀ o : MO, (g o).there = o.there ∧ (g o).tag = o.tag ∧ (g o).elem = o.elem ∧ (g o).kinds = o.kinds ∧ (g o).vals = o.vals ∧ (g o).watched = o.watched) (hk : KeepR w β m K g gf caps) (htold : m.told.length ≤ 1000000000000) :
  Calls Tryz.prog 104 #[ptr Hb, .func (.func gf) #[] caps] w (SweepR base w Hb β m onv K g) := by
 obtain ⟨R, hR⟩ : ∃ R, R = SweepR base w Hb β m onv K g := ⟨_, rfl⟩
 rw [← hR]
 obtain ⟨M, ps, ev, hM, hd, hmp, hps, hev⟩ := h.hd
 obtain ⟨hsk, hpl⟩ := h.keys hmp hps
 have hll := thereL_len m (by have := h.words; omega)
 have hnd : m.thereL.Nodup := (thereL_sorted m).imp fun h e => by omega
 have hgt : ∀ o : MO, (g o).there = o.there := fun o => (hg o).1
 refine ir104_calls fun ρ r0 r1 => ?_
 simp -implicitDefEqProofs [-wps_asg, -wps_eff, wa2, we2, ir104, r0, ptr]
 refine (t_allL rfl hd hmp hsk hpl).mono ?_
 rintro _ W0 ⟨x, rfl, hx, hE⟩
 have hxl := hx.sl (enc := encI) (by omega)
 have z0 := hE.size
 simp -implicitDefEqProofs [-wps_asg, -wps_eff, wa2, we2, hxl.is, hxl.len]
 refine loopC 14 m.thereL.length (fun k ρ' W => ρ' 0 = ptr Hb ∧ ρ' 1 = .func (.func gf) #[] caps ∧ ρ' 5 = .int .i64 (((m.thereL.take k).filter fun n => !K n).length : Int) ∧ ρ' 12 = x ∧ ρ' 13 = .int .i64 m.thereL.length ∧
  ∃ β', HW base W Hb β' (m.sw K g (m.thereL.take k)) onv ∧ Turn β W0 β' W) (by simp) ⟨by simp [r0], by simp [r1], by simp, by simp, by simp, β, h.ext hE, Turn.of (ext_refl _)⟩ ?_
 rintro k ρ' W hk14 h14 ⟨s0, s1, s5, s12, s13, β', hH, hT⟩
 by_cases hlt : k < m.thereL.length
 rotate_left
 ·have hk' : k = m.thereL.length := by omega
  subst hk'
  simp -implicitDefEqProofs [-wps_asg, -wps_eff, wa2, we2, ir104_l4, h14, s13, ir104_k5, s5]
  rw [hR]
  rw [List.take_length] at hH
  exact ⟨rfl, β', hH, (Turn.of hE).trans hT⟩
 obtain ⟨n, hn⟩ : ∃ n, n = m.thereL[k] := ⟨_, rfl⟩
 have hnm : n ∈ m.thereL := by rw [hn]; exact List.getElem_mem hlt
 have htn := mem_thereL.1 hnm
 have hnt : n ∉ m.thereL.take k := by
  intro hc
  obtain ⟨j, hj, e⟩ := List.getElem_of_mem hc
  rw [List.getElem_take] at e
  rw [List.length_take] at hj
  have := (List.nodup_iff_pairwise_ne.1 hnd)
  have := List.pairwise_iff_getElem.1 this j k (by omega) hlt (by omega)
  rw [e, hn] at this
  exact this rfl
 have hS := sw_of (K := K) (g := g) hgt (l := m.thereL.take k) (m := m) (hnd.sublist (List.take_sublist _ _)) fun y hy => mem_thereL.1 (List.take_subset _ _ hy)
 have hS2 := sw_of (K := K) (g := g) hgt (l := m.thereL.take (k + 1)) (m := m) (hnd.sublist (List.take_sublist _ _)) fun y hy => mem_thereL.1 (List.take_subset _ _ hy)
 rw [sw_take hlt, ← hn] at hS2
 obtain ⟨mk, hmk⟩ : ∃ mk, mk = m.sw K g (m.thereL.take k) := ⟨_, rfl⟩
 rw [← hmk] at hH hS hS2
 have hmt : mk.there n = true := by rw [hS.there, if_neg hnt]; exact htn
 have hma : mk.at n = m.at n := by rw [hS.at' n (there_le htn).1, if_neg hnt]
 have hxW : Own w.heap.size 3 1 W x (m.thereL.map encI) := Own.same' hx fun b hb => hT.1.block b (Own.blk hx b hb).2 fun hbb => by
  obtain ⟨r, hr⟩ := hbb
  have := h.hi r b hr
  have := (Own.blk hx b hb).1
  omega
 have hxw := hxW.sl (enc := encI) (by omega)
 have hcell := hxw.cell k hlt
 rw [← hn] at hcell
 obtain ⟨M', ps', ev', hM', hd', hmp', hps', hev'⟩ := hH.hd
 obtain ⟨p, f, kept, vv, q1, q2, q3, q4, q5, q6⟩ := (hH.obs n hmt).ex
 have hlk := hps' n
 rw [hmt, q1] at hlk
 rw [hma] at q3 q4
 obtain ⟨Z, hZ⟩ : ∃ Z : Env → World → Prop, Z = fun ρ'' w'' => k < m.thereL.length ∧ ρ'' 14 = .int .i64 ((k : Int) + 1) ∧ (ρ'' 0 = ptr Hb ∧ ρ'' 1 = .func (.func gf) #[] caps ∧ ρ'' 5 = .int .i64 (((m.thereL.take (k + 1)).filter fun n => !K n).length : Int) ∧ ρ'' 12 = x ∧ ρ'' 13 = .int .i64 m.thereL.length ∧
  ∃ β', HW base w'' Hb β' (m.sw K g (m.thereL.take (k + 1))) onv ∧ Turn β W0 β' w'') := ⟨_, rfl⟩
 rw [← hZ]
 simp -implicitDefEqProofs [-wps_asg, -wps_eff, wa2, we2, ir104_l4, h14, s13, hlt, ir104_k3, s12, hxw.is, hxw.len, hcell, encI, s0, ptr, hd'.cell]
 refine I.eff_lookup (s := n) und91 und3 zi129 (by simp) (by simp) hmp' false ?_
 simp -implicitDefEqProofs [-wps_asg, -wps_eff, wa2, we2, hlk, ptr, s1]
 refine eff_callv (f := gf) (fs := #[]) (caps := caps) hcb (by simp) ?_
 simp -implicitDefEqProofs [-wps_asg, -wps_eff, wa2, we2]
 have hzT := hT.1.size
 have hpn : β.has p ∨ w.heap.size ≤ p := by
  rcases hT.2 p ⟨_, q1⟩ with e | e
  ·exact .inl e
  ·exact .inr (by omega)
 have hkc := hk n htn W p f kept (by omega) (fun b hb hnb => (hT.1.block b (by omega) hnb).trans (hE.block b hb)) hpn q3 q4
 simp [ptr] at hkc
 refine hkc.mono ?_
 rintro _ W1 ⟨rfl, hF1, kept', hb1, hk1⟩
 have ho' : ∀ o', o' = (if K n then g (m.at n) else m.at n) → o'.there = true ∧ o'.tag = (mk.at n).tag ∧ o'.elem = (mk.at n).elem ∧ o'.kinds = (mk.at n).kinds ∧ o'.vals = (mk.at n).vals ∧ o'.watched = (m.at n).watched := by
  rintro _ rfl
  rw [hma]
  split
  ·obtain ⟨a1, a2, a3, a4, a5, a6⟩ := hg (m.at n)
   exact ⟨a1.trans (there_true htn), a2, a3, a4, a5, a6⟩
  ·exact ⟨there_true htn, rfl, rfl, rfl, rfl, rfl⟩
 obtain ⟨o', hoe⟩ : ∃ o', o' = (if K n then g (m.at n) else m.at n) := ⟨_, rfl⟩
 rw [← hoe] at hb1 hk1
 obtain ⟨a1, a2, a3, a4, a5, a6⟩ := ho' o' hoe
 have hb1' : Blk W1 p #[.iface (tyOf o') (ptr f), .int .i64 kept', .bool (decide (2 ≤ o'.age)), .bool o'.watched] 133 := by
  rw [a6, show tyOf o' = tyOf (m.at n) from by unfold tyOf; rw [a3, hma]]
  exact hb1
 obtain ⟨hH1, hT1⟩ := hH.head (o' := o') hmt a1 a2 a3 a4 a5 q1 q2 hF1 hb1' hk1
 cases hK : K n with
 | true =>
  have e1 : mk.put n o' = m.sw K g (m.thereL.take (k + 1)) := by rw [sw_take hlt, ← hn, ← hmk, sw1_kept hK, hoe, if_pos hK, hma]
  rw [e1] at hH1
  have e2 : ((m.thereL.take (k + 1)).filter fun n => !K n) = (m.thereL.take k).filter fun n => !K n := by
   rw [List.take_add_one, List.getElem?_eq_getElem hlt, ← hn, List.filter_append]; simp [hK]
  simp -implicitDefEqProofs [-wps_asg, -wps_eff, wa2, we2, ir104_k2, h14, i64w (n := (k : Int) + 1) (by omega)]
  rw [hZ, e2]
  exact ⟨hlt, by simp, by simp [s0], by simp [s1], by simp [s5], by simp [s12], by simp [s13], β', hH1, hT.trans hT1⟩
 | false =>
  have e2 : ((m.thereL.take (k + 1)).filter fun n => !K n).length = ((m.thereL.take k).filter fun n => !K n).length + 1 := by
   rw [List.take_add_one, List.getElem?_eq_getElem hlt, ← hn, List.filter_append]; simp [hK]
  have hoK : o' = mk.at n := by rw [hoe, hK, hma]; simp
  have hcl : ((m.thereL.take k).filter fun n => !K n).length ≤ 1000000 := by
   have h1 := List.length_filter_le (fun n => !K n) (m.thereL.take k)
   rw [List.length_take] at h1
   omega
  have hfin : ∀ (m2 : MS) (β2 : Lay) (W2 : World), (m2 = if (m.at n).watched then (mk.put n o').tell n else mk.put n o') → HW base W2 Hb β2 m2 onv → Turn β W0 β2 W2 → m2.there n = true → ∀ ρ2 : Env, ρ2 0 = ptr Hb → ρ2 1 = .func (.func gf) #[] caps → ρ2 5 = .int .i64 (((m.thereL.take k).filter fun n => !K n).length : Int) → ρ2 12 = x → ρ2 13 = .int .i64 m.thereL.length → ρ2 14 = .int .i64 k → ρ2 7 = .int .i64 n →
    IR.wp ⟨Tryz.prog, 52, ir104_V, []⟩ ir104_k0 (IR.wp ⟨Tryz.prog, 52, ir104_V, []⟩ ir104_k2 Z ((ksOf [.tmp 4] R).blk 0 (IR.wp ⟨Tryz.prog, 52, ir104_V, []⟩ ir104_k5 (retK [.tmp 4] R) (ksOf [.tmp 4] R)))) (((ksOf [.tmp 4] R).blk 0 (IR.wp ⟨Tryz.prog, 52, ir104_V, []⟩ ir104_k5 (retK [.tmp 4] R) (ksOf [.tmp 4] R))).blk 1 (IR.wp ⟨Tryz.prog, 52, ir104_V, []⟩ ir104_k2 Z ((ksOf [.tmp 4] R).blk 0 (IR.wp ⟨Tryz.prog, 52, ir104_V, []⟩ ir104_k5 (retK [.tmp 4] R) (ksOf [.tmp 4] R))))) ρ2 W2 := by
   intro m2 β2 W2 hm2 hH2 hT2 ht2 ρ2 u0 u1 u5 u12 u13 u14 u7
   simp -implicitDefEqProofs [-wps_asg, -wps_eff, wa2, we2, ir104_k0, u0, ptr, u7]
   refine (t_free hH2 ht2).mono ?_
   rintro _ W3 ⟨rfl, hH3, hT3⟩
   have e1 : m2.put n noMO = m.sw K g (m.thereL.take (k + 1)) := by
    rw [sw_take hlt, ← hn, ← hmk, sw1_freed hK, hm2, hoK, hma]
   rw [e1] at hH3
   simp -implicitDefEqProofs [-wps_asg, -wps_eff, wa2, we2, ir104_k2, u14, u5, i64w (n := (k : Int) + 1) (by omega), i64w (n := (((m.thereL.take k).filter fun n => !K n).length : Int) + 1) (by omega)]
   rw [hZ, e2]
   exact ⟨hlt, by simp, by simp [u0], by simp [u1], by simp, by simp [u12], by simp [u13], _, hH3, hT2.trans hT3⟩
  simp -implicitDefEqProofs [-wps_asg, -wps_eff, wa2, we2, ir104_k1, hb1'.cell, a6]
  cases hwt : (m.at n).watched with
  | false =>
   simp -implicitDefEqProofs [-wps_asg, -wps_eff, wa2, we2]
   refine hfin (mk.put n o') β' W1 (by rw [hwt]; simp) hH1 (hT.trans hT1) (by rw [there_put hmt a1]; exact hmt) _ ?_ ?_ ?_ ?_ ?_ ?_ ?_ <;> simp [s0, s1, s5, s12, s13, h14]
  | true =>
   obtain ⟨M1, ps1, ev1, hM1, hd1, hmp1, hps1, hev1⟩ := hH1.hd
   have htl : (mk.put n o').told.length ≤ 1000000000000 + 500000 := by
    show mk.told.length ≤ _
    rw [hS.told, List.length_append]
    have h1 := List.length_filter_le (fun n => !K n && (m.at n).watched) (m.thereL.take k)
    rw [List.length_take] at h1
    omega
   simp -implicitDefEqProofs [-wps_asg, -wps_eff, wa2, we2, s0, ptr, hd1.cell]
   refine eff_lit si35 (by decide) (by decide) (by simp [Value.cells]) fun B9 W2 hB9 hE2 hb9 _ => ?_
   simp [Value.cells] at hb9
   have z2 := hE2.size
   have hO9 : Own W1.heap.size 3 1 W2 (.slice (some ⟨B9, 0, none⟩) 1 1) [.int .i64 n] := Own.lit hb9 rfl (by omega) (by decide)
   have z1 := hF1.size
   have ho2 := hev1.own.ext hE2
   simp -implicitDefEqProofs [-wps_asg, -wps_eff, wa2, we2]
   refine eff_appendG ri35 (base := base) (by omega) (by simp) (by simp) ho2 (own_cells hO9) (by simp; rfl) (by simp; omega) (by simp; omega) fun lv' W3 ho3 hg3 hf3 => ?_
   have hone := own_one ho3
   have hen : ∀ b, ev1.ownBlock = some b → β' .en = some b := fun b hb => by rw [← hev1.blk]; exact hb
   have hHl := hH1.hi _ _ hH1.hb
   have hd3 : Blk W3 Hb _ 96 := ⟨(hg3.block Hb (by omega) (fun e => by have := hH1.inj .heap .en Hb hH1.hb (hen Hb e.symm); cases this)).trans (hd1.ext hE2).heap⟩
   simp -implicitDefEqProofs [-wps_asg, -wps_eff, wa2, we2, s0, ptr]
   refine eff_store1 (B := Hb) (i := 5) (by simp) hd3 (by simp) (by simpa using hone.1) (by simpa using hone.2) sz35 fun W4 hO4 hb4 => ?_
   simp at hb4
   have z3 := hg3.size
   have hF4 : Fr (fun k => k = Hb ∨ β' .en = some k) W1 W4 := ((Fr.of hE2 (S := fun k => k = Hb ∨ β' .en = some k)).trans ((Fr.grown hg3).mono (S' := fun k => k = Hb ∨ β' .en = some k) fun y hy => .inl (.inr (hen y hy))) (fun y h => .inl h)).trans (Fr.only hO4 (S := fun k => k = Hb ∨ β' .en = some k) (.inl rfl)) (fun y h => .inl h)
   have hlb : ∀ b, lv'.ownBlock = some b → β' .en = some b ∨ W1.heap.size ≤ b := fun b hb => by
    rcases hf3 with e | e
    ·rw [e] at hb; exact .inl (hen b hb)
    ·rw [e] at hb; cases hb; exact .inr z2
   have hlo : ∀ b, lv'.ownBlock = some b → b ≠ Hb := fun b hb e => by
    subst e
    rcases hlb b hb with e | e
    ·have := hH1.inj .heap .en b hH1.hb e; cases this
    ·omega
   have ho4 : Own base 3 1 W4 lv' (((mk.put n o').told ++ [n]).map encI) := by
    have := Own.same' ho3 (w' := W4) fun b hb => hO4.block b (hlo b hb)
    simpa [encI] using this
   obtain ⟨hH5, hT5⟩ := hH1.tell (n := n) hM1 hev1 hF4 (by simpa [ptr] using hb4) ho4 hlb
   refine hfin ((mk.put n o').tell n) _ W4 (by rw [hwt]; simp) hH5 ((hT.trans hT1).trans hT5) (by rw [there_tell, there_put hmt a1]; exact hmt) _ ?_ ?_ ?_ ?_ ?_ ?_ ?_ <;> simp [s0, s1, s5, s12, s13, h14]
end
end Go.L17
namespace Go.L17
open Go Go.Eng Go.RowKit
open Go.Proofs hiding encI
set_option maxRecDepth 100000
set_option maxHeartbeats 2000000
@[simp] theorem cb38 : callB Tryz.prog 38 = true := by kernel_rfl
@[simp] theorem cb102 : callB Tryz.prog 102 = true := by kernel_rfl
theorem cb105 : callB Tryz.prog 105 = true := by kernel_rfl
theorem cb134 : callB Tryz.prog 134 = true := by kernel_rfl
theorem z106 : zeroCellsOf Tryz.prog 106 = some #[.map none] := by kernel_rfl
theorem sz106 : sizeIs Tryz.prog 106 1 = true := by kernel_rfl
theorem look_mem {ps : List (Int × Value)} (hn : (ps.map (·.1)).Nodup) {k : Int} {v : Value} (h : (k, v) ∈ ps) : I.lookP ps k = some v := by
 have h1 : (I.lookP ps k).isSome = true := I.mem_keys_look.1 (List.mem_map.2 ⟨_, h, rfl⟩)
 obtain ⟨u, hu⟩ := Option.isSome_iff_exists.1 h1
 unfold I.lookP at hu
 obtain ⟨p, hp, rfl⟩ := Option.map_eq_some_iff.1 hu
 have hp1 := List.mem_of_find?_eq_some hp
 have hp2 := List.find?_some hp
 simp only [decide_eq_true_eq] at hp2
 have := I.inj_nodup hn hp1 h hp2
 unfold I.lookP
 rw [hp, this]; rfl
section
variable {base Hb : Nat} {β : Lay} {m : MS} {w : World} {onv : Value} {c : Option Wh}
theorem t_keep105 {Bx B : Nat} {ks : List Int} {K : Int → Bool} (hbx : Blk w Bx #[.map (some B)] 106) (hmB : I.MapB w B (setPs ks)) (hks : ∀ n, n ∈ ks ↔ K n = true) (hnx : ¬ β.has Bx ∧ ¬ β.has B) : KeepR w β m K MO.older 105 #[ptr Bx] := by
 intro n hn W p f kept hz hW hp hb hk
 have hbxW : Blk W Bx #[.map (some B)] 106 := Blk.keep hbx (hW Bx hbx.lt hnx.1)
 have hmW : I.MapB W B (setPs ks) := hmB.block (hW B hmB.lt hnx.2)
 have hpx : p ≠ Bx := fun e => by
  rcases hp with e2 | e2
  ·exact hnx.1 (e ▸ e2)
  ·have := hbx.lt; omega
 have hpb : p ≠ B := fun e => by
  rcases hp with e2 | e2
  ·exact hnx.2 (e ▸ e2)
  ·have := hmB.lt; omega
 have hdec : decide (n ∈ ks) = K n := by
  rw [Bool.eq_iff_iff]
  simp [hks]
 have hlast : ∀ (W2 : World) (ρ2 : Env) (kept' : Int) (a : Nat), Fr (fun k => k = p) W W2 → ρ2 0 = .int .i64 n → ρ2 2 = ptr Bx → a = (if K n then (m.at n).older else m.at n).age → Blk W2 p #[.iface (tyOf (m.at n)) (ptr f), .int .i64 kept', .bool (decide (2 ≤ a)), .bool (m.at n).watched] 133 → (a < 2 → kept' = a) →
   IR.wp ⟨Tryz.prog, 34, ir105_V, []⟩ ir105_k0 (retK [.tmp 5] fun e W' => e = .returned (.bool (K n)) ∧ Fr (fun k => k = p) W W' ∧ ∃ kept' : Int, Blk W' p #[.iface (tyOf (m.at n)) (ptr f), .int .i64 kept', .bool (decide (2 ≤ (if K n then (m.at n).older else m.at n).age)), .bool (m.at n).watched] 133 ∧ ((if K n then (m.at n).older else m.at n).age < 2 → kept' = (if K n then (m.at n).older else m.at n).age))
    (ksOf [.tmp 5] fun e W' => e = .returned (.bool (K n)) ∧ Fr (fun k => k = p) W W' ∧ ∃ kept' : Int, Blk W' p #[.iface (tyOf (m.at n)) (ptr f), .int .i64 kept', .bool (decide (2 ≤ (if K n then (m.at n).older else m.at n).age)), .bool (m.at n).watched] 133 ∧ ((if K n then (m.at n).older else m.at n).age < 2 → kept' = (if K n then (m.at n).older else m.at n).age)) ρ2 W2 := by
  intro W2 ρ2 kept' a hF u0 u2 ha hb2 hk2
  have b2 : Blk W2 Bx #[.map (some B)] 106 := Blk.keep hbxW (hF.block Bx hbxW.lt (Ne.symm hpx))
  have m2 : I.MapB W2 B (setPs ks) := hmW.block (hF.block B hmW.lt (Ne.symm hpb))
  simp -implicitDefEqProofs [-wps_asg, -wps_eff, wa2, we2, ir105_k0, u0, u2, ptr, b2.cell]
  refine I.eff_lookup (s := n) und106 und3 zi4 (by simp) (by simp) m2 false ?_
  simp -implicitDefEqProofs [-wps_asg, -wps_eff, wa2, we2]
  rw [look_set, hdec, ← ha]
  exact ⟨rfl, hF, kept', hb2, hk2⟩
 refine ir105_calls fun ρ s0 s1 s2 => ?_
 have s1' : ρ 1 = .pointer (some ⟨p, 0, none⟩) := s1
 have s2' : ρ 2 = .pointer (some ⟨Bx, 0, none⟩) := s2
 by_cases hage : 2 ≤ (m.at n).age
 ·simp -implicitDefEqProofs [-wps_asg, -wps_eff, wa2, we2, ir105, s0, s1', s2', hb.cell, hage]
  refine hlast W _ kept (if K n then (m.at n).older else m.at n).age (Fr.of (ext_refl _)) ?_ ?_ rfl ?_ ?_
  ·simp [s0]
  ·simp [s2]
  ·have e : decide (2 ≤ (if K n then (m.at n).older else m.at n).age) = decide (2 ≤ (m.at n).age) := by
    split
    ·have : 2 ≤ (m.at n).older.age := by show 2 ≤ (m.at n).age + 1; omega
     simp [this, hage]
    ·rfl
   rw [e]; exact hb
  ·intro h
   split at h
   ·have : (m.at n).older.age = (m.at n).age + 1 := rfl
    omega
   ·omega
 ·have hk' := hk (by omega)
  simp -implicitDefEqProofs [-wps_asg, -wps_eff, wa2, we2, ir105, s0, s1', s2', hb.cell, hage, hbxW.cell]
  refine I.eff_lookup (s := n) und106 und3 zi4 (by simp) (by simp [s0]) hmW false ?_
  simp -implicitDefEqProofs [-wps_asg, -wps_eff, wa2, we2]
  rw [look_set, hdec]
  cases hK : K n with
  | false =>
   simp -implicitDefEqProofs [-wps_asg, -wps_eff, wa2, we2]
   rw [hK] at hlast
   refine hlast W _ kept (m.at n).age (Fr.of (ext_refl _)) ?_ ?_ rfl hb hk
   ·simp [s0]
   ·simp [s2]
  | true =>
   have hw : IntKind.i64.wrap (kept + 1) = kept + 1 := i64w (by omega)
   simp -implicitDefEqProofs [-wps_asg, -wps_eff, wa2, we2, s1', hb.cell, hw]
   refine eff_store1 (B := p) (i := 1) (by simp) hb (by simp) rfl rfl sz3' fun W2 hO2 hb2 => ?_
   simp at hb2
   simp -implicitDefEqProofs [-wps_asg, -wps_eff, wa2, we2, s1', hb2.cell]
   refine eff_store1 (B := p) (i := 2) (by simp) hb2 (by simp) rfl rfl sz4 fun W3 hO3 hb3 => ?_
   simp at hb3
   rw [hK] at hlast
   refine hlast W3 _ (kept + 1) (m.at n).older.age ((Fr.only hO2 (S := fun k => k = p) rfl).trans (Fr.only hO3 (S := fun k => k = p) rfl) (fun x h => .inl h)) ?_ ?_ rfl ?_ ?_
   ·simp [s0]
   ·simp [s2]
   ·have e : (m.at n).older.age = (m.at n).age + 1 := rfl
    rw [e]
    have e2 : (decide ((2 : Int) ≤ kept + 1)) = decide (2 ≤ (m.at n).age + 1) := by rw [Bool.eq_iff_iff]; simp; omega
    rw [← e2]; exact hb3
   ·intro h
    have e : (m.at n).older.age = (m.at n).age + 1 := rfl
    rw [e]; omega
theorem t_keep134 {Bx B : Nat} {ks : List Int} {K : Int → Bool} (hbx : Blk w Bx #[.map (some B)] 106) (hmB : I.MapB w B (setPs ks)) (hks : ∀ n, n ∈ ks ↔ K n = true) (hnx : ¬ β.has Bx ∧ ¬ β.has B) : KeepR w β m K MO.old 134 #[ptr Bx] := by
 intro n hn W p f kept hz hW hp hb hk
 have hbxW : Blk W Bx #[.map (some B)] 106 := Blk.keep hbx (hW Bx hbx.lt hnx.1)
 have hmW : I.MapB W B (setPs ks) := hmB.block (hW B hmB.lt hnx.2)
 have hpx : p ≠ Bx := fun e => by
  rcases hp with e2 | e2
  ·exact hnx.1 (e ▸ e2)
  ·have := hbx.lt; omega
 have hpb : p ≠ B := fun e => by
  rcases hp with e2 | e2
  ·exact hnx.2 (e ▸ e2)
  ·have := hmB.lt; omega
 have hdec : decide (n ∈ ks) = K n := by
  rw [Bool.eq_iff_iff]
  simp [hks]
 have hend : ∀ (W2 : World), Only p W W2 → ∀ b : Bool, b = decide (2 ≤ (if K n then (m.at n).old else m.at n).age) → Blk W2 p #[.iface (tyOf (m.at n)) (ptr f), .int .i64 kept, .bool b, .bool (m.at n).watched] 133 →
   (Fr (fun k => k = p) W W2 ∧ ∃ kept' : Int, Blk W2 p #[.iface (tyOf (m.at n)) (ptr f), .int .i64 kept', .bool (decide (2 ≤ (if K n then (m.at n).old else m.at n).age)), .bool (m.at n).watched] 133 ∧ ((if K n then (m.at n).old else m.at n).age < 2 → kept' = (if K n then (m.at n).old else m.at n).age)) := by
  intro W2 hO b hbe hb2
  refine ⟨Fr.only hO rfl, kept, by rw [← hbe]; exact hb2, fun h => ?_⟩
  split at h
  ·have : (m.at n).old.age = 2 := rfl
   omega
  ·rename_i hK
   rw [if_neg hK]; exact hk h
 refine ir134_calls fun ρ s0 s1 s2 => ?_
 have s1' : ρ 1 = .pointer (some ⟨p, 0, none⟩) := s1
 have s2' : ρ 2 = .pointer (some ⟨Bx, 0, none⟩) := s2
 by_cases hage : 2 ≤ (m.at n).age
 ·simp -implicitDefEqProofs [-wps_asg, -wps_eff, wa2, we2, ir134, s0, s1', s2', hb.cell, hage]
  refine eff_store1 (B := p) (i := 2) (by simp) hb (by simp) rfl rfl sz4 fun W3 hO3 hb3 => ?_
  simp at hb3
  have b3 := hO3.blk hbxW (Ne.symm hpx)
  simp -implicitDefEqProofs [-wps_asg, -wps_eff, wa2, we2, s0, s2', b3.cell]
  refine I.eff_lookup (s := n) und106 und3 zi4 (by simp) (by simp) (hmW.block (hO3.block B (Ne.symm hpb))) false ?_
  simp -implicitDefEqProofs [-wps_asg, -wps_eff, wa2, we2]
  rw [look_set, hdec]
  refine ⟨rfl, hend W3 hO3 true ?_ hb3⟩
  split
  ·rfl
  ·simp [hage]
 ·simp -implicitDefEqProofs [-wps_asg, -wps_eff, wa2, we2, ir134, s0, s1', s2', hb.cell, hage, hbxW.cell]
  refine I.eff_lookup (s := n) und106 und3 zi4 (by simp) (by simp [s0]) hmW false ?_
  simp -implicitDefEqProofs [-wps_asg, -wps_eff, wa2, we2, s1']
  rw [look_set, hdec]
  refine eff_store1 (B := p) (i := 2) (by simp) hb (by simp) rfl rfl sz4 fun W3 hO3 hb3 => ?_
  simp at hb3
  have b3 := hO3.blk hbxW (Ne.symm hpx)
  simp -implicitDefEqProofs [-wps_asg, -wps_eff, wa2, we2, s0, s2', b3.cell]
  refine I.eff_lookup (s := n) und106 und3 zi4 (by simp) (by simp) (hmW.block (hO3.block B (Ne.symm hpb))) false ?_
  simp -implicitDefEqProofs [-wps_asg, -wps_eff, wa2, we2]
  rw [look_set, hdec]
  refine ⟨rfl, hend W3 hO3 (K n) ?_ hb3⟩
  cases K n with
  | true => rfl
  | false => simp [hage]
end
end Go.L17
namespace Go.L17
open Go Go.Eng Go.RowKit
open Go.Proofs hiding encI
set_option maxRecDepth 100000
set_option maxHeartbeats 2000000
theorem met_objs {m m' : MS} (h : m'.objs = m.objs) (roots : List Int) (n : Int) : m'.met roots n = m.met roots n := by
 unfold MS.met
 rw [show m'.refsOf = m.refsOf from funext fun k => refsOf_objs h k]
theorem mem_olds {m : MS} {n : Int} : n ∈ m.olds ↔ m.there n = true ∧ 2 ≤ (m.at n).age := by
 unfold MS.olds
 rw [List.mem_filter, mem_nums]
 simp only [Bool.and_eq_true, Bool.not_eq_true']
 constructor
 ·rintro ⟨_, h1, h2⟩
  refine ⟨h1, ?_⟩
  simp [MS.young, h1] at h2
  exact h2
 ·rintro ⟨h1, h2⟩
  refine ⟨there_le h1, h1, ?_⟩
  simp [MS.young, h1]
  exact h2
section
variable {base Hb : Nat} {β : Lay} {m : MS} {w : World} {onv : Value} {c : Option Wh}
theorem WhAt.isPtr (h : WhAt base w β m c onv) : ∃ q : Option Addr, onv = .pointer q ∧ q.isNone = !m.on := by
 cases h with
 | off h => exact ⟨none, rfl, by simp [h]⟩
 | on c q bm wm gv sv s roots h1 => exact ⟨_, rfl, by simp [h1]⟩
theorem root_len {m : MS} {roots : List Int} (he : m.rootE roots = 0) : roots.length ≤ 10000 := by
 unfold MS.rootE at he
 split at he
 ·cases he
 ·omega
theorem t_Minor (h : HAt base w Hb β m c) (hbw : base ≤ w.heap.size) {v : Value} {roots : List Int} (hl : Sl encI w v roots) (htold : m.told.length ≤ 1000000000000) :
  Calls Tryz.prog 38 #[ptr Hb, v] w (OpX base w Hb β (.tuple #[.int .i64 (m.minor roots).1, .int .i64 (m.minor roots).2.1]) (m.minor roots).2.2) := by
 obtain ⟨R, hR⟩ : ∃ R, R = OpX base w Hb β (.tuple #[.int .i64 (m.minor roots).1, .int .i64 (m.minor roots).2.1]) (m.minor roots).2.2 := ⟨_, rfl⟩
 rw [← hR]
 obtain ⟨M, ps, onv, ev, hM, hd, hmp, hps, hwh, hev⟩ := h.hd
 obtain ⟨hsk, hpl⟩ := sort_keys h hmp hps
 have hpl5 : ps.length ≤ 500000 := by
  have h1 := (h.keys hmp hps).length_eq
  rw [List.length_map] at h1
  have := thereL_len m (by have := h.words; omega)
  omega
 obtain ⟨q, hq, hqn⟩ := hwh.isPtr
 refine ir38_calls fun ρ r0 r1 => ?_
 simp -implicitDefEqProofs [-wps_asg, -wps_eff, wa2, we2, ir38, r0, r1]
 refine eff_eqlNilP (p := some ⟨Hb, 0, none⟩) und25 (by simp [ptr]) ?_
 simp -implicitDefEqProofs [-wps_asg, -wps_eff, wa2, we2, ir38_k5, r0, r1, ptr, hd.cell]
 refine eff_neqNilP (p := q) und94 (by simp [hq]) ?_
 rw [hqn]
 cases hon : m.on with
 | true =>
  have hs : m.minor roots = (0, 8, m) := by simp [MS.minor, MS.minorE, hon]
  simp -implicitDefEqProofs [-wps_asg, -wps_eff, wa2, we2]
  rw [hR, hs]
  exact OpX.of h (ext_refl _)
 | false =>
 simp -implicitDefEqProofs [-wps_asg, -wps_eff, wa2, we2, ir38_k4, r0, r1]
 refine (t_rooted h hl).mono ?_
 rintro _ W ⟨rfl, hE⟩
 by_cases he : m.rootE roots = 0
 rotate_left
 ·have hs : m.minor roots = (0, m.rootE roots, m) := by simp [MS.minor, MS.minorE, hon, he]
  simp -implicitDefEqProofs [-wps_asg, -wps_eff, wa2, we2, he]
  rw [hR, hs]
  exact OpX.of h hE
 have hrl := root_len he
 simp -implicitDefEqProofs [-wps_asg, -wps_eff, wa2, we2, he, ir38_k3, r0, r1, ptr]
 refine (t_Clone (hl.ext hE) (by omega)).mono ?_
 rintro _ W2 ⟨x, rfl, hx, hE2⟩
 have hE02 := hE.trans' hE2
 simp -implicitDefEqProofs [-wps_asg, -wps_eff, wa2, we2, r0, ptr, (hd.ext hE02).cell]
 refine I.eff_range (kt := 3) (et := 129) (B := M) und91 (by simp) (hmp.ext hE02) fun Rb W3 hRb hE3 hr => ?_
 have z1 := hE.size
 have z2 := hE2.size
 have z3 := hE3.size
 have hMl := h.hi _ _ hM
 simp -implicitDefEqProofs [-wps_asg, -wps_eff, wa2, we2]
 have hx3 : Own w.heap.size 3 1 W3 x (roots.map encI) := Own.low (hx.ext hE3) z1
 obtain ⟨isOld, hIO⟩ : ∃ isOld : Int → Bool, isOld = fun k => decide (2 ≤ (m.at k).age) := ⟨_, rfl⟩
 refine loopN (fun n ρ' W => ρ' 0 = ptr Hb ∧ ρ' 31 = .pointer (some ⟨Rb, 0, none⟩) ∧ ∃ vis cur lv, ρ' 7 = lv ∧ I.RangeB W Rb M ps vis cur ∧ vis.Nodup ∧ (∀ k ∈ vis, k ∈ ps.map (·.1)) ∧ Own w.heap.size 3 1 W lv ((roots ++ vis.reverse.filter isOld).map encI) ∧
  (∀ b, lv.ownBlock = some b → b ≠ Rb) ∧ Ext w W ∧ Rb < W.heap.size ∧ n + vis.length = ps.length) ps.length ⟨by simp [r0], by simp, [], none, x, by simp, hr, List.nodup_nil, fun _ h => (by cases h), by simpa using hx3, fun b hb e => by
   have := (Own.blk hx b hb).2
   omega, hE02.trans' hE3, hr.lt.2, by simp⟩ ?_
 rintro n ρ' W4 ⟨s0, s31, vis, cur, lv, s7, hr4, hnd, hin, hown, hne, hE4, hRl, hn⟩
 obtain ⟨Z, hZ⟩ : ∃ Z : Env → World → Prop, Z = fun ρ'' w'' => ∃ m_1, m_1 < n ∧ (ρ'' 0 = ptr Hb ∧ ρ'' 31 = .pointer (some ⟨Rb, 0, none⟩) ∧ ∃ vis cur lv, ρ'' 7 = lv ∧ I.RangeB w'' Rb M ps vis cur ∧ vis.Nodup ∧ (∀ k ∈ vis, k ∈ ps.map (·.1)) ∧ Own w.heap.size 3 1 w'' lv ((roots ++ vis.reverse.filter isOld).map encI) ∧
  (∀ b, lv.ownBlock = some b → b ≠ Rb) ∧ Ext w w'' ∧ Rb < w''.heap.size ∧ m_1 + vis.length = ps.length) := ⟨_, rfl⟩
 rw [← hZ]
 have hvl : vis.length ≤ ps.length := by
  have := nodup_le' _ (ps.map (·.1)) hnd hin
  simpa using this
 have hfl : (roots ++ vis.reverse.filter isOld).length ≤ 10000 + ps.length := by
  rw [List.length_append]
  have := List.length_filter_le isOld vis.reverse
  rw [List.length_reverse] at this
  omega
 simp -implicitDefEqProofs [-wps_asg, -wps_eff, wa2, we2, ir38_l1]
 refine I.eff_next (R := Rb) (B := M) (by simpa using s31) hr4 (fun hdone => ?_) (fun k u W5 hkp hkv hO5 hr5 => ?_)
 ·simp -implicitDefEqProofs [-wps_asg, -wps_eff, wa2, we2, ir38_k2, s0, ptr, s7]
  have hth : ∀ k ∈ roots ++ vis.reverse.filter isOld, k ≠ 0 → m.there k = true := by
   intro k hk h0
   rcases List.mem_append.1 hk with hk | hk
   ·exact roots_there he k hk h0
   ·have := hin k (List.mem_reverse.1 (List.mem_filter.1 hk).1)
    exact mem_thereL.1 (((h.keys hmp hps).mem_iff).1 this)
  have hmemO : ∀ k, k ∈ roots ++ vis.reverse.filter isOld ↔ k ∈ roots ++ m.olds := by
   intro k
   rw [List.mem_append, List.mem_append, mem_olds, List.mem_filter, List.mem_reverse, hIO, decide_eq_true_eq]
   have hk2 : k ∈ vis ↔ m.there k = true := by
    rw [← mem_thereL, ← (h.keys hmp hps).mem_iff]
    exact ⟨hin k, hdone k⟩
   rw [hk2]
  have hmet : ∀ k, m.met (roots ++ vis.reverse.filter isOld) k = m.met (roots ++ m.olds) k := met_congr fun k _ => hmemO k
  refine (t_reached (h.ext hE4) (hown.sl (enc := encI) (by omega)) (by omega) hth).mono ?_
  rintro _ W6 ⟨B, ks, rfl, hB, hmB, hksn, hks, hE6⟩
  have z6 := hE6.size
  have z4 := hE4.size
  simp -implicitDefEqProofs [-wps_asg, -wps_eff, wa2, we2]
  refine eff_alloc z106 fun Bx W7 hBx hE7 hb7 _ => ?_
  have lB := hmB.lt
  simp -implicitDefEqProofs [-wps_asg, -wps_eff, wa2, we2]
  refine eff_store1 (B := Bx) (i := 0) (by simp) hb7 (by simp) rfl rfl sz106 fun W8 hO8 hb8 => ?_
  simp at hb8
  have hE07 := (hE4.trans' hE6).trans' hE7
  have hE8 : Ext w W8 := hO8.ext hE07 (by omega)
  simp -implicitDefEqProofs [-wps_asg, -wps_eff, wa2, we2, s0, ptr]
  have hmB8 : I.MapB W8 B (setPs ks) := (hmB.ext hE7).block (hO8.block B (by omega))
  obtain ⟨onv2, hW, hwW⟩ := (h.ext hE8).weak
  have z8 := hE8.size
  have nh : ∀ b, w.heap.size ≤ b → ¬ β.has b := fun b hb => by
   rintro ⟨r, hr⟩
   have := h.hi r b hr
   omega
  have hks' : ∀ n, n ∈ ks ↔ m.met (roots ++ m.olds) n = true := fun n => by rw [hks, hmet]
  have hkeep := t_keep105 (w := W8) (β := β) (m := m) (K := m.met (roots ++ m.olds)) hb8 hmB8 hks' ⟨nh Bx (by omega), nh B (by omega)⟩
  have hsw := t_sweep hW (by omega) (K := m.met (roots ++ m.olds)) (g := MO.older) (gf := 105) (caps := #[ptr Bx]) cb105 (fun o => ⟨rfl, rfl, rfl, rfl, rfl, rfl⟩) hkeep htold
  simp [ptr] at hsw
  refine hsw.mono ?_
  rintro _ W9 ⟨rfl, β', hH9, hT9⟩
  simp -implicitDefEqProofs [-wps_asg, -wps_eff, wa2, we2]
  have hnd2 : m.thereL.Nodup := (thereL_sorted m).imp fun h e => by omega
  have hS := sw_of (K := m.met (roots ++ m.olds)) (g := MO.older) (fun _ => rfl) (l := m.thereL) (m := m) hnd2 fun y hy => mem_thereL.1 hy
  have hmE : m.minorE roots = 0 := by simp [MS.minorE, hon, he]
  obtain ⟨hsame, hcnt⟩ := minor_same hS hmE
  have hme2 : (m.minor roots).2.1 = 0 := by simp [MS.minor, hmE]
  have hon2 : (m.minor roots).2.2.on = false := by simp [MS.minor, hmE, MS.frees, MS.aged, hon]
  rw [hR, hme2, hcnt]
  have hoff : onv2 = .pointer none := by
   cases hwW with
   | off _ => rfl
   | on c q bm wm gv sv s roots h1 => rw [hon] at h1; cases h1
  subst hoff
  have hwf := same_wf hsame (sw_wf h.wf (g := MO.older) (fun _ => rfl) (fun k hk h0 => by
   exact hth k ((hmemO k).2 hk) h0) hS)
  exact ⟨rfl, β', none, (hH9.same hsame).strong (.off hon2) hwf (fun _ h => by cases h), (Turn.of hE8).trans hT9⟩
 ·have hlk := look_mem hmp.nodup hkp
  rw [hps] at hlk
  have hkt : m.there k = true := by
   cases ht : m.there k with
   | true => rfl
   | false => rw [ht] at hlk; cases hlk
  rw [hkt] at hlk
  simp only [if_true] at hlk
  obtain ⟨p, hp, rfl⟩ := Option.map_eq_some_iff.1 hlk
  obtain ⟨p2, f, kept, vv, q1, q2, q3, q4, q5, q6⟩ := (h.obs k hkt).ex
  rw [hp] at q1
  cases q1
  have hRw : w.heap.size ≤ Rb := by omega
  have hE5 : Ext w W5 := hO5.ext hE4 hRw
  have q35 := q3.ext hE5
  have hnd2 : (k :: vis).Nodup := List.nodup_cons.2 ⟨hkv, hnd⟩
  have hkin : k ∈ ps.map (·.1) := List.mem_map.2 ⟨_, hkp, rfl⟩
  have hin2 : ∀ x ∈ k :: vis, x ∈ ps.map (·.1) := fun x hx => by
   rcases List.mem_cons.1 hx with rfl | hx
   ·exact hkin
   ·exact hin x hx
  have hvl2 : (k :: vis).length ≤ ps.length := by
   have := nodup_le' _ (ps.map (·.1)) hnd2 hin2
   simpa using this
  have hvl3 : vis.length + 1 ≤ ps.length := by simpa using hvl2
  have z5 := hO5.size
  have hown5 := Own.same' hown (w' := W5) fun b hb => hO5.block b (hne b hb)
  simp -implicitDefEqProofs [-wps_asg, -wps_eff, wa2, we2, ir38_k0]
  refine I.eff_entry (R := Rb) (B := M) (by simpa using s31) hr5 ?_
  simp -implicitDefEqProofs [-wps_asg, -wps_eff, wa2, we2, ptr, q35.cell]
  by_cases hage : 2 ≤ (m.at k).age
  rotate_left
  ·simp -implicitDefEqProofs [-wps_asg, -wps_eff, wa2, we2, hage]
   rw [hZ]
   refine ⟨n - 1, by omega, by simp [s0], by simp [s31], k :: vis, _, lv, by simp [s7], hr5, hnd2, hin2, ?_, hne, hE5, hr5.lt.2, by simp; omega⟩
   have : ((k :: vis).reverse.filter isOld) = vis.reverse.filter isOld := by rw [List.reverse_cons, List.filter_append, hIO]; simp [hage]
   rw [this]; exact hown5
  ·simp -implicitDefEqProofs [-wps_asg, -wps_eff, wa2, we2, hage, s7]
   refine eff_lit si35 (by decide) (by decide) (by simp [Value.cells]) fun B9 W6 hB9 hE6 hb9 _ => ?_
   simp [Value.cells] at hb9
   have z6 := hE6.size
   have z05 := hE5.size
   have hO9 : Own w.heap.size 3 1 W6 (.slice (some ⟨B9, 0, none⟩) 1 1) [.int .i64 k] := Own.lit hb9 rfl (by omega) (by decide)
   have ho6 := hown5.ext hE6
   have hfl' : ((roots ++ vis.reverse.filter isOld).map encI).length ≤ 10000 + ps.length := by rw [List.length_map]; exact hfl
   simp -implicitDefEqProofs [-wps_asg, -wps_eff, wa2, we2]
   refine eff_appendG ri35 (base := w.heap.size) (by omega) (by simp) (by simp) ho6 (own_cells hO9) (by simp; rfl) (by simp at hfl' ⊢; omega) (by simp at hfl' ⊢; omega) fun lv' W7 ho7 hg7 hf7 => ?_
   have hlvb : ∀ b, lv.ownBlock = some b → w.heap.size ≤ b := fun b hb => (Own.blk hown b hb).1
   have hE7 : Ext w W7 := (Fr.grown hg7).ext (hE5.trans' hE6) fun x hx => hlvb x hx
   have lM5 := hr5.lt
   have z7 := hg7.size
   simp -implicitDefEqProofs [-wps_asg, -wps_eff, wa2, we2]
   rw [hZ]
   refine ⟨n - 1, by omega, by simp [s0], by simp [s31], k :: vis, some (k, ptr p), lv', by simp, hr5.block (hE7.block M hMl |>.trans (hE5.block M hMl).symm) ((hg7.block Rb (by omega) fun e => hne Rb e.symm rfl).trans (hE6.block Rb lM5.2)), hnd2, hin2, ?_, fun b hb => ?_, hE7, by omega, by simp; omega⟩
   ·have : ((k :: vis).reverse.filter isOld) = vis.reverse.filter isOld ++ [k] := by rw [List.reverse_cons, List.filter_append, hIO]; simp [hage]
    rw [this, ← List.append_assoc, List.map_append]; exact ho7
   ·rcases hf7 with e | e
    ·rw [e] at hb; exact hne b hb
    ·rw [e] at hb; cases hb; omega
end
end Go.L17
namespace Go.L17
open Go Go.Eng Go.RowKit
open Go.Proofs hiding encI
set_option maxRecDepth 100000
set_option maxHeartbeats 2000000
@[simp] theorem cb100 : callB Tryz.prog 100 = true := by kernel_rfl
@[simp] theorem cb34 : callB Tryz.prog 34 = true := by kernel_rfl
@[simp] theorem cb101 : callB Tryz.prog 101 = true := by kernel_rfl
@[simp] theorem cb35 : callB Tryz.prog 35 = true := by kernel_rfl
@[simp] theorem cb48 : callB Tryz.prog 48 = true := by kernel_rfl
theorem sz94 : sizeIs Tryz.prog 94 1 = true := by kernel_rfl
theorem bu127 (n : Int) (a b : Nat) : Tryz.prog.built 127 [(0, .int .i64 n), (1, .map (some a)), (3, .map (some b))] = some #[.int .i64 n, .map (some a), .slice none 0 0, .map (some b), .int .i64 0] := by kernel_rfl
structure CW (base : Nat) (w : World) (q bm wm : Nat) (c : Wh) (gv : Value) : Prop where
 hd : Blk w q #[.int .i64 c.first, .map (some bm), gv, .map (some wm), .int .i64 c.left] 127
 bl : I.MapB w bm (setPs c.black)
 gr : Own base 3 1 w gv (c.gray.map encI)
 ne : q ≠ bm
 ng : ∀ b, gv.ownBlock = some b → b ≠ q ∧ b ≠ bm
def MeetR (base : Nat) (w : World) (q bm wm : Nat) (gv : Value) (c' : Wh) (w' : World) : Prop :=
 ∃ gv', CW base w' q bm wm c' gv' ∧ Fr (fun k => k = q ∨ k = bm ∨ gv.ownBlock = some k) w w' ∧ (∀ b, gv'.ownBlock = some b → gv.ownBlock = some b ∨ w.heap.size ≤ b)
theorem CW.keep {base : Nat} {w w' : World} {q bm wm : Nat} {c : Wh} {gv : Value} (h : CW base w q bm wm c gv) (hk : ∀ k, (k = q ∨ k = bm ∨ gv.ownBlock = some k) → w'.heap[k]? = w.heap[k]?) : CW base w' q bm wm c gv :=
 ⟨Blk.keep h.hd (hk _ (.inl rfl)), h.bl.block (hk _ (.inr (.inl rfl))), Own.same' h.gr fun k hk2 => hk k (.inr (.inr hk2)), h.ne, h.ng⟩
theorem t_meet {base : Nat} {w : World} {q bm wm : Nat} {c : Wh} {gv : Value} (h : CW base w q bm wm c gv) (hbw : base ≤ w.heap.size) (hlen : c.gray.length ≤ 1000000) (n : Int) :
  Calls Tryz.prog 100 #[ptr q, .int .i64 n] w fun e w' => e = .returned (.tuple #[]) ∧ MeetR base w q bm wm gv (c.meet n) w' := by
 have stop : ¬ (n ≠ 0 ∧ n ≤ c.first ∧ n ∉ c.black) → MeetR base w q bm wm gv (c.meet n) w := by
  intro hc
  have : c.meet n = c := by unfold Wh.meet; rw [if_neg hc]
  rw [this]
  exact ⟨gv, h, Fr.of (ext_refl _), fun b hb => .inl hb⟩
 refine ir100_calls fun ρ r0 r1 => ?_
 have r0' : ρ 0 = .pointer (some ⟨q, 0, none⟩) := r0
 by_cases h1 : n ≠ 0 ∧ n ≤ c.first
 rotate_left
 ·have hb1 : (!decide (n = 0) && decide (n ≤ c.first)) = false := by
   simp only [Bool.and_eq_false_iff, Bool.not_eq_false', decide_eq_true_eq, decide_eq_false_iff_not]
   by_cases h0 : n = 0
   ·exact .inl h0
   ·exact .inr fun h2 => h1 ⟨h0, h2⟩
  have : ¬ (n ≠ 0 ∧ n ≤ c.first ∧ n ∉ c.black) := fun hh => h1 ⟨hh.1, hh.2.1⟩
  by_cases h0 : n = 0
  ·simp -implicitDefEqProofs [-wps_asg, -wps_eff, wa2, we2, ir100, r0', r1, h.hd.cell, h0]
   rw [← h0]; exact stop this
  ·have hle : ¬ n ≤ c.first := fun h2 => h1 ⟨h0, h2⟩
   simp -implicitDefEqProofs [-wps_asg, -wps_eff, wa2, we2, ir100, r0', r1, h.hd.cell, h0, hle]
   exact stop this
 obtain ⟨h0, hle⟩ := h1
 simp -implicitDefEqProofs [-wps_asg, -wps_eff, wa2, we2, ir100, r0', r1, h.hd.cell, h0, hle]
 refine I.eff_lookup (s := n) und106 und3 zi4 (by simp) (by simp [r1]) h.bl false ?_
 simp -implicitDefEqProofs [-wps_asg, -wps_eff, wa2, we2]
 rw [look_set]
 by_cases hin : n ∈ c.black
 ·have : ¬ (n ≠ 0 ∧ n ≤ c.first ∧ n ∉ c.black) := fun hh => hh.2.2 hin
  simp -implicitDefEqProofs [-wps_asg, -wps_eff, wa2, we2, hin]
  exact stop this
 ·have hc : c.meet n = { c with black := c.black ++ [n], gray := c.gray ++ [n] } := by unfold Wh.meet; rw [if_pos ⟨h0, hle, hin⟩]
  simp -implicitDefEqProofs [-wps_asg, -wps_eff, wa2, we2, hin, r0', r1, h.hd.cell]
  refine I.eff_mapUpdate (s := n) und106 und3 (by simp) (by simp) h.bl fun W2 hO2 hm2 => ?_
  simp at hm2
  rw [set_set hin] at hm2
  have hd2 := hO2.blk h.hd h.ne
  have ho2 : Own base 3 1 W2 gv (c.gray.map encI) := Own.same' h.gr fun k hk => hO2.block k (h.ng k hk).2
  simp -implicitDefEqProofs [-wps_asg, -wps_eff, wa2, we2, r0', r1, hd2.cell]
  refine eff_lit si35 (by decide) (by decide) (by simp [Value.cells]) fun B9 W3 hB9 hE3 hb9 _ => ?_
  simp [Value.cells] at hb9
  have z2 := hO2.size
  have z3 := hE3.size
  have hO9 : Own base 3 1 W3 (.slice (some ⟨B9, 0, none⟩) 1 1) [.int .i64 n] := Own.lit hb9 rfl (by omega) (by decide)
  have ho3 := ho2.ext hE3
  simp -implicitDefEqProofs [-wps_asg, -wps_eff, wa2, we2]
  refine eff_appendG ri35 (base := base) (by omega) (by simp) (by simp) ho3 (own_cells hO9) (by simp; rfl) (by simp; omega) (by simp; omega) fun gv' W4 ho4 hg4 hf4 => ?_
  have hd3 := hd2.ext hE3
  have hd4 : Blk W4 q _ 127 := ⟨(hg4.block q hd3.lt fun e => (h.ng q e.symm).1 rfl).trans hd3.heap⟩
  have hm4 : I.MapB W4 bm (setPs (c.black ++ [n])) := I.MapB.block (hm2.ext hE3) (hg4.block bm (I.MapB.lt (hm2.ext hE3)) fun e => (h.ng bm e.symm).2 rfl)
  have hone := own_one ho4
  have z4 := hg4.size
  simp -implicitDefEqProofs [-wps_asg, -wps_eff, wa2, we2, r0']
  refine eff_store1 (B := q) (i := 2) (by simp) hd4 (by simp) (by simpa using hone.1) (by simpa using hone.2) sz35 fun W5 hO5 hb5 => ?_
  simp at hb5
  have hlq := h.hd.lt
  have hlb := h.bl.lt
  have hgb : ∀ b, gv'.ownBlock = some b → gv.ownBlock = some b ∨ w.heap.size ≤ b := fun b hb => by
   rcases hf4 with e | e
   ·rw [e] at hb; exact .inl hb
   ·rw [e] at hb; cases hb; exact .inr (by omega)
  have hgn : ∀ b, gv'.ownBlock = some b → b ≠ q ∧ b ≠ bm := fun b hb => by
   rcases hgb b hb with e | e
   ·exact h.ng b e
   ·exact ⟨by omega, by omega⟩
  simp -implicitDefEqProofs [-wps_asg, -wps_eff, wa2, we2]
  rw [hc]
  refine ⟨gv', ⟨hb5, hm4.block (hO5.block bm (Ne.symm h.ne)), ?_, h.ne, hgn⟩, ?_, hgb⟩
  ·have : Own base 3 1 W5 gv' (c.gray.map encI ++ [.int .i64 n]) := Own.same' ho4 fun k hk => hO5.block k (hgn k hk).1
   simpa [encI] using this
  ·refine (((Fr.only hO2 (S := fun k => k = q ∨ k = bm ∨ gv.ownBlock = some k) (.inr (.inl rfl))).trans (Fr.of hE3 (S := fun k => k = q ∨ k = bm ∨ gv.ownBlock = some k)) fun x h => .inl h).trans ((Fr.grown hg4).mono (S' := fun k => k = q ∨ k = bm ∨ gv.ownBlock = some k) fun x hx => .inl (.inr (.inr hx))) fun x h => .inl h).trans (Fr.only hO5 (S := fun k => k = q ∨ k = bm ∨ gv.ownBlock = some k) (.inl rfl)) fun x h => .inl h
theorem MeetR.trans {base : Nat} {w w' w2 : World} {q bm wm : Nat} {gv gv1 : Value} {c2 : Wh} (hF : Fr (fun k => k = q ∨ k = bm ∨ gv.ownBlock = some k) w w') (hg : ∀ b, gv1.ownBlock = some b → gv.ownBlock = some b ∨ w.heap.size ≤ b) (k : MeetR base w' q bm wm gv1 c2 w2) : MeetR base w q bm wm gv c2 w2 := by
 obtain ⟨gv2, a, b, c⟩ := k
 have z := hF.size
 refine ⟨gv2, a, hF.trans b fun x hx => ?_, fun x hx => ?_⟩
 ·rcases hx with e | e | e
  ·exact .inl (.inl e)
  ·exact .inl (.inr (.inl e))
  ·rcases hg x e with e | e
   ·exact .inl (.inr (.inr e))
   ·exact .inr e
 ·rcases c x hx with e | e
  ·exact hg x e
  ·exact .inr (by omega)
theorem meets_take {c : Wh} {l : List Int} {k : Nat} (hk : k < l.length) : c.meets (l.take (k + 1)) = (c.meets (l.take k)).meet l[k] := by
 unfold Wh.meets
 rw [List.take_add_one, List.getElem?_eq_getElem hk, List.foldl_append]
 rfl
theorem meets_gray_len : ∀ (l : List Int) (c : Wh), (c.meets l).gray.length ≤ c.gray.length + l.length
 | [], c => by simp [Wh.meets]
 | n :: l, c => by
  have h := meets_gray_len l (c.meet n)
  have h2 : (c.meet n).gray.length ≤ c.gray.length + 1 := by
   unfold Wh.meet
   split
   ·simp
   ·omega
  show (Wh.meets (c.meet n) l).gray.length ≤ _
  rw [List.length_cons]
  omega
section
variable {base Hb : Nat} {β β' : Lay} {m : MS} {w w' : World} {onv onv' : Value} {c : Option Wh}
theorem HW.turnOn (h : HW base w Hb β m onv) (hbw : base ≤ w.heap.size) {M : Nat} {ev : Value} (hM : β .map = some M) (hev : SlAt base 3 w ev (m.told.map encI) (β .en)) (hz : w.heap.size ≤ w'.heap.size) (hβ : ∀ r, r.isW = false → β' r = β r)
  (hW : ∀ r b, r.isW = true → β' r = some b → (β r = some b ∨ w.heap.size ≤ b) ∧ b < w'.heap.size) (hWi : ∀ r1 r2 b, r1.isW = true → r2.isW = true → β' r1 = some b → β' r2 = some b → r1 = r2)
  (stay : ∀ r b, r.isW = false → r ≠ .heap → β r = some b → w'.heap[b]? = w.heap[b]?)
  (hd : Blk w' Hb #[.int .i64 m.words, .int .i64 m.used, .int .i64 m.objs.length, .map (some M), onv', ev] 96) : HW base w' Hb β' m onv' := by
 obtain ⟨M1, ps, ev1, hM1, hd1, hmp, hps, hev1⟩ := h.hd
 rw [hM] at hM1; cases hM1
 refine ⟨?_, ?_, ?_, (hβ _ rfl).trans h.hb, ⟨M, ps, ev, (hβ _ rfl).trans hM, hd, hmp.block (stay _ _ rfl (by simp) hM), fun n => ?_, ?_⟩, fun n hn => ?_, fun n hn => ?_, h.small, h.words, h.len⟩
 ·intro a b x ha hb
  cases ea : a.isW with
  | true =>
   cases eb : b.isW with
   | true => exact hWi a b x ea eb ha hb
   | false =>
    rw [hβ b eb] at hb
    rcases (hW a x ea ha).1 with e | e
    ·exact h.inj a b x e hb
    ·have := h.hi b x hb; omega
  | false =>
   rw [hβ a ea] at ha
   cases eb : b.isW with
   | true =>
    rcases (hW b x eb hb).1 with e | e
    ·exact h.inj a b x ha e
    ·have := h.hi a x ha; omega
   | false =>
    rw [hβ b eb] at hb
    exact h.inj a b x ha hb
 ·intro r b hr
  cases e : r.isW with
  | true =>
   rcases (hW r b e hr).1 with e | e
   ·exact h.lo r b e
   ·omega
  | false => rw [hβ r e] at hr; exact h.lo r b hr
 ·intro r b hr
  cases e : r.isW with
  | true => exact (hW r b e hr).2
  | false => rw [hβ r e] at hr; have := h.hi r b hr; omega
 ·rw [hps n, hβ _ rfl]
 ·rw [hβ _ rfl]
  exact hev.keep fun k hk => stay _ k rfl (by simp) hk
 ·refine (h.obs n hn).move (hβ _ rfl) (hβ _ rfl) (hβ _ rfl) (hβ _ rfl) fun b hb => ?_
  rcases hb with hb | hb | hb | hb <;> exact stay _ b rfl (by simp) hb
 ·obtain ⟨a1, a2, a3, a4⟩ := h.free n hn
  exact ⟨(hβ _ rfl).trans a1, (hβ _ rfl).trans a2, (hβ _ rfl).trans a3, (hβ _ rfl).trans a4⟩
def whR (β : Lay) (q bm wm gr : Option Nat) : Lay
 | .wh => q | .bm => bm | .wm => wm | .gr => gr | .wv _ => none
 | r => β r
theorem whR_other (β : Lay) (q bm wm gr : Option Nat) (r : Role) (h : r.isW = false) : whR β q bm wm gr r = β r := by cases r <;> first | rfl | cases h
theorem t_Begin (h : HAt base w Hb β m c) (hbw : base ≤ w.heap.size) {v : Value} {roots : List Int} {bR : Nat} (hown : Own bR 3 1 w v (roots.map encI)) (hrl0 : roots.length < 4611686018427387904) (hnh : ∀ b, v.ownBlock = some b → ¬ β.has b) :
  Calls Tryz.prog 34 #[ptr Hb, v] w (OpX base w Hb β (.int .i64 (m.begin roots).1) (m.begin roots).2) := by
 obtain ⟨R, hR⟩ : ∃ R, R = OpX base w Hb β (.int .i64 (m.begin roots).1) (m.begin roots).2 := ⟨_, rfl⟩
 rw [← hR]
 have hl := hown.sl (enc := encI) hrl0
 obtain ⟨M, ps, onv, ev, hM, hd, hmp, hps, hwh, hev⟩ := h.hd
 obtain ⟨q0, hq0, hqn⟩ := hwh.isPtr
 refine ir34_calls fun ρ r0 r1 => ?_
 simp -implicitDefEqProofs [-wps_asg, -wps_eff, wa2, we2, ir34, r0, r1]
 refine eff_eqlNilP (p := some ⟨Hb, 0, none⟩) und25 (by simp [ptr]) ?_
 simp -implicitDefEqProofs [-wps_asg, -wps_eff, wa2, we2, ir34_k6, r0, r1, ptr, hd.cell]
 refine eff_neqNilP (p := q0) und94 (by simp [hq0]) ?_
 rw [hqn]
 cases hon : m.on with
 | true =>
  have hs : m.begin roots = (8, m) := by simp [MS.begin, MS.minorE, hon]
  simp -implicitDefEqProofs [-wps_asg, -wps_eff, wa2, we2]
  rw [hR, hs]
  exact OpX.of h (ext_refl _)
 | false =>
 simp -implicitDefEqProofs [-wps_asg, -wps_eff, wa2, we2, ir34_k5, r0, r1]
 refine (t_rooted h hl).mono ?_
 rintro _ W ⟨rfl, hE⟩
 by_cases he : m.rootE roots = 0
 rotate_left
 ·have hs : m.begin roots = (m.rootE roots, m) := by simp [MS.begin, MS.minorE, hon, he]
  simp -implicitDefEqProofs [-wps_asg, -wps_eff, wa2, we2, he]
  rw [hR, hs]
  exact OpX.of h hE
 have hrl := root_len he
 have hmE : m.minorE roots = 0 := by simp [MS.minorE, hon, he]
 simp -implicitDefEqProofs [-wps_asg, -wps_eff, wa2, we2, he, ir34_k4, r0, r1, ptr, (hd.ext hE).cell]
 refine I.eff_makeMap fun bm W1 hbm hE1 hm1 _ => ?_
 simp -implicitDefEqProofs [-wps_asg, -wps_eff, wa2, we2]
 refine I.eff_makeMap fun wm W2 hwm hE2 hm2 _ => ?_
 simp -implicitDefEqProofs [-wps_asg, -wps_eff, wa2, we2, bu127]
 refine eff_box fun q W3 hq hE3 hbq hs3 => ?_
 simp [Value.cells] at hbq
 have lb1 := hm1.lt
 have lb2 := hm2.lt
 have z := hE.size
 have z1 := hE1.size
 have z2 := hE2.size
 have z3 := hE3.size
 have lq := hbq.lt
 have hHl := h.hi _ _ h.hb
 have hE03 : Ext w W3 := ((hE.trans' hE1).trans' hE2).trans' hE3
 simp -implicitDefEqProofs [-wps_asg, -wps_eff, wa2, we2, r0, ptr, r1]
 refine eff_store1 (B := Hb) (i := 4) (by simp) (hd.ext hE03) (by simp) rfl rfl sz94 fun W4 hO4 hb4 => ?_
 simp at hb4
 have hl4 : ∀ k, k ≠ Hb → k < w.heap.size → W4.heap[k]? = w.heap[k]? := fun k hk hkl => (hO4.block k hk).trans (hE03.block k hkl)
 have z4 := hO4.size
 have hvb : ∀ b, v.ownBlock = some b → b < w.heap.size ∧ b ≠ Hb := fun b hb => ⟨(Own.blk hown b hb).2, fun e => hnh b hb ⟨.heap, e ▸ h.hb⟩⟩
 have ho4 : Own bR 3 1 W4 v (roots.map encI) := Own.same' hown fun b hb => hl4 b (hvb b hb).2 (hvb b hb).1
 have hv4 : Sl encI W4 v roots := ho4.sl hrl0
 simp -implicitDefEqProofs [-wps_asg, -wps_eff, wa2, we2, r0, ptr, r1, hv4.is, hv4.len]
 have hm1' : I.MapB W4 bm [] := I.MapB.block (((hm1.ext hE2).ext hE3)) (hO4.block bm (by omega))
 have hm2' : I.MapB W4 wm [] := I.MapB.block ((hm2.ext hE3)) (hO4.block wm (by omega))
 have hq4 : Blk W4 q #[.int .i64 m.objs.length, .map (some bm), .slice none 0 0, .map (some wm), .int .i64 0] 127 := hO4.blk hbq (by omega)
 refine loopC 35 roots.length (fun k ρ' W => ρ' 0 = ptr Hb ∧ ρ' 33 = v ∧ ρ' 34 = .int .i64 roots.length ∧ ∃ gv, CW w.heap.size W q bm wm ((Wh.start m).meets (roots.take k)) gv ∧ Fr (fun x => x = q ∨ x = bm) W4 W ∧ ∀ b, gv.ownBlock = some b → W4.heap.size ≤ b) (by simp)
  ⟨by simp [r0], by simp [r1], by simp, .slice none 0 0, ⟨hq4, hm1', Own.nil _ _ _ _, by omega, by simp [Value.ownBlock]⟩, Fr.of (ext_refl _), by simp [Value.ownBlock]⟩ ?_
 rintro k ρ' W5 hk h35 ⟨s0, s33, s34, gv, hCW, hF, hgv⟩
 have z5 := hF.size
 have hb5 : Blk W5 Hb #[.int .i64 m.words, .int .i64 m.used, .int .i64 m.objs.length, .map (some M), ptr q, ev] 96 := hF.blk (by simpa [ptr] using hb4) (by omega)
 have st5 : ∀ b, b < w.heap.size → b ≠ Hb → W5.heap[b]? = w.heap[b]? := fun b hb hne => (hF.block b (by omega) (by omega)).trans (hl4 b hne hb)
 by_cases hlt : k < roots.length
 ·have hv5 : Sl encI W5 v roots := (Own.same' hown fun b hb => st5 b (hvb b hb).1 (hvb b hb).2).sl hrl0
  have hgl := meets_gray_len (roots.take k) (Wh.start m)
  rw [List.length_take] at hgl
  have hgl2 : (Wh.start m).gray.length = 0 := rfl
  simp -implicitDefEqProofs [-wps_asg, -wps_eff, wa2, we2, ir34_l2, h35, s34, hlt, ir34_k1, s33, hv5.is, hv5.len, hv5.cell k hlt, encI, s0, ptr, hb5.cell]
  refine (t_meet hCW (by omega) (by omega) roots[k]).mono ?_
  rintro _ W6 ⟨rfl, gv', hCW', hF', hg'⟩
  simp -implicitDefEqProofs [-wps_asg, -wps_eff, wa2, we2, ir34_k0, h35, i64w (n := (k : Int) + 1) (by omega), s0, s33, s34]
  rw [← meets_take hlt] at hCW'
  refine ⟨rfl, gv', hCW', hF.trans hF' fun x hx => ?_, fun b hb => ?_⟩
  ·rcases hx with e | e | e
   ·exact .inl (.inl e)
   ·exact .inl (.inr e)
   ·exact .inr (hgv x e)
  ·rcases hg' b hb with e | e
   ·exact hgv b e
   ·omega
 ·have hk' : k = roots.length := by omega
  subst hk'
  rw [List.take_length] at hCW
  simp -implicitDefEqProofs [-wps_asg, -wps_eff, wa2, we2, ir34_l2, h35, s34, ir34_k3]
  obtain ⟨onv2, hW, hwW⟩ := h.weak
  have hbeg : m.begin roots = (0, { m with doomed := m.nums.filter fun n => m.there n && !m.met roots n, on := true, owed := m.used + 1 }) := by
   unfold MS.begin; simp [hmE]
  have hI := begin_inv h.wf hmE
  rw [hR]
  have hgB := Own.blk hCW.gr
  have lq5 := hCW.hd.lt
  have lb5 := hCW.bl.lt
  have hwm5 : I.MapB W5 wm [] := hm2'.block (hF.block wm hm2'.lt (by omega))
  have lw5 := hwm5.lt
  have hlw4 := hm2'.lt
  have hH2 : HW base W5 Hb (whR β (some q) (some bm) (some wm) gv.ownBlock) m (ptr q) := by
   refine hW.turnOn hbw hM hev (by omega) (fun r hr => whR_other β _ _ _ _ r hr) (fun r b hr hb => ?_) (fun r1 r2 b h1 h2 hb1 hb2 => ?_) (fun r b hr hr2 hb => ?_) hb5
   ·cases r <;> simp only [whR] at hb <;> first | cases hr | skip
    ·cases hb; exact ⟨.inr (by omega), lq5⟩
    ·cases hb; exact ⟨.inr (by omega), lb5⟩
    ·cases hb; exact ⟨.inr (by omega), lw5⟩
    ·exact ⟨.inr (hgB b hb).1, (hgB b hb).2⟩
    ·cases hb
   ·have hgq : ∀ x, gv.ownBlock = some x → x ≠ q ∧ x ≠ bm ∧ x ≠ wm := fun x hx => by
     have := hgv x hx
     exact ⟨by have := hq4.lt; omega, by have := hm1'.lt; omega, by omega⟩
    cases r1 <;> (try (simp [Role.isW] at h1; done)) <;> cases r2 <;> (try (simp [Role.isW] at h2; done)) <;> simp only [whR, Option.some.injEq, reduceCtorEq] at hb1 hb2 <;> first
     | rfl
     | omega
     | (have := (hgq _ hb2); omega)
     | (have := (hgq _ hb1); omega)
   ·refine st5 b (h.hi r b hb) fun e => hr2 (h.inj _ _ _ hb (by rw [e]; exact h.hb))
  have hsame : m.Same (m.begin roots).2 := by
   rw [hbeg]
   exact ⟨rfl, rfl, rfl, fun n => there_objs rfl n, fun n _ => at_objs rfl n⟩
  refine ⟨by rw [hbeg], _, some ((Wh.start m).meets roots), (hH2.same hsame).strong ?_ (same_wf hsame h.wf) (fun x hx => ?_), ?_, ?_⟩
  ·refine .on _ q bm wm gv (fun _ => .slice none 0 0) m roots (by rw [hbeg]) hI rfl rfl rfl hCW.hd hCW.bl ⟨Own.low hCW.gr hbw, rfl⟩ ?_ ?_
   ·rw [(meets_first roots (Wh.start m)).2.1]; exact hwm5
   ·rw [(meets_first roots (Wh.start m)).2.1]
    intro p hp
    cases hp
  ·cases hx
   obtain ⟨_, b1, b2⟩ := meets_first roots (Wh.start m)
   refine ⟨fun p hp => ?_, ?_⟩
   ·rw [b1] at hp; cases hp
   ·rw [b2]
    show -1000 ≤ (0 : Int) ∧ (0 : Int) ≤ 0
    omega
  ·refine (((Fr.of hE03 (S := β.has)).trans (Fr.only hO4 (S := β.has) ⟨_, h.hb⟩) fun x h => .inl h).trans hF fun x hx => ?_)
   rcases hx with rfl | rfl
   ·exact .inr (by omega)
   ·exact .inr (by omega)
  ·rintro b ⟨r, hr⟩
   cases r <;> simp only [whR] at hr <;> first | exact .inl ⟨_, hr⟩ | (cases hr; done) | (cases hr; exact .inr (by omega)) | exact .inr (hgB b hr).1
end
end Go.L17
namespace Go.L17
open Go Go.Eng Go.RowKit
open Go.Proofs hiding encI
set_option maxRecDepth 100000
set_option maxHeartbeats 2000000
def grR (β : Lay) (b : Option Nat) : Lay
 | .gr => b
 | r => β r
theorem grR_other (β : Lay) (b : Option Nat) (r : Role) (h : r ≠ .gr) : grR β b r = β r := by cases r <;> first | rfl | exact absurd rfl h
section
variable {base Hb : Nat} {β : Lay} {m : MS} {w : World} {c : Wh}
theorem look_HW {q : Nat} (h : HW base w Hb β m (ptr q)) (hbw : base ≤ w.heap.size) {bm wm M : Nat} {gv gv' ev : Value} {sv : Int → Value} {s : MS} {roots : List Int} {c' : Wh} {w' : World} (hon : m.on = true) (hq : β .wh = some q) (hbm : β .bm = some bm) (hwm : β .wm = some wm) (hgb : gv.ownBlock = β .gr)
  (hM : β .map = some M) (hd : Blk w Hb #[.int .i64 m.words, .int .i64 m.used, .int .i64 m.objs.length, .map (some M), ptr q, ev] 96) (hev : SlAt base 3 w ev (m.told.map encI) (β .en))
  (hwmM : I.MapB w wm (c.was.map fun p => (p.1, sv p.1))) (hsv : ∀ p ∈ c.was, SlAt base 3 w (sv p.1) (p.2.map encI) (β (.wv p.1)))
  (hI : Inv s roots m c') (hc' : c'.was = c.was) (hC : CW base w' q bm wm c' gv') (hF : Fr (fun k => k = q ∨ k = bm ∨ gv.ownBlock = some k) w w') (hg' : ∀ b, gv'.ownBlock = some b → gv.ownBlock = some b ∨ w.heap.size ≤ b) :
  HW base w' Hb (grR β gv'.ownBlock) m (ptr q) ∧ WhAt base w' (grR β gv'.ownBlock) m (some c') (ptr q) ∧ Turn β w (grR β gv'.ownBlock) w' := by
 have st : ∀ r b, r ≠ .wh → r ≠ .bm → r ≠ .gr → β r = some b → w'.heap[b]? = w.heap[b]? := fun r b h1 h2 h3 hb => hF.block b (h.hi r b hb) fun e => by
  rcases e with e | e | e
  ·exact h1 (h.inj _ _ _ hb (by rw [e]; exact hq))
  ·exact h2 (h.inj _ _ _ hb (by rw [e]; exact hbm))
  ·exact h3 (h.inj _ _ _ hb (by rw [← hgb]; exact e))
 have z := hF.size
 have hgB := Own.blk hC.gr
 have gB : ∀ b, gv'.ownBlock = some b → β .gr = some b ∨ w.heap.size ≤ b := fun b hb => by rw [← hgb]; exact hg' b hb
 have hH2 : HW base w' Hb (grR β gv'.ownBlock) m (ptr q) := by
  refine h.turnOn hbw hM hev z (fun r hr => grR_other β _ r (by rintro rfl; cases hr)) (fun r b hr hb => ?_) (fun r1 r2 b h1 h2 hb1 hb2 => ?_) (fun r b hr hr2 hb => ?_) (Blk.keep hd (st _ _ (by simp) (by simp) (by simp) h.hb))
  ·by_cases e : r = .gr
   ·subst e; exact ⟨gB b hb, (hgB b hb).2⟩
   ·rw [grR_other β _ r e] at hb
    exact ⟨.inl hb, by have := h.hi r b hb; omega⟩
  ·by_cases e1 : r1 = .gr
   ·by_cases e2 : r2 = .gr
    ·rw [e1, e2]
    ·rw [grR_other β _ r2 e2] at hb2
     rw [e1] at hb1
     rcases gB b hb1 with e | e
     ·rw [e1]; exact h.inj _ _ _ e hb2
     ·have := h.hi _ _ hb2; omega
   ·rw [grR_other β _ r1 e1] at hb1
    by_cases e2 : r2 = .gr
    ·rw [e2] at hb2
     rcases gB b hb2 with e | e
     ·rw [e2]; exact h.inj _ _ _ hb1 e
     ·have := h.hi _ _ hb1; omega
    ·rw [grR_other β _ r2 e2] at hb2
     exact h.inj _ _ _ hb1 hb2
  ·exact st r b (by rintro rfl; cases hr) (by rintro rfl; cases hr) (by rintro rfl; cases hr) hb
 refine ⟨hH2, ?_, hF.mono fun x hx => ?_, fun b hb => ?_⟩
 ·refine .on c' q bm wm gv' sv s roots hon hI hq hbm hwm hC.hd hC.bl ⟨hC.gr, rfl⟩ ?_ ?_
  ·rw [hc']; exact hwmM.block (st _ _ (by simp) (by simp) (by simp) hwm)
  ·rw [hc']
   intro p hp
   have := hsv p hp
   rw [grR_other β _ _ (by simp)]
   exact this.keep fun k hk => st _ k (by simp) (by simp) (by simp) hk
 ·rcases hx with e | e | e
  ·exact .inl ⟨_, by rw [e]; exact hq⟩
  ·exact .inl ⟨_, by rw [e]; exact hbm⟩
  ·exact .inl ⟨_, by rw [← hgb]; exact e⟩
 ·obtain ⟨r, hr⟩ := hb
  by_cases e : r = .gr
  ·subst e
   rcases gB b hr with e | e
   ·exact .inl ⟨_, e⟩
   ·exact .inr e
  ·rw [grR_other β _ r e] at hr; exact .inl ⟨_, hr⟩
def LookR (base : Nat) (w : World) (Hb : Nat) (β : Lay) (m : MS) (onv : Value) (c' : Wh) : Ending → World → Prop := fun e w' => e = .returned (.tuple #[]) ∧ ∃ β', HW base w' Hb β' m onv ∧ WhAt base w' β' m (some c') onv ∧ Turn β w β' w'
theorem look_loop {base2 bR Hb q bm wm : Nat} {W0 : World} {c1 : Wh} {gv1 xv ev x0 x1 x2 x3 : Value} {lst : List Int} (hd : Blk W0 Hb #[x0, x1, x2, x3, ptr q, ev] 96) (hne : Hb ≠ q ∧ Hb ≠ bm ∧ gv1.ownBlock ≠ some Hb) (hCW : CW base2 W0 q bm wm c1 gv1) (hb2 : base2 ≤ W0.heap.size)
  (hx : Own bR 3 1 W0 xv (lst.map encI)) (hxn : ∀ b, xv.ownBlock = some b → b ≠ q ∧ b ≠ bm ∧ gv1.ownBlock ≠ some b) (hlen : c1.gray.length + lst.length ≤ 1000000) {R : Ending → World → Prop} (hend : ∀ W, MeetR base2 W0 q bm wm gv1 (c1.meets lst) W → R (.returned (.tuple #[])) W)
  {ρ : Env} (s0 : ρ 0 = ptr Hb) (s5 : ρ 5 = xv) : ir101_k3.wp ⟨Tryz.prog, 103, ir101_V, []⟩ (retK [] R) (ksOf [] R) ρ W0 := by
 have hxl := hx.sl (enc := encI) (by omega)
 simp -implicitDefEqProofs [-wps_asg, -wps_eff, wa2, we2, ir101_k3, s0, s5, ptr, hd.cell, hxl.is, hxl.len]
 refine loopC 95 lst.length (fun k ρ' W => ρ' 7 = .func (.func 100) #[ptr q] #[] ∧ ρ' 93 = xv ∧ ρ' 94 = .int .i64 lst.length ∧ MeetR base2 W0 q bm wm gv1 (c1.meets (lst.take k)) W) (by simp)
  ⟨by simp [ptr], by simp [s5], by simp, gv1, hCW, Fr.of (ext_refl _), fun b hb => .inl hb⟩ ?_
 rintro k ρ' W5 hk h95 ⟨s7, s93, s94, hMR⟩
 by_cases hlt : k < lst.length
 ·obtain ⟨gv5, hC5, hF5, hg5⟩ := hMR
  have z5 := hF5.size
  have hx5 := (Own.same' hx (w' := W5) fun b hb => hF5.block b (Own.blk hx b hb).2 fun e => by
   obtain ⟨a1, a2, a3⟩ := hxn b hb
   rcases e with e | e | e
   ·exact a1 e
   ·exact a2 e
   ·exact a3 e).sl (enc := encI) (by omega)
  have hgl := meets_gray_len (lst.take k) c1
  rw [List.length_take] at hgl
  simp -implicitDefEqProofs [-wps_asg, -wps_eff, wa2, we2, ir101_l2, h95, s94, hlt, ir101_k1, s93, hx5.is, hx5.len, hx5.cell k hlt, encI, s7]
  refine eff_callv (f := 100) (fs := #[ptr q]) (caps := #[]) cb100 (by simp) ?_
  simp -implicitDefEqProofs [-wps_asg, -wps_eff, wa2, we2]
  refine (t_meet hC5 (by omega) (by omega) lst[k]).mono ?_
  rintro _ W6 ⟨rfl, hMR6⟩
  have hMR2 := MeetR.trans hF5 hg5 hMR6
  rw [← meets_take hlt] at hMR2
  simp -implicitDefEqProofs [-wps_asg, -wps_eff, wa2, we2, ir101_k0, h95, i64w (n := (k : Int) + 1) (by omega), s7, s93, s94]
  exact hMR2
 ·have hk' : k = lst.length := by omega
  subst hk'
  rw [List.take_length] at hMR
  simp -implicitDefEqProofs [-wps_asg, -wps_eff, wa2, we2, ir101_l2, h95, s94]
  exact hend W5 hMR
theorem t_look {onv : Value} (h : HW base w Hb β m onv) (hwh : WhAt base w β m (some c) onv) (hbw : base ≤ w.heap.size) (hgr : c.gray ≠ []) (hwok : wasOk c) (hlf : -1000000 ≤ c.left ∧ c.left ≤ 1000000) : Calls Tryz.prog 101 #[ptr Hb] w (LookR base w Hb β m onv (c.look m)) := by
 obtain ⟨R, hR⟩ : ∃ R, R = LookR base w Hb β m onv (c.look m) := ⟨_, rfl⟩
 rw [← hR]
 obtain ⟨M, ps, ev, hM, hd, hmp, hps, hev⟩ := h.hd
 generalize hsc : some c = oc at hwh
 cases hwh with
 | off _ => cases hsc
 | on c0 q bm wm gv sv s roots hon hI hq hbm hwm hqd hbl hgS hwmM hsv =>
 cases hsc
 obtain ⟨hlast, hsp⟩ := last_mem hgr
 obtain ⟨ref, href⟩ : ∃ ref, ref = c.gray.getLastD 0 := ⟨_, rfl⟩
 rw [← href] at hlast hsp
 have hmt : m.there ref = true := hI.there ref (hI.ok ref (hI.met ref (hI.gray ref hlast)))
 obtain ⟨p, f, kept, vv, q1, q2, q3, q4, q5, q6⟩ := (h.obs ref hmt).ex
 have hsm := h.small ref hmt
 have hvs := q5.sl (enc := encI) (by omega)
 have hlk := hps ref
 rw [hmt, q1] at hlk
 have hneed : (m.at ref).need = 2 + (m.at ref).vals.length := need_there (there_true hmt)
 have hgl : c.gray.length ≤ 500000 := by
  have h1 := nodup_le' c.gray m.thereL hI.dup fun x hx => mem_thereL.2 (hI.there x (hI.ok x (hI.met x (hI.gray x hx))))
  have := thereL_len m (by have := h.words; omega)
  omega
 have hpos : 0 < c.gray.length := List.length_pos_iff.2 hgr
 have hgs := hgS.own.sl (enc := encI) (by omega)
 have hcell := hgs.cell (c.gray.length - 1) (by omega)
 have hwl : c.gray[c.gray.length - 1]'(by omega) = ref := by
  rw [href, List.getLastD_eq_getLast?, List.getLast?_eq_getElem?, List.getElem?_eq_getElem (by omega)]; rfl
 rw [hwl] at hcell
 have hw1 : IntKind.i64.wrap ((c.gray.length : Int) - 1) = (c.gray.length : Int) - 1 := i64w (by omega)
 have hge : 0 ≤ (c.gray.length : Int) - 1 := by omega
 have hll : (c.gray.length : Int) - 1 < c.gray.length := by omega
 have h1l : (1 : Int) ≤ (c.gray.length : Int) := by omega
 have hcap : c.gray.length ≤ slCap gv := by have := isSl_len_cap hgs.is; have := hgs.len; omega
 have hcapI : (c.gray.length : Int) - 1 ≤ (slCap gv : Int) := by omega
 have inj2 : ∀ {r1 r2 : Role} {b1 b2 : Nat}, β r1 = some b1 → β r2 = some b2 → r1 ≠ r2 → b1 ≠ b2 := fun h1 h2 hne e => hne (h.inj _ _ _ h1 (by rw [e]; exact h2))
 have gne : ∀ b, gv.ownBlock = some b → β .gr = some b := fun b hb => by rw [← hgS.blk]; exact hb
 refine ir101_calls fun ρ r0 => ?_
 have r0' : ρ 0 = .pointer (some ⟨Hb, 0, none⟩) := r0
 simp -implicitDefEqProofs [-wps_asg, -wps_eff, wa2, we2, ir101, r0', hd.cell, ptr, hqd.cell, hgs.is, hgs.len, hw1, hge, hll, h1l, hcell, encI]
 refine I.eff_lookup (s := ref) und91 und3 zi129 (by simp) (by simp) hmp false ?_
 simp -implicitDefEqProofs [-wps_asg, -wps_eff, wa2, we2, hlk]
 refine raw_ord ir101_o3_ok (Ext w) fun W1 hE1 _ => ⟨hE1, ?_⟩
 have c1 : ∀ W5, Ext w W5 → ∀ i, W5.cell? ⟨Hb, i, none⟩ = #[.int .i64 m.words, .int .i64 m.used, .int .i64 m.objs.length, .map (some M), ptr q, ev][i]? := fun W5 h5 => (hd.ext h5).cell
 have c2 : ∀ W5, Ext w W5 → ∀ i, W5.cell? ⟨q, i, none⟩ = #[.int .i64 c.first, .map (some bm), gv, .map (some wm), .int .i64 c.left][i]? := fun W5 h5 => (hqd.ext h5).cell
 simp +contextual -implicitDefEqProofs [ir101_o3, r0', ptr, c1, c2, hE1, hgs.is, hge, hcapI, h1l]
 have hot : Own base 3 1 W1 (slSub gv 1 0 (c.gray.length - 1) (c.gray.length - 1)) (c.gray.dropLast.map encI) := by
  have := Own.take (hgS.own.ext hE1) (c.gray.length - 1) (by simp)
  rw [← List.map_take, ← List.dropLast_eq_take] at this
  exact this
 have hone := own_one hot
 refine eff_store1 (B := q) (i := 2) (by simp) (hqd.ext hE1) (by simp) (by simpa using hone.1) (by simpa using hone.2) sz35 fun W2 hO2 hb2 => ?_
 simp at hb2
 have hsb : (slSub gv 1 0 (c.gray.length - 1) (c.gray.length - 1)).ownBlock = gv.ownBlock := ownBlock_slSub _ _ _ _ _
 have hot2 : Own base 3 1 W2 (slSub gv 1 0 (c.gray.length - 1) (c.gray.length - 1)) (c.gray.dropLast.map encI) := Own.same' hot fun k hk => hO2.block k (by rw [hsb] at hk; exact inj2 (gne k hk) hq (by simp))
 generalize slSub gv 1 0 (c.gray.length - 1) (c.gray.length - 1) = gv1 at hsb hot2 hb2 ⊢
 have hF2 : Fr (fun k => k = q) w W2 := (Fr.of hE1 (S := fun k => k = q)).trans (Fr.only hO2 (S := fun k => k = q) rfl) (fun x h => .inl h)
 have st2 : ∀ r b, r ≠ .wh → β r = some b → W2.heap[b]? = w.heap[b]? := fun r b hr hb => hF2.block b (h.hi r b hb) (inj2 hb hq hr)
 have hd2 : Blk W2 Hb #[.int .i64 m.words, .int .i64 m.used, .int .i64 m.objs.length, .map (some M), ptr q, ev] 96 := Blk.keep hd (st2 _ _ (by simp) h.hb)
 simp -implicitDefEqProofs [-wps_asg, -wps_eff, wa2, we2, ir101_k5]
 refine raw_ord ir101_o4_ok (Ext W2) fun W3 hE3 _ => ⟨hE3, ?_⟩
 have c3 : ∀ W5, Ext W2 W5 → ∀ i, W5.cell? ⟨Hb, i, none⟩ = #[.int .i64 m.words, .int .i64 m.used, .int .i64 m.objs.length, .map (some M), ptr q, ev][i]? := fun W5 h5 => (hd2.ext h5).cell
 have c4 : ∀ W5, Ext W2 W5 → ∀ i, W5.cell? ⟨q, i, none⟩ = #[.int .i64 c.first, .map (some bm), gv1, .map (some wm), .int .i64 c.left][i]? := fun W5 h5 => (hb2.ext h5).cell
 have hp2 := Blk.keep q3 (st2 _ _ (by simp) q1)
 have c5 : ∀ W5, Ext W2 W5 → ∀ i, W5.cell? ⟨p, i, none⟩ = #[.iface (tyOf (m.at ref)) (ptr f), .int .i64 kept, .bool (decide (2 ≤ (m.at ref).age)), .bool (m.at ref).watched][i]? := fun W5 h5 => (hp2.ext h5).cell
 have q62 := q6.keep (w' := W2) (st2 _ f (by simp) q2) fun k hk => st2 _ k (by simp) hk
 have hvs2 : Sl encI W2 vv (m.at ref).vals := (q5.keep (w' := W2) fun k hk => st2 _ k (by simp) hk).sl (by omega)
 simp +contextual -implicitDefEqProofs [ir101_o4, r0', ptr, c3, c4, c5, hE3]
 refine eff_words (base := base) (β := β) (k := ref) (o := m.at ref) (f := f) (vv := vv) (by simp [ptr]) (q62.ext hE3) (hvs2.ext hE3) ?_
 have hleft : IntKind.i64.wrap (c.left - (2 + ((m.at ref).vals.length : Int))) = c.left - (m.at ref).need := by
  rw [hneed]
  exact i64w (by omega)
 simp -implicitDefEqProofs [-wps_asg, -wps_eff, wa2, we2, hE3]
 refine eff_store1 (B := q) (i := 4) (by simp) (hb2.ext hE3) (by simp) rfl rfl sz3' fun W4 hO4 hb4 => ?_
 simp [hleft] at hb4
 have hF4 : Fr (fun k => k = q) w W4 := (hF2.trans (Fr.of hE3 (S := fun k => k = q)) (fun x h => .inl h)).trans (Fr.only hO4 (S := fun k => k = q) rfl) (fun x h => .inl h)
 have z4 := hF4.size
 have st4 : ∀ r b, r ≠ .wh → β r = some b → W4.heap[b]? = w.heap[b]? := fun r b hr hb => hF4.block b (h.hi r b hb) (inj2 hb hq hr)
 have hd4 : Blk W4 Hb #[.int .i64 m.words, .int .i64 m.used, .int .i64 m.objs.length, .map (some M), ptr q, ev] 96 := Blk.keep hd (st4 _ _ (by simp) h.hb)
 have hot4 : Own base 3 1 W4 gv1 (c.gray.dropLast.map encI) := Own.same' (hot2.ext hE3) fun k hk => hO4.block k (by rw [hsb] at hk; exact inj2 (gne k hk) hq (by simp))
 have hC4 : CW base W4 q bm wm { c with gray := c.gray.dropLast, left := c.left - (m.at ref).need } gv1 := by
  refine ⟨hb4, hbl.block (st4 _ _ (by simp) hbm), hot4, inj2 hq hbm (by simp), fun b hb => ?_⟩
  rw [hsb] at hb
  exact ⟨inj2 (gne b hb) hq (by simp), inj2 (gne b hb) hbm (by simp)⟩
 have hwmM4 := hwmM.block (st4 _ _ (by simp) hwm)
 have hlookd : c.look m = Wh.meets { c with gray := c.gray.dropLast, left := c.left - (m.at ref).need } (c.refs m ref) := by
  unfold Wh.look; rw [← href]
 have hrefl : (c.refs m ref).length ≤ 1000 := by
  unfold Wh.refs Wh.wasOf
  cases hf : c.was.find? fun p => decide (p.1 = ref) with
  | some pr =>
   have := hwok pr (List.mem_of_find?_eq_some hf)
   simp; omega
  | none =>
   have : (m.refsOf ref).length ≤ (m.at ref).vals.length := refs_len _
   simp; omega
 have hfin : ∀ (W : World), MeetR base W4 q bm wm gv1 (Wh.meets { c with gray := c.gray.dropLast, left := c.left - (m.at ref).need } (c.refs m ref)) W → R (.returned (.tuple #[])) W := by
  rintro W ⟨gv', hC', hF', hg'⟩
  rw [← hlookd] at hC'
  rw [hR]
  obtain ⟨a1, a2, a3⟩ := look_HW h hbw hon hq hbm hwm hgS.blk hM hd hev hwmM hsv (hI.look hgr) (by rw [hlookd]; exact (meets_first _ _).2.1) hC'
   ((hF4.mono (S' := fun k => k = q ∨ k = bm ∨ gv.ownBlock = some k) fun x hx => .inl (.inl hx)).trans hF' fun x hx => by
    rcases hx with e | e | e
    ·exact .inl (.inl e)
    ·exact .inl (.inr (.inl e))
    ·rw [hsb] at e; exact .inl (.inr (.inr e)))
   (fun b hb => by
    rcases hg' b hb with e | e
    ·rw [hsb] at e; exact .inl e
    ·exact .inr (by omega))
  exact ⟨rfl, _, a1, a2, a3⟩
 have hHne : Hb ≠ q ∧ Hb ≠ bm ∧ gv1.ownBlock ≠ some Hb := ⟨inj2 h.hb hq (by simp), inj2 h.hb hbm (by simp), fun e => by rw [hsb] at e; exact inj2 (gne _ e) h.hb (by simp) rfl⟩
 simp -implicitDefEqProofs [-wps_asg, -wps_eff, wa2, we2, ir101_k4, r0', hd4.cell, ptr, hb4.cell]
 refine I.eff_lookup (s := ref) und125 und3 zi35 (by simp) (by simp) hwmM4 true ?_
 rw [find_was]
 cases hwo : c.was.find? fun p => decide (p.1 = ref) with
 | some pr =>
  have hpr := List.mem_of_find?_eq_some hwo
  have hpe : pr.1 = ref := by have := List.find?_some hwo; simpa using this
  have hrs : c.refs m ref = pr.2 := by unfold Wh.refs Wh.wasOf; rw [hwo]; rfl
  have hsl := hsv pr hpr
  rw [hpe] at hsl
  simp -implicitDefEqProofs [-wps_asg, -wps_eff, wa2, we2]
  rw [hrs] at hrefl hfin
  refine look_loop (lst := pr.2) (xv := sv ref) (bR := base) (by simpa [ptr] using hd4) hHne hC4 (by omega) (Own.same' hsl.own fun k hk => st4 (.wv ref) k (by simp) (by rw [← hsl.blk]; exact hk)) (fun b hb => ?_) (by simp; omega) hfin (by simp [r0]) (by simp)
  have hb' : β (.wv ref) = some b := by rw [← hsl.blk]; exact hb
  exact ⟨inj2 hb' hq (by simp), inj2 hb' hbm (by simp), fun e => by rw [hsb] at e; exact inj2 hb' (gne _ e) (by simp) rfl⟩
 | none =>
  have hrs : c.refs m ref = (m.at ref).refs := by unfold Wh.refs Wh.wasOf; rw [hwo]; rfl
  have hp4 := Blk.keep q3 (st4 _ _ (by simp) q1)
  have q64 := q6.keep (w' := W4) (st4 _ f (by simp) q2) fun k hk => st4 _ k (by simp) hk
  have hvs4 : Sl encI W4 vv (m.at ref).vals := (q5.keep (w' := W4) fun k hk => st4 _ k (by simp) hk).sl (by omega)
  simp -implicitDefEqProofs [-wps_asg, -wps_eff, wa2, we2, hp4.cell, ptr]
  have hcol := t_Collect q64 hvs4 (by omega)
  simp [ptr] at hcol
  refine hcol.mono ?_
  rintro _ W5 ⟨x, rfl, hx, hE5⟩
  have z5 := hE5.size
  simp -implicitDefEqProofs [-wps_asg, -wps_eff, wa2, we2]
  rw [hrs] at hrefl hfin
  have lq := hC4.hd.lt
  have lb := hC4.bl.lt
  refine look_loop (lst := (m.at ref).refs) (xv := x) (by simpa [ptr] using hd4.ext hE5) hHne (hC4.keep fun k hk => hE5.block k ?_) (by omega) hx (fun b hb => ?_) (by simp; omega) (fun W hW => hfin W ?_) (by simp [r0]) (by simp)
  ·rcases hk with e | e | e
   ·omega
   ·omega
   ·exact (Own.blk hot4 k e).2
  ·have := (Own.blk hx b hb).1
   exact ⟨by omega, by omega, fun e => by have := (Own.blk hot4 b e).2; omega⟩
  ·exact MeetR.trans (Fr.of hE5) (fun b hb => .inl hb) hW
end
end Go.L17
namespace Go.L17
open Go Go.Eng Go.RowKit
open Go.Proofs hiding encI
set_option maxRecDepth 100000
set_option maxHeartbeats 2000000
def FinR (base : Nat) (w : World) (Hb : Nat) (β : Lay) (m : MS) : Ending → World → Prop := fun e w' => e = .returned (.tuple #[]) ∧ ∃ β', HAt base w' Hb β' m.ends none ∧ Turn β w β' w'
section
variable {base Hb : Nat} {β : Lay} {m : MS} {w : World} {c : Wh}
theorem t_finish {q : Nat} (h : HW base w Hb β m (ptr q)) (hwh : WhAt base w β m (some c) (ptr q)) (hbw : base ≤ w.heap.size) (hwf : m.wf) (hgr : c.gray = []) (htold : m.told.length ≤ 1000000000000) : Calls Tryz.prog 102 #[ptr Hb] w (FinR base w Hb β m) := by
 obtain ⟨R, hR⟩ : ∃ R, R = FinR base w Hb β m := ⟨_, rfl⟩
 rw [← hR]
 obtain ⟨M, ps, ev, hM, hd, hmp, hps, hev⟩ := h.hd
 generalize hsc : some c = oc at hwh
 generalize hqq : ptr q = onv at hwh
 cases hwh with
 | off _ => cases hsc
 | on c0 q0 bm wm gv sv s roots hon hI hq hbm hwm hqd hbl hgS hwmM hsv =>
 cases hsc
 cases hqq
 have hpl5 : ps.length ≤ 500000 := by
  have h1 : (ps.map (·.1)).length = m.thereL.length := by
   rw [← (h.keys hmp hps).1, sortI_len]
  rw [List.length_map] at h1
  have := thereL_len m (by have := h.words; omega)
  omega
 have hkeys : ∀ k, k ∈ ps.map (·.1) ↔ m.there k = true := fun k => by rw [← mem_thereL, ← (h.keys hmp hps).1, mem_sortI]
 have inj2 : ∀ {r1 r2 : Role} {b1 b2 : Nat}, β r1 = some b1 → β r2 = some b2 → r1 ≠ r2 → b1 ≠ b2 := fun h1 h2 hne e => hne (h.inj _ _ _ h1 (by rw [e]; exact h2))
 have hHl := h.hi _ _ h.hb
 refine ir102_calls fun ρ r0 => ?_
 have r0' : ρ 0 = .pointer (some ⟨Hb, 0, none⟩) := r0
 simp -implicitDefEqProofs [-wps_asg, -wps_eff, wa2, we2, ir102, r0', hd.cell, ptr]
 refine eff_store1 (B := Hb) (i := 4) (by simp) hd (by simp) rfl rfl sz94 fun W1 hO1 hb1 => ?_
 simp at hb1
 have z1 := hO1.size
 have st1 : ∀ r b, r ≠ .heap → β r = some b → W1.heap[b]? = w.heap[b]? := fun r b hr hb => hO1.block b (inj2 hb h.hb hr)
 have h1 : HW base W1 Hb β m (.pointer none) := h.turnOn hbw hM hev (by omega) (fun _ _ => rfl) (fun r b _ hb => ⟨.inl hb, by have := h.hi r b hb; omega⟩) (fun r1 r2 b _ _ hb1 hb2 => h.inj _ _ _ hb1 hb2) (fun r b _ hr hb => st1 r b hr hb) hb1
 obtain ⟨m0, hm0⟩ : ∃ m0 : MS, m0 = { m with on := false } := ⟨_, rfl⟩
 have hm0o : m0.objs = m.objs := by rw [hm0]
 have hsame0 : m.Same m0 := by
  rw [hm0]
  exact ⟨rfl, rfl, rfl, fun n => there_objs rfl n, fun n _ => at_objs rfl n⟩
 have h0 : HAt base W1 Hb β m0 none := (h1.same hsame0).strong (.off (by rw [hm0])) (same_wf hsame0 hwf) (fun _ h => by cases h)
 have hmp1 := hmp.block (st1 _ _ (by simp) hM)
 have hqd1 := Blk.keep hqd (st1 _ _ (by simp) hq)
 have hbl1 : I.MapB W1 bm (setPs c.black) := I.MapB.block hbl (st1 _ _ (by simp) hbm)
 have hql := hqd1.lt
 have hbml := hbl1.lt
 simp -implicitDefEqProofs [-wps_asg, -wps_eff, wa2, we2, r0', hb1.cell, ptr]
 refine I.eff_range (kt := 3) (et := 129) (B := M) und91 (by simp) hmp1 fun Rb W3 hRb hE3 hr => ?_
 have z3 := hE3.size
 have hMl := h.hi _ _ hM
 simp -implicitDefEqProofs [-wps_asg, -wps_eff, wa2, we2]
 obtain ⟨isK, hIK⟩ : ∃ isK : Int → Bool, isK = fun k => decide (c.first < k) || decide (k ∈ c.black) := ⟨_, rfl⟩
 refine loopN (fun n ρ' W => ρ' 0 = ptr Hb ∧ ρ' 18 = .pointer (some ⟨Rb, 0, none⟩) ∧ ρ' 2 = ptr q ∧ ∃ vis cur lv, ρ' 3 = lv ∧ I.RangeB W Rb M ps vis cur ∧ vis.Nodup ∧ (∀ k ∈ vis, k ∈ ps.map (·.1)) ∧ Own W1.heap.size 3 1 W lv ((vis.reverse.filter isK).map encI) ∧
  (∀ b, lv.ownBlock = some b → b ≠ Rb) ∧ Ext W1 W ∧ Rb < W.heap.size ∧ n + vis.length = ps.length) ps.length ⟨by simp [r0], by simp, by simp [ptr], [], none, .slice none 0 0, by simp, hr, List.nodup_nil, fun _ h => (by cases h), by simpa using Own.nil _ _ _ _, by simp [Value.ownBlock], hE3, hr.lt.2, by simp⟩ ?_
 rintro n ρ' W4 ⟨s0, s18, s2, vis, cur, lv, s3, hr4, hnd, hin, hown, hne, hE4, hRl, hn⟩
 obtain ⟨Z, hZ⟩ : ∃ Z : Env → World → Prop, Z = fun ρ'' w'' => ∃ m_1, m_1 < n ∧ (ρ'' 0 = ptr Hb ∧ ρ'' 18 = .pointer (some ⟨Rb, 0, none⟩) ∧ ρ'' 2 = ptr q ∧ ∃ vis cur lv, ρ'' 3 = lv ∧ I.RangeB w'' Rb M ps vis cur ∧ vis.Nodup ∧ (∀ k ∈ vis, k ∈ ps.map (·.1)) ∧ Own W1.heap.size 3 1 w'' lv ((vis.reverse.filter isK).map encI) ∧
  (∀ b, lv.ownBlock = some b → b ≠ Rb) ∧ Ext W1 w'' ∧ Rb < w''.heap.size ∧ m_1 + vis.length = ps.length) := ⟨_, rfl⟩
 rw [← hZ]
 have hvl : vis.length ≤ ps.length := by
  have := nodup_le' _ (ps.map (·.1)) hnd hin
  simpa using this
 have hfl : (vis.reverse.filter isK).length ≤ ps.length := by
  have := List.length_filter_le isK vis.reverse
  rw [List.length_reverse] at this
  omega
 simp -implicitDefEqProofs [-wps_asg, -wps_eff, wa2, we2, ir102_l1]
 refine I.eff_next (R := Rb) (B := M) (by simpa using s18) hr4 (fun hdone => ?_) (fun k u W5 hkp hkv hO5 hr5 => ?_)
 ·have s0' : ρ' 0 = .pointer (some ⟨Hb, 0, none⟩) := s0
  simp -implicitDefEqProofs [-wps_asg, -wps_eff, wa2, we2, ir102_k2, s0', ptr, s3]
  have hmemK : ∀ k, k ∈ vis.reverse.filter isK ↔ m.there k = true ∧ (c.first < k ∨ k ∈ c.black) := by
   intro k
   rw [List.mem_filter, List.mem_reverse, hIK, Bool.or_eq_true, decide_eq_true_eq, decide_eq_true_eq]
   have hk2 : k ∈ vis ↔ m.there k = true := by
    rw [← hkeys]
    exact ⟨hin k, hdone k⟩
   rw [hk2]
  obtain ⟨from', hfrom⟩ : ∃ l, l = vis.reverse.filter isK := ⟨_, rfl⟩
  rw [← hfrom] at hmemK hown hfl
  have hth : ∀ k ∈ from', k ≠ 0 → m.there k = true := fun k hk _ => ((hmemK k).1 hk).1
  have hrc := t_reached (h0.ext hE4) (v := lv) (roots := from') (hown.sl (enc := encI) (by omega)) (by omega) (fun k hk h0 => by rw [there_objs hm0o]; exact hth k hk h0)
  simp [ptr] at hrc
  refine hrc.mono ?_
  rintro _ W6 ⟨B, ks, rfl, hB, hmB, hksn, hks, hE6⟩
  have z6 := hE6.size
  have z4 := hE4.size
  simp -implicitDefEqProofs [-wps_asg, -wps_eff, wa2, we2]
  refine eff_alloc z106 fun Bx W7 hBx hE7 hb7 _ => ?_
  have lB := hmB.lt
  simp -implicitDefEqProofs [-wps_asg, -wps_eff, wa2, we2]
  refine eff_store1 (B := Bx) (i := 0) (by simp) hb7 (by simp) rfl rfl sz106 fun W8 hO8 hb8 => ?_
  simp at hb8
  have hE07 := (hE4.trans' hE6).trans' hE7
  have hE8 : Ext W1 W8 := hO8.ext hE07 (by omega)
  simp -implicitDefEqProofs [-wps_asg, -wps_eff, wa2, we2, s0', ptr]
  have hmB8 : I.MapB W8 B (setPs ks) := (hmB.ext hE7).block (hO8.block B (by omega))
  have hW := h1.ext hE8
  have z8 := hE8.size
  have nh : ∀ b, w.heap.size ≤ b → ¬ β.has b := fun b hb => by
   rintro ⟨r, hr⟩
   have := h.hi r b hr
   omega
  have hks' : ∀ n, n ∈ ks ↔ m.met from' n = true := fun n => by rw [hks, met_objs hm0o]
  have hkeep := t_keep134 (w := W8) (β := β) (m := m) (K := m.met from') hb8 hmB8 hks' ⟨nh Bx (by omega), nh B (by omega)⟩
  have hsw := t_sweep hW (by omega) (K := m.met from') (g := MO.old) (gf := 134) (caps := #[ptr Bx]) cb134 (fun o => ⟨rfl, rfl, rfl, rfl, rfl, rfl⟩) hkeep htold
  simp [ptr] at hsw
  refine hsw.mono ?_
  rintro _ W9 ⟨rfl, β', hH9, hT9⟩
  simp -implicitDefEqProofs [-wps_asg, -wps_eff, wa2, we2]
  have hnd2 : m.thereL.Nodup := (thereL_sorted m).imp fun h e => by omega
  have hS := sw_of (K := m.met from') (g := MO.old) (fun _ => rfl) (l := m.thereL) (m := m) hnd2 fun y hy => mem_thereL.1 hy
  have hfr : (m.thereL.filter fun n => !m.met from' n) = m.endFree := by
   rw [← hI.frees hgr hmemK]
   unfold MS.thereL
   rw [List.filter_filter]
   congr 1
   funext n
   rw [Bool.and_comm]
  have hsame := ends_same hS hfr
  rw [hR]
  have hwf2 := same_wf hsame (sw_wf hwf (g := MO.old) (fun _ => rfl) hth hS)
  exact ⟨rfl, β', (hH9.same hsame).strong (.off rfl) hwf2 (fun _ h => by cases h), ((Turn.of (β := β) (ext_refl w)).trans ⟨Fr.only hO1 ⟨_, h.hb⟩, fun _ h => .inl h⟩ |>.trans (Turn.of hE8)).trans hT9⟩
 ·have hkin : k ∈ ps.map (·.1) := List.mem_map.2 ⟨_, hkp, rfl⟩
  have hRw : W1.heap.size ≤ Rb := by omega
  have hE5 : Ext W1 W5 := hO5.ext hE4 hRw
  have hqd5 := hqd1.ext hE5
  have hbl5 := hbl1.ext hE5
  have hnd2 : (k :: vis).Nodup := List.nodup_cons.2 ⟨hkv, hnd⟩
  have hin2 : ∀ x ∈ k :: vis, x ∈ ps.map (·.1) := fun x hx => by
   rcases List.mem_cons.1 hx with rfl | hx
   ·exact hkin
   ·exact hin x hx
  have hvl2 : (k :: vis).length ≤ ps.length := by
   have := nodup_le' _ (ps.map (·.1)) hnd2 hin2
   simpa using this
  have hvl3 : vis.length + 1 ≤ ps.length := by simpa using hvl2
  have z5 := hO5.size
  have hown5 := Own.same' hown (w' := W5) fun b hb => hO5.block b (hne b hb)
  have s2' : ρ' 2 = .pointer (some ⟨q, 0, none⟩) := s2
  have hyes : isK k = true → ∀ ρ2 : Env, ρ2 0 = ptr Hb → ρ2 18 = .pointer (some ⟨Rb, 0, none⟩) → ρ2 2 = ptr q → ρ2 3 = lv → ρ2 4 = .int .i64 k → ∀ Q : Ks, wps Tryz.prog Q [.asg none 37 (.var 3), .asg none 38 (.var 4), .eff none (some 39) (.buildSlice 35 1 #[(0, (.tmp 38))]) 35, .eff none (some 40) (.call { callee := .builtin .append, args := #[(.tmp 37), (.tmp 39)], argTypes := #[35, 35] }) 35, .asg none 3 (.var 40)] Z ρ2 W5 := by
   intro hKk ρ2 u0 u18 u2 u3 u4 Q
   simp -implicitDefEqProofs [-wps_asg, -wps_eff, wa2, we2, u3, u4]
   refine eff_lit si35 (by decide) (by decide) (by simp [Value.cells]) fun B9 W6 hB9 hE6 hb9 _ => ?_
   simp [Value.cells] at hb9
   have z6 := hE6.size
   have z05 := hE5.size
   have hO9 : Own W1.heap.size 3 1 W6 (.slice (some ⟨B9, 0, none⟩) 1 1) [.int .i64 k] := Own.lit hb9 rfl (by omega) (by decide)
   have ho6 := hown5.ext hE6
   have hfl' : ((vis.reverse.filter isK).map encI).length ≤ ps.length := by rw [List.length_map]; exact hfl
   simp -implicitDefEqProofs [-wps_asg, -wps_eff, wa2, we2]
   refine eff_appendG ri35 (base := W1.heap.size) (by omega) (by simp) (by simp) ho6 (own_cells hO9) (by simp; rfl) (by simp at hfl' ⊢; omega) (by simp at hfl' ⊢; omega) fun lv' W7 ho7 hg7 hf7 => ?_
   have hlvb : ∀ b, lv.ownBlock = some b → W1.heap.size ≤ b := fun b hb => (Own.blk hown b hb).1
   have hE7 : Ext W1 W7 := (Fr.grown hg7).ext (hE5.trans' hE6) fun x hx => hlvb x hx
   have lM5 := hr5.lt
   have z7 := hg7.size
   simp -implicitDefEqProofs [-wps_asg, -wps_eff, wa2, we2]
   rw [hZ]
   refine ⟨n - 1, by omega, by simp [u0], by simp [u18], by simp [u2], k :: vis, some (k, u), lv', by simp, hr5.block (hE7.block M (by omega) |>.trans (hE5.block M (by omega)).symm) ((hg7.block Rb (by omega) fun e => hne Rb e.symm rfl).trans (hE6.block Rb lM5.2)), hnd2, hin2, ?_, fun b hb => ?_, hE7, by omega, by simp; omega⟩
   ·have : ((k :: vis).reverse.filter isK) = vis.reverse.filter isK ++ [k] := by rw [List.reverse_cons, List.filter_append]; simp [hKk]
    rw [this, List.map_append]; exact ho7
   ·rcases hf7 with e | e
    ·rw [e] at hb; exact hne b hb
    ·rw [e] at hb; cases hb; omega
  have hno : isK k = false → ∀ ρ2 : Env, ρ2 0 = ptr Hb → ρ2 18 = .pointer (some ⟨Rb, 0, none⟩) → ρ2 2 = ptr q → ρ2 3 = lv → Z ρ2 W5 := by
   intro hKk ρ2 u0 u18 u2 u3
   rw [hZ]
   refine ⟨n - 1, by omega, u0, u18, u2, k :: vis, _, lv, u3, hr5, hnd2, hin2, ?_, hne, hE5, hr5.lt.2, by simp; omega⟩
   have : ((k :: vis).reverse.filter isK) = vis.reverse.filter isK := by rw [List.reverse_cons, List.filter_append]; simp [hKk]
   rw [this]; exact hown5
  simp -implicitDefEqProofs [-wps_asg, -wps_eff, wa2, we2, ir102_k0]
  refine I.eff_entry (R := Rb) (B := M) (by simpa using s18) hr5 ?_
  by_cases hf : c.first < k
  ·have hKk : isK k = true := by rw [hIK]; simp [hf]
   simp -implicitDefEqProofs [-wps_asg, -wps_eff, wa2, we2, s2', hqd5.cell, hf]
   have := hyes hKk
   simp -implicitDefEqProofs [-wps_asg, -wps_eff, wa2, we2] at this
   refine this _ ?_ ?_ ?_ ?_ ?_ _ <;> simp [s0, s18, s2, s3]
  ·simp -implicitDefEqProofs [-wps_asg, -wps_eff, wa2, we2, s2', hqd5.cell, hf]
   refine I.eff_lookup (s := k) und106 und3 zi4 (by simp) (by simp) hbl5 false ?_
   simp -implicitDefEqProofs [-wps_asg, -wps_eff, wa2, we2]
   rw [look_set]
   by_cases hbk : k ∈ c.black
   ·have hKk : isK k = true := by rw [hIK]; simp [hbk]
    simp -implicitDefEqProofs [-wps_asg, -wps_eff, wa2, we2, hbk]
    have := hyes hKk
    simp -implicitDefEqProofs [-wps_asg, -wps_eff, wa2, we2] at this
    refine this _ ?_ ?_ ?_ ?_ ?_ _ <;> simp [s0, s18, s2, s3]
   ·have hKk : isK k = false := by rw [hIK]; simp [hf, hbk]
    simp -implicitDefEqProofs [-wps_asg, -wps_eff, wa2, we2, hbk]
    refine hno hKk _ ?_ ?_ ?_ ?_ <;> simp [s0, s18, s2, s3]
end
end Go.L17
namespace Go.L17
open Go Go.Eng Go.RowKit
open Go.Proofs hiding encI
set_option maxRecDepth 100000
set_option maxHeartbeats 2000000
section
variable {base Hb : Nat} {β : Lay} {m : MS} {w : World} {c : Option Wh}
def StepR (base : Nat) (w : World) (Hb : Nat) (β : Lay) (m : MS) (work : Int) : Ending → World → Prop := fun e w' =>
 (m.asked work ≠ 0 ∧ e = .returned (.tuple #[.bool false, .int .i64 (m.asked work)]) ∧ w' = w) ∨
 (m.asked work = 0 ∧ ∃ done, e = .returned (.tuple #[.bool done, .int .i64 0]) ∧ (m.stepped work done).1 = true ∧ ∃ β' c', HAt base w' Hb β' (m.stepped work done).2 c' ∧ Turn β w β' w')
theorem look_need {m : MS} {c : Wh} : (c.look m).left = c.left - (m.at (c.gray.getLastD 0)).need ∧ (c.look m).was = c.was := by
 unfold Wh.look
 obtain ⟨_, a, b⟩ := meets_first (c.refs m (c.gray.getLastD 0)) { c with gray := c.gray.dropLast, left := c.left - (m.at (c.gray.getLastD 0)).need }
 exact ⟨b, a⟩
theorem t_Step (h : HAt base w Hb β m c) (hbw : base ≤ w.heap.size) (work : Int) (htold : m.told.length ≤ 1000000000000) :
  Calls Tryz.prog 35 #[ptr Hb, .int .i64 work] w (StepR base w Hb β m work) := by
 obtain ⟨R, hR⟩ : ∃ R, R = StepR base w Hb β m work := ⟨_, rfl⟩
 rw [← hR]
 obtain ⟨M, ps, onv, ev, hM, hd, hmp, hps, hwh, hev⟩ := h.hd
 obtain ⟨onvW, hW0, hwW0⟩ := h.weak
 refine ir35_calls fun ρ r0 r1 => ?_
 have r0' : ρ 0 = .pointer (some ⟨Hb, 0, none⟩) := r0
 simp -implicitDefEqProofs [-wps_asg, -wps_eff, wa2, we2, ir35, r0', r1]
 refine eff_eqlNilP (p := some ⟨Hb, 0, none⟩) und25 (by simp [r0']) ?_
 simp -implicitDefEqProofs [-wps_asg, -wps_eff, wa2, we2, r0', r1]
 refine (t_in work 1 100000 w).mono ?_
 rintro _ w0 ⟨rfl, rfl⟩
 by_cases hin : 1 ≤ work ∧ work ≤ 100000
 rotate_left
 ·have hd : (decide (1 ≤ work) && decide (work ≤ 100000)) = false := by
   simp only [Bool.and_eq_false_iff, decide_eq_false_iff_not]; omega
  have ha : m.asked work = 1 := by unfold MS.asked; rw [if_pos (by omega)]
  simp -implicitDefEqProofs [-wps_asg, -wps_eff, wa2, we2, hd]
  rw [hR]
  exact .inl ⟨by rw [ha]; decide, by rw [ha], rfl⟩
 have hdi : (decide (1 ≤ work) && decide (work ≤ 100000)) = true := by
  simp only [Bool.and_eq_true, decide_eq_true_eq]; exact hin
 have ha : m.asked work = if m.on then 0 else 8 := by unfold MS.asked; rw [if_neg (by omega)]
 obtain ⟨q0, hq0, hqn⟩ := hwh.isPtr
 simp -implicitDefEqProofs [-wps_asg, -wps_eff, wa2, we2, hdi, r0', hd.cell]
 refine eff_eqlNilP (p := q0) und94 (by simp [hq0]) ?_
 rw [hqn]
 cases hon : m.on with
 | false =>
  rw [hon] at ha
  simp -implicitDefEqProofs [-wps_asg, -wps_eff, wa2, we2]
  rw [hR]
  exact .inl ⟨by rw [ha]; decide, by rw [ha]; rfl, rfl⟩
 | true =>
 rw [hon] at ha
 simp only [if_true] at ha
 cases hwh with
 | off h1 => rw [hon] at h1; cases h1
 | on c q bm wm gv sv s roots hon2 hI hq hbm hwm hqd hbl hgS hwmM hsv =>
 obtain ⟨hwok, hl1, hl2⟩ := h.ok c rfl
 have inj2 : ∀ {r1 r2 : Role} {b1 b2 : Nat}, β r1 = some b1 → β r2 = some b2 → r1 ≠ r2 → b1 ≠ b2 := fun h1 h2 hne e => hne (h.inj _ _ _ h1 (by rw [e]; exact h2))
 have gne : ∀ b, gv.ownBlock = some b → β .gr = some b := fun b hb => by rw [← hgS.blk]; exact hb
 have hw1 : IntKind.i64.wrap (c.left + work) = c.left + work := i64w (by omega)
 simp -implicitDefEqProofs [-wps_asg, -wps_eff, wa2, we2, ir35_k4, r0', r1, hd.cell, ptr, hqd.cell, hw1]
 refine eff_store1 (B := q) (i := 4) (by simp) hqd (by simp) rfl rfl sz3' fun W1 hO1 hb1 => ?_
 simp at hb1
 have z1 := hO1.size
 have st1 : ∀ r b, r ≠ .wh → β r = some b → W1.heap[b]? = w0.heap[b]? := fun r b hr hb => hO1.block b (inj2 hb hq hr)
 obtain ⟨m1, hm1⟩ : ∃ m1 : MS, m1 = { m with owed := m.owed - work } := ⟨_, rfl⟩
 have hm1o : m1.objs = m.objs := by rw [hm1]
 have hsame1 : m.Same m1 := by
  rw [hm1]
  exact ⟨rfl, rfl, rfl, fun n => there_objs rfl n, fun n _ => at_objs rfl n⟩
 have hI1 := hI.step work
 rw [← hm1] at hI1
 have hq_eq : ∀ onvW, WhAt base w0 β m (some c) onvW → onvW = ptr q := fun o ho => by
  cases ho with
  | on c q2 bm wm gv sv s roots hon2 hI hq2 => rw [hq] at hq2; cases hq2; rfl
 have hoW := hq_eq onvW hwW0
 subst hoW
 have h1 : HW base W1 Hb β m1 (ptr q) := HW.same (hW0.turnOn hbw hM hev (by omega) (fun _ _ => rfl) (fun r b _ hb => ⟨.inl hb, by have := h.hi r b hb; omega⟩) (fun r1 r2 b _ _ hb1 hb2 => h.inj _ _ _ hb1 hb2) (fun r b hr _ hb => st1 r b (by rintro rfl; cases hr) hb) (Blk.keep hd (st1 _ _ (by simp) h.hb))) hsame1
 have hwh1 : WhAt base W1 β m1 (some { c with left := c.left + work }) (ptr q) := .on _ q bm wm gv sv s roots (by rw [hm1]; exact hon) hI1 hq hbm hwm hb1 (I.MapB.block hbl (st1 _ _ (by simp) hbm)) (hgS.keep fun k hk => st1 _ k (by simp) hk) (hwmM.block (st1 _ _ (by simp) hwm)) (fun p hp => (hsv p hp).keep fun k hk => st1 _ k (by simp) hk)
 have hT1 : Turn β w0 β W1 := ⟨Fr.only hO1 ⟨_, hq⟩, fun _ h => .inl h⟩
 have hwf1 : m1.wf := same_wf hsame1 h.wf
 simp -implicitDefEqProofs [-wps_asg, -wps_eff, wa2, we2]
 refine loopN (fun n ρ' W => ρ' 0 = ptr Hb ∧ ∃ (c1 : Wh) (β1 : Lay), HW base W Hb β1 m1 (ptr q) ∧ WhAt base W β1 m1 (some c1) (ptr q) ∧ Turn β w0 β1 W ∧ wasOk c1 ∧ -1000 ≤ c1.left ∧ c1.left ≤ 200000 ∧ n = c1.left.toNat)
  (c.left + work).toNat ⟨by simp [r0], _, β, h1, hwh1, hT1, hwok, by show -1000 ≤ c.left + work; omega, by show c.left + work ≤ 200000; omega, rfl⟩ ?_
 rintro n ρ' W ⟨s0, c1, β1, hH, hwW, hT, hwk, hb1', hb2', hn⟩
 have s0' : ρ' 0 = .pointer (some ⟨Hb, 0, none⟩) := s0
 have hz := hT.1.size
 have hwWs := hwW
 obtain ⟨M', ps', ev', hM', hd', hmp', hps', hev'⟩ := hH.hd
 generalize hsc : some c1 = oc at hwW
 generalize hqq : ptr q = onv at hwW
 cases hwW with
 | off _ => cases hsc
 | on c0 q1 bm1 wm1 gv1 sv1 s1 roots1 hon1 hIW hq1 hbm1 hwm1 hqd1 hbl1 hgS1 hwmM1 hsv1 =>
 cases hsc
 have hqe : q = q1 := by simpa [ptr] using hqq
 subst hqe
 have hgl : c1.gray.length ≤ 500000 := by
  have h1 := nodup_le' c1.gray m1.thereL hIW.dup fun x hx => mem_thereL.2 (hIW.there x (hIW.ok x (hIW.met x (hIW.gray x hx))))
  have := thereL_len m1 (by have := hH.words; omega)
  omega
 have hgs := hgS1.own.sl (enc := encI) (by omega)
 by_cases hg0 : c1.gray = []
 ·have hgs0 : gv1 = gv1 := rfl
  have hlen0 : c1.gray.length = 0 := by rw [hg0]; rfl
  have hslen : slLen gv1 = 0 := by rw [hgs.len, hlen0]
  simp -implicitDefEqProofs [-wps_asg, -wps_eff, wa2, we2, ir35_l1, s0', hd'.cell, ptr, hqd1.cell, hgs.is, hslen, ir35_k3]
  by_cases hlf : c1.left ≤ 0
  ·simp -implicitDefEqProofs [-wps_asg, -wps_eff, wa2, we2, hlf]
   rw [hR]
   have how := hIW.owes hlf
   have e1 : m.stepped work false = (true, m1) := by
    have : 0 < m.owed - work := by rw [hm1] at how; exact how
    unfold MS.stepped
    rw [hm1]
    simp [this]; omega
   refine .inr ⟨ha, false, rfl, by rw [e1], β1, some c1, ?_, hT⟩
   rw [e1]
   exact hH.strong hwWs hwf1 fun x hx => by cases hx; exact ⟨hwk, hb1', hlf⟩
  ·simp -implicitDefEqProofs [-wps_asg, -wps_eff, wa2, we2, hlf, ir35_k2, s0']
   have hfin := t_finish hH hwWs (by omega) hwf1 hg0 (by rw [hm1]; exact htold)
   simp [ptr] at hfin
   refine hfin.mono ?_
   rintro _ W2 ⟨rfl, β2, hH2, hT2⟩
   simp -implicitDefEqProofs [-wps_asg, -wps_eff, wa2, we2]
   rw [hR]
   refine .inr ⟨ha, true, rfl, rfl, β2, none, ?_, hT.trans hT2⟩
   obtain ⟨onv3, hW3, hwW3⟩ := hH2.weak
   have hst : m.stepped work true = (true, m.ends) := rfl
   rw [hst]
   have hends : m1.ends.Same m.ends := by
    have hmet : ∀ l n, m1.met l n = m.met l n := fun l n => met_objs hm1o l n
    have hstay : m1.stay = m.stay := by rw [hm1]; rfl
    have hef : m1.endFree = m.endFree := by
     unfold MS.endFree
     rw [hstay]
     have : m1.doomed = m.doomed := by rw [hm1]
     rw [this]
     apply List.filter_congr
     intro n _
     rw [hmet]
    have e : m1.ends.objs = m.ends.objs ∧ m1.ends.told = m.ends.told ∧ m1.ends.words = m.ends.words := by
     unfold MS.ends
     rw [hef]
     rw [hm1]
     exact ⟨rfl, rfl, rfl⟩
    exact ⟨e.2.2.symm, by rw [e.1], e.2.1.symm, fun n => there_objs e.1.symm n, fun n _ => at_objs e.1.symm n⟩
   have hoff : onv3 = .pointer none := by
    cases hwW3 with
    | off _ => rfl
   subst hoff
   exact (hW3.same hends).strong (.off rfl) (same_wf hends hH2.wf) fun _ h => by cases h
 ·have hpos : 0 < c1.gray.length := List.length_pos_iff.2 hg0
  have hposI : (0 : Int) < c1.gray.length := by omega
  have hposS : 0 < slLen gv1 := by rw [hgs.len]; exact hpos
  by_cases hlf : 0 < c1.left
  ·simp -implicitDefEqProofs [-wps_asg, -wps_eff, wa2, we2, ir35_l1, s0', hd'.cell, ptr, hqd1.cell, hgs.is, hposS, hlf, ir35_k0]
   have hlk := t_look hH hwWs (by omega) hg0 hwk (by omega)
   simp [ptr] at hlk
   refine hlk.mono ?_
   rintro _ W2 ⟨rfl, β2, hH2, hw2, hT2⟩
   simp -implicitDefEqProofs [-wps_asg, -wps_eff, wa2, we2]
   have hlast := (last_mem hg0).1
   have hmt := hIW.there _ (hIW.ok _ (hIW.met _ (hIW.gray _ hlast)))
   have hneed : (m1.at (c1.gray.getLastD 0)).need = 2 + (m1.at (c1.gray.getLastD 0)).vals.length := need_there (there_true hmt)
   have hsm := hH.small _ hmt
   obtain ⟨e1, e2⟩ := look_need (m := m1) (c := c1)
   refine ⟨(c1.look m1).left.toNat, by rw [e1, hneed]; omega, by simp [s0, ptr], _, β2, hH2, hw2, hT.trans hT2, by unfold wasOk; rw [e2]; exact hwk, by rw [e1, hneed]; omega, by rw [e1, hneed]; omega, rfl⟩
  ·have hlf' : c1.left ≤ 0 := by omega
   simp -implicitDefEqProofs [-wps_asg, -wps_eff, wa2, we2, ir35_l1, s0', hd'.cell, ptr, hqd1.cell, hgs.is, hposS, hlf, ir35_k3]
   rw [hR]
   have how := hIW.owes hlf'
   have e1 : m.stepped work false = (true, m1) := by
    have : 0 < m.owed - work := by rw [hm1] at how; exact how
    unfold MS.stepped
    rw [hm1]
    simp [this]; omega
   refine .inr ⟨ha, false, rfl, by rw [e1], β1, some c1, ?_, hT⟩
   rw [e1]
   exact hH.strong hwWs hwf1 fun x hx => by cases hx; exact ⟨hwk, hb1', hlf'⟩
theorem flat_perm (T : List Int) : ∀ {l : List Int}, l.Nodup → (l.flatMap fun n => T.filter fun k => decide (k = n)).Perm (T.filter fun k => decide (k ∈ l))
 | [], _ => by simp
 | n :: l, hn => by
  obtain ⟨h1, h2⟩ := List.nodup_cons.1 hn
  rw [List.flatMap_cons]
  have hF := List.filter_append_perm (fun k => decide (k = n)) (T.filter fun k => decide (k ∈ n :: l))
  refine List.Perm.trans ?_ hF
  have e1 : ((T.filter fun k => decide (k ∈ n :: l)).filter fun k => decide (k = n)) = T.filter fun k => decide (k = n) := by
   rw [List.filter_filter]
   apply List.filter_congr
   intro k _
   by_cases e : k = n <;> simp [e]
  have e2 : ((T.filter fun k => decide (k ∈ n :: l)).filter fun k => !decide (k = n)) = T.filter fun k => decide (k ∈ l) := by
   rw [List.filter_filter]
   apply List.filter_congr
   intro k _
   by_cases e : k = n
   ·subst e; simp [h1]
   ·simp [e]
  rw [e1, e2]
  exact (flat_perm T h2).append_left _
theorem flat_sorted (T : List Int) : ∀ {l : List Int}, l.Pairwise (· < ·) → (l.flatMap fun n => T.filter fun k => decide (k = n)).Pairwise (· ≤ ·)
 | [], _ => by simp
 | n :: l, hn => by
  obtain ⟨h1, h2⟩ := List.pairwise_cons.1 hn
  rw [List.flatMap_cons, List.pairwise_append]
  refine ⟨?_, flat_sorted T h2, fun a ha b hb => ?_⟩
  ·rw [List.pairwise_iff_getElem]
   intro i j hi hj hij
   have h3 := (List.mem_filter.1 (List.getElem_mem hi)).2
   have h4 := (List.mem_filter.1 (List.getElem_mem hj)).2
   simp only [decide_eq_true_eq] at h3 h4
   omega
  ·have := (List.mem_filter.1 ha).2
   obtain ⟨j, hj, hb⟩ := List.mem_flatMap.1 hb
   have := h1 j hj
   have := (List.mem_filter.1 hb).2
   simp only [decide_eq_true_eq] at *
   omega
theorem ended_sort {m : MS} (h : ∀ k ∈ m.told, 1 ≤ k ∧ k ≤ m.objs.length) : m.ended.1 = sortI m.told := by
 have hp := flat_perm m.told (l := m.nums) ((nums_sorted m).imp fun h e => by omega)
 have hf : (m.told.filter fun k => decide (k ∈ m.nums)) = m.told := by
  rw [List.filter_eq_self]
  intro k hk
  simpa using mem_nums.2 (h k hk)
 rw [hf] at hp
 have hp2 : (sortI m.told).Perm m.ended.1 := (List.mergeSort_perm _ _).trans hp.symm
 exact (hp2.eq_of_pairwise (le := (· ≤ ·)) (fun x y _ _ h1 h2 => by omega) (sortI_sorted _) (flat_sorted _ (nums_sorted m))).symm
def EndedR (base : Nat) (w : World) (Hb : Nat) (β : Lay) (m : MS) (c : Option Wh) : Ending → World → Prop := fun e w' => ∃ x, e = .returned x ∧ Own base 3 1 w' x (m.ended.1.map encI) ∧ HAt base w' Hb (enR β none) m.ended.2 c ∧ Turn β w (enR β none) w' ∧ (∀ b, x.ownBlock = some b → ¬ (enR β none).has b ∧ β .en = some b)
theorem t_Ended (h : HAt base w Hb β m c) (ht : ∀ k ∈ m.told, 1 ≤ k ∧ k ≤ m.objs.length) (htl : m.told.length ≤ 1000000000000) : Calls Tryz.prog 48 #[ptr Hb] w (EndedR base w Hb β m c) := by
 obtain ⟨R, hR⟩ : ∃ R, R = EndedR base w Hb β m c := ⟨_, rfl⟩
 rw [← hR]
 obtain ⟨M, ps, onv, ev, hM, hd, hmp, hps, hwh, hev⟩ := h.hd
 have inj2 : ∀ {r1 r2 : Role} {b1 b2 : Nat}, β r1 = some b1 → β r2 = some b2 → r1 ≠ r2 → b1 ≠ b2 := fun h1 h2 hne e => hne (h.inj _ _ _ h1 (by rw [e]; exact h2))
 have hen : ∀ b, ev.ownBlock = some b → β .en = some b := fun b hb => by rw [← hev.blk]; exact hb
 refine ir48_calls fun ρ r0 => ?_
 have r0' : ρ 0 = .pointer (some ⟨Hb, 0, none⟩) := r0
 simp -implicitDefEqProofs [-wps_asg, -wps_eff, wa2, we2, ir48, r0']
 refine eff_eqlNilP (p := some ⟨Hb, 0, none⟩) und25 (by simp [r0']) ?_
 simp -implicitDefEqProofs [-wps_asg, -wps_eff, wa2, we2, ir48_k0, r0', hd.cell]
 refine eff_store1 (B := Hb) (i := 5) (by simp) hd (by simp) rfl rfl sz35 fun W1 hO1 hb1 => ?_
 simp at hb1
 have ho1 : Own base 3 1 W1 ev (m.told.map encI) := Own.same' hev.own fun k hk => hO1.block k (inj2 (hen k hk) h.hb (by simp))
 simp -implicitDefEqProofs [-wps_asg, -wps_eff, wa2, we2]
 refine (t_Sort ho1 (by omega)).mono ?_
 rintro _ W2 ⟨rfl, ho2, hF2⟩
 simp -implicitDefEqProofs [-wps_asg, -wps_eff, wa2, we2]
 rw [← ended_sort ht] at ho2
 have hF : Fr (fun k => k = Hb ∨ β .en = some k) w W2 := (Fr.only hO1 (S := fun k => k = Hb ∨ β .en = some k) (.inl rfl)).trans hF2 fun x hx => .inl (.inr (hen x hx))
 have st : ∀ r b, r ≠ .heap → r ≠ .en → β r = some b → W2.heap[b]? = w.heap[b]? := fun r b h1 h2 hb => hF.block b (h.hi r b hb) fun e => by
  rcases e with e | e
  ·exact inj2 hb h.hb h1 e
  ·exact h2 (h.inj _ _ _ hb e)
 have z := hF.size
 have ee : ∀ r, r ≠ .en → enR β none r = β r := fun r hr => by cases r <;> first | rfl | exact absurd rfl hr
 have back : ∀ r b, enR β none r = some b → β r = some b ∧ r ≠ .en := fun r b hb => by
  by_cases e : r = .en
  ·subst e; cases hb
  ·rw [ee r e] at hb; exact ⟨hb, e⟩
 rw [hR]
 have hso : m.Same m.ended.2 ∨ True := .inr trivial
 have hdW : Blk W2 Hb #[.int .i64 m.words, .int .i64 m.used, .int .i64 m.objs.length, .map (some M), onv, .slice none 0 0] 96 := ⟨(hF2.block Hb hb1.lt fun e => inj2 (hen _ e) h.hb (by simp) rfl).trans hb1.heap⟩
 refine ⟨ev, rfl, ho2, ⟨fun r1 r2 b h1 h2 => h.inj r1 r2 b (back r1 b h1).1 (back r2 b h2).1, fun r b hb => h.lo r b (back r b hb).1, fun r b hb => by have := h.hi r b (back r b hb).1; omega, h.hb, ⟨M, ps, onv, .slice none 0 0, hM, hdW, hmp.block (st _ _ (by simp) (by simp) hM), hps, ?_, ⟨Own.nil _ _ _ _, rfl⟩⟩, fun n hn => ?_, h.free, fun n hn => h.wf n hn, h.small, h.words, h.len, h.ok⟩, ⟨hF.mono fun x hx => ?_, fun b hb => ?_⟩, fun b hb => ⟨fun hh => ?_, hen b hb⟩⟩
 ·refine hwh.move rfl (fun s roots x hx hon hI => ?_) (fun r hr => ee r (by rintro rfl; cases hr)) fun r b hr hb => st r b (by rintro rfl; cases hr) (by rintro rfl; cases hr) hb
  exact ⟨hI.first, hI.more, hI.ok, hI.gray, hI.dup, hI.met, hI.root, hI.closed, hI.there, hI.there2, hI.was, hI.doomed, hI.pay⟩
 ·refine (h.obs n hn).move rfl rfl rfl rfl fun b hb => ?_
  rcases hb with hb | hb | hb | hb <;> exact st _ b (by simp) (by simp) hb
 ·rcases hx with rfl | hx
  ·exact .inl ⟨_, h.hb⟩
  ·exact .inl ⟨_, hx⟩
 ·obtain ⟨r, hr⟩ := hb
  exact .inl ⟨r, (back r b hr).1⟩
 ·obtain ⟨r, hr⟩ := hh
  exact (back r b hr).2 (h.inj _ _ _ (back r b hr).1 (hen b hb))
end
end Go.L17
namespace Go.L17
open Go Go.Eng Go.Proofs
set_option maxRecDepth 100000
set_option maxHeartbeats 2000000
variable {v0 v1 v2 v3 v4 : Value} {w : World} {R : Ending → World → Prop}
noncomputable def ir59_k0 : IR := .seq (.reg [.asg none 10 (.var 0), .eff none (some 11) (.build 43 #[(0, (.tmp 10))]) 43, .eff none (some 12) (.box 43 (.tmp 11)) 29, .asg none 2 (.var 12), .asg none 3 (.const (.int .i64 0))]) <| .ret
noncomputable def ir59 : IR := .seq (.reg [.asg none 2 (.const (.pointer none)), .asg none 3 (.const (.int .i64 0)), .asg none 9 (.ite (.op2 (.ibin .lss .i64) (.var 0) (.const (.int .i64 64))) (.const (.bool true)) (.op2 (.ibin .gtr .i64) (.var 0) (.const (.int .i64 1000000))))]) <| .seq (.cond (.var 9) (.seq (.reg [.asg none 2 (.const (.pointer none)), .asg none 3 (.const (.int .i64 1))]) <| .ret) (.skip)) (ir59_k0)
def ir59_V : List Nat := [0, 2, 3, 9, 10, 11, 12]
theorem ir59_calls (h : ∀ ρ : Env, ρ 0 = v0 → ir59.wp ⟨Tryz.prog, 13, ir59_V, []⟩ (retK [.tmp 2, .tmp 3] R) (ksOf [.tmp 2, .tmp 3] R) ρ w) : Calls Tryz.prog 59 #[v0] w R :=
 calls_irX (raws := []) (ir := ir59) Tryz.func59 rfl (by kernel_rfl) (by kernel_rfl) (by kernel_rfl) (Nat.le_of_ble_eq_true rfl) (h _ rfl)
noncomputable def ir62_body : Code := ((Tryz.f62.body).getD .skip)
noncomputable def ir62_k0 : IR := .reg [.asg none 10 (.ite (.var 10) (.const (.bool true)) (.op2 (.ibin .neq .i64) (.var 12) (.const (.int .i64 0))))]
noncomputable def ir62_k1 : IR := .seq (.reg [.asg none 65 (.op2 (.ibin .eql .i64) (.var 12) (.const (.int .i64 1)))]) <| .seq (.cond (.var 65) (.seq (.reg [.asg none 8 (.const (.int .i64 0)), .asg none 9 (.const (.int .i64 1))]) <| .ret) (.skip)) (ir62_k0)
noncomputable def ir62_k2 : IR := .seq (.drw [.asg none 54 (.var 0), .asg none 58 (.op1 .load1 (.op2 (.ixa 1) (.var 2) (.var 11))), .asg none 62 (.op1 .load1 (.op2 (.ixa 1) (.var 3) (.var 11))), .eff none (some 63) (.call { callee := .value (.func 115), args := #[(.tmp 54), (.tmp 58), (.tmp 62)], argTypes := #[29, 5, 3] }) 26, .asg none 12 (.var 63)]) (ir62_k1)
noncomputable def ir62_k3 : IR := .reg [.asg none 11 (.op2 (.ibin .add .i64) (.var 11) (.const (.int .i64 1)))]
noncomputable def ir62_k4 : IR := .seq (.block 1 (.seq (.reg [.asg none 53 (.ite (.op2 (.ibin .neq .u8) (.op1 .load1 (.op2 (.ixa 1) (.var 2) (.var 11))) (.const (.int .u8 1))) (.op2 (.ibin .neq .u8) (.op1 .load1 (.op2 (.ixa 1) (.var 2) (.var 11))) (.const (.int .u8 2))) (.const (.bool false)))]) <| .seq (.cond (.var 53) (.seq (.reg [.asg none 8 (.const (.int .i64 0)), .asg none 9 (.const (.int .i64 1))]) <| .ret) (.skip)) (ir62_k2))) (ir62_k3)
noncomputable def ir62_l5 : IR := .seq (.reg [.asg none 39 (.op2 (.ibin .lss .i64) (.var 11) (.op1 .lenS (.var 2)))]) <| .seq (.cond (.var 39) (.skip) (.exit 0)) (ir62_k4)
noncomputable def ir62_k6 : IR := .seq (.reg [.asg none 8 (.op1 .lenS (.op1 .load1 (.op1 (.fadr 1) (.op1 .nilc (.var 0))))), .asg none 9 (.const (.int .i64 0))]) <| .ret
noncomputable def ir62_k7 : IR := .seq (.raw (rawReg ir62_body 17)) (ir62_k6)
noncomputable def ir62_k8 : IR := .seq (.reg [.asg none 72 (.var 0), .asg none 75 (.op2 (.ibin .add .i64) (.const (.int .i64 2)) (.op1 .lenS (.var 3))), .eff none (some 76) (.call { callee := .value (.func 116), args := #[(.tmp 72), (.tmp 75)], argTypes := #[29, 3] }) 4, .asg none 77 (.op1 .not (.var 76))]) <| .seq (.cond (.var 77) (.seq (.reg [.asg none 8 (.const (.int .i64 0)), .asg none 9 (.const (.int .i64 170))]) <| .ret) (.skip)) (ir62_k7)
noncomputable def ir62_k9 : IR := .seq (.reg [.asg none 71 (.var 10)]) <| .seq (.cond (.var 71) (.seq (.reg [.asg none 8 (.const (.int .i64 0)), .asg none 9 (.const (.int .i64 171))]) <| .ret) (.skip)) (ir62_k8)
noncomputable def ir62_k10 : IR := .seq (.reg [.asg none 10 (.const (.bool false)), .asg none 11 (.const (.int .i64 0))]) <| .seq (.block 0 (.loop ir62_l5)) (ir62_k9)
noncomputable def ir62 : IR := .seq (.reg [.asg none 8 (.const (.int .i64 0)), .asg none 9 (.const (.int .i64 0)), .asg none 35 (.ite (.ite (.ite (.ite (.op2 (.ibin .lss .i64) (.var 1) (.const (.int .i64 0))) (.const (.bool true)) (.op2 (.ibin .gtr .i64) (.var 1) (.const (.int .i64 5)))) (.const (.bool true)) (.op2 (.ibin .lss .i64) (.op1 .lenS (.var 2)) (.const (.int .i64 1)))) (.const (.bool true)) (.op2 (.ibin .gtr .i64) (.op1 .lenS (.var 2)) (.const (.int .i64 6)))) (.const (.bool true)) (.op2 (.ibin .neq .i64) (.op1 .lenS (.var 3)) (.op1 .lenS (.var 2))))]) <| .seq (.cond (.var 35) (.seq (.reg [.asg none 8 (.const (.int .i64 0)), .asg none 9 (.const (.int .i64 1))]) <| .ret) (.skip)) (ir62_k10)
def ir62_V : List Nat := [0, 1, 2, 3, 8, 9, 10, 11, 12, 35, 39, 53, 54, 58, 62, 63, 65, 71, 72, 75, 76, 77, 78, 79, 80, 81, 82, 83, 84, 85, 86, 87, 88, 89, 90, 91, 92, 93, 94]
theorem ir62_calls (h : ∀ ρ : Env, ρ 0 = v0 → ρ 1 = v1 → ρ 2 = v2 → ρ 3 = v3 → ir62.wp ⟨Tryz.prog, 100, ir62_V, []⟩ (retK [.tmp 8, .tmp 9] R) (ksOf [.tmp 8, .tmp 9] R) ρ w) : Calls Tryz.prog 62 #[v0, v1, v2, v3] w R :=
 calls_irX (raws := [17]) (ir := ir62) Tryz.func62 rfl (by kernel_rfl) (by kernel_rfl) (by kernel_rfl) (Nat.le_of_ble_eq_true rfl) (h _ rfl rfl rfl rfl)
noncomputable def ir62_o17 : OT := .take none 78 (.var 0) <| .take none 79 (.var 0) <| .take none 80 (.op1 .nilc (.var 79)) <| .take none 81 (.op1 (.fadr 1) (.var 80)) <| .take none 82 (.op1 .load1 (.var 81)) <| .take none 83 (.var 1) <| .take none 85 (.var 2) <| .take none 88 (.var 3) <| .both (.step (.eff none (some 84) (.buildSlice 34 0 #[]) 34) true <| .both (.step (.eff none (some 86) (.call { callee := .builtin .append, args := #[(.tmp 84), (.tmp 85)], argTypes := #[34, 34] }) 34) true <| .step (.eff none (some 87) (.buildSlice 35 0 #[]) 35) true <| .step (.eff none (some 89) (.call { callee := .builtin .append, args := #[(.tmp 87), (.tmp 88)], argTypes := #[35, 35] }) 35) true <| .step (.eff none (some 90) (.build 145 #[(0, (.const (.bool true))), (1, (.tmp 83)), (3, (.tmp 86)), (4, (.tmp 89))]) 145) true <| .step (.eff none (some 91) (.buildSlice 41 1 #[(0, (.tmp 90))]) 41) true <| .step (.eff none (some 92) (.call { callee := .builtin .append, args := #[(.tmp 82), (.tmp 91)], argTypes := #[41, 41] }) 41) true <| .step (.asg none 93 (.op1 .nilc (.var 78))) false <| .step (.asg none 94 (.op1 (.fadr 1) (.var 93))) false <| .step (.eff none none (.store 41 (.tmp 94) (.tmp 92)) 0) false <| .done) <| .step (.eff none (some 87) (.buildSlice 35 0 #[]) 35) true <| .step (.eff none (some 86) (.call { callee := .builtin .append, args := #[(.tmp 84), (.tmp 85)], argTypes := #[34, 34] }) 34) true <| .step (.eff none (some 89) (.call { callee := .builtin .append, args := #[(.tmp 87), (.tmp 88)], argTypes := #[35, 35] }) 35) true <| .step (.eff none (some 90) (.build 145 #[(0, (.const (.bool true))), (1, (.tmp 83)), (3, (.tmp 86)), (4, (.tmp 89))]) 145) true <| .step (.eff none (some 91) (.buildSlice 41 1 #[(0, (.tmp 90))]) 41) true <| .step (.eff none (some 92) (.call { callee := .builtin .append, args := #[(.tmp 82), (.tmp 91)], argTypes := #[41, 41] }) 41) true <| .step (.asg none 93 (.op1 .nilc (.var 78))) false <| .step (.asg none 94 (.op1 (.fadr 1) (.var 93))) false <| .step (.eff none none (.store 41 (.tmp 94) (.tmp 92)) 0) false <| .done) <| .step (.eff none (some 87) (.buildSlice 35 0 #[]) 35) true <| .step (.eff none (some 84) (.buildSlice 34 0 #[]) 34) true <| .step (.eff none (some 86) (.call { callee := .builtin .append, args := #[(.tmp 84), (.tmp 85)], argTypes := #[34, 34] }) 34) true <| .step (.eff none (some 89) (.call { callee := .builtin .append, args := #[(.tmp 87), (.tmp 88)], argTypes := #[35, 35] }) 35) true <| .step (.eff none (some 90) (.build 145 #[(0, (.const (.bool true))), (1, (.tmp 83)), (3, (.tmp 86)), (4, (.tmp 89))]) 145) true <| .step (.eff none (some 91) (.buildSlice 41 1 #[(0, (.tmp 90))]) 41) true <| .step (.eff none (some 92) (.call { callee := .builtin .append, args := #[(.tmp 82), (.tmp 91)], argTypes := #[41, 41] }) 41) true <| .step (.asg none 93 (.op1 .nilc (.var 78))) false <| .step (.asg none 94 (.op1 (.fadr 1) (.var 93))) false <| .step (.eff none none (.store 41 (.tmp 94) (.tmp 92)) 0) false <| .done
theorem ir62_o17_ok : ordOf Tryz.prog 100 ir62_V 15 (rawReg ir62_body 17) = some ir62_o17 := by kernel_rfl
noncomputable def ir63_k0 : IR := .seq (.reg [.asg none 15 (.var 0), .asg none 19 (.op1 .load1 (.op1 (.fadr 1) (.op1 .nilc (.var 0)))), .asg none 20 (.var 1), .eff none (some 21) (.build 145 #[(0, (.const (.bool true))), (2, (.tmp 20))]) 145, .eff none (some 22) (.buildSlice 41 1 #[(0, (.tmp 21))]) 41, .eff none (some 23) (.call { callee := .builtin .append, args := #[(.tmp 19), (.tmp 22)], argTypes := #[41, 41] }) 41, .asg none 25 (.op1 (.fadr 1) (.op1 .nilc (.var 15))), .eff none none (.store 41 (.tmp 25) (.tmp 23)) 0, .asg none 4 (.op1 .lenS (.op1 .load1 (.op1 (.fadr 1) (.op1 .nilc (.var 0))))), .asg none 5 (.const (.int .i64 0))]) <| .ret
noncomputable def ir63_k1 : IR := .seq (.reg [.asg none 12 (.var 0), .eff none (some 13) (.call { callee := .value (.func 116), args := #[(.tmp 12), (.const (.int .i64 2))], argTypes := #[29, 3] }) 4, .asg none 14 (.op1 .not (.var 13))]) <| .seq (.cond (.var 14) (.seq (.reg [.asg none 4 (.const (.int .i64 0)), .asg none 5 (.const (.int .i64 170))]) <| .ret) (.skip)) (ir63_k0)
noncomputable def ir63 : IR := .seq (.reg [.asg none 4 (.const (.int .i64 0)), .asg none 5 (.const (.int .i64 0)), .asg none 11 (.ite (.op2 (.ibin .neq .u8) (.var 1) (.const (.int .u8 1))) (.op2 (.ibin .neq .u8) (.var 1) (.const (.int .u8 2))) (.const (.bool false)))]) <| .seq (.cond (.var 11) (.seq (.reg [.asg none 4 (.const (.int .i64 0)), .asg none 5 (.const (.int .i64 1))]) <| .ret) (.skip)) (ir63_k1)
def ir63_V : List Nat := [0, 1, 4, 5, 11, 12, 13, 14, 15, 19, 20, 21, 22, 23, 25]
theorem ir63_calls (h : ∀ ρ : Env, ρ 0 = v0 → ρ 1 = v1 → ir63.wp ⟨Tryz.prog, 31, ir63_V, []⟩ (retK [.tmp 4, .tmp 5] R) (ksOf [.tmp 4, .tmp 5] R) ρ w) : Calls Tryz.prog 63 #[v0, v1] w R :=
 calls_irX (raws := []) (ir := ir63) Tryz.func63 rfl (by kernel_rfl) (by kernel_rfl) (by kernel_rfl) (Nat.le_of_ble_eq_true rfl) (h _ rfl rfl)
noncomputable def ir64_k0 : IR := .ret
noncomputable def ir64_k1 : IR := .seq (.reg [.asg none 25 (.op1 (.loadN 7) (.op2 (.ixa 7) (.op1 .load1 (.op1 (.fadr 1) (.op1 .nilc (.var 0)))) (.op2 (.ibin .sub .i64) (.var 1) (.const (.int .i64 1))))), .eff none (some 10) (.alloc 145) 0, .eff none none (.store 145 (.tmp 10) (.tmp 25)) 0]) <| .seq (.drw [.asg none 30 (.op1 .load1 (.op2 (.ixa 1) (.op1 .load1 (.op1 (.fadr 3) (.var 10))) (.var 2))), .asg none 35 (.op1 .load1 (.op2 (.ixa 1) (.op1 .load1 (.op1 (.fadr 4) (.var 10))) (.var 2))), .asg none 6 (.var 30), .asg none 7 (.var 35), .asg none 8 (.const (.int .i64 0))]) (ir64_k0)
noncomputable def ir64 : IR := .seq (.reg [.asg none 6 (.const (.int .u8 0)), .asg none 7 (.const (.int .i64 0)), .asg none 8 (.const (.int .i64 0)), .asg none 11 (.var 0), .asg none 12 (.var 1), .asg none 13 (.var 2), .eff none (some 14) (.call { callee := .value (.func 117), args := #[(.tmp 11), (.tmp 12), (.tmp 13)], argTypes := #[29, 3, 3] }) 26, .asg none 9 (.var 14), .asg none 16 (.op2 (.ibin .neq .i64) (.var 9) (.const (.int .i64 0)))]) <| .seq (.cond (.var 16) (.seq (.reg [.asg none 17 (.var 9), .asg none 6 (.const (.int .u8 0)), .asg none 7 (.const (.int .i64 0)), .asg none 8 (.var 17)]) <| .ret) (.skip)) (ir64_k1)
def ir64_V : List Nat := [0, 1, 2, 6, 7, 8, 9, 10, 11, 12, 13, 14, 16, 17, 25, 30, 35]
theorem ir64_calls (h : ∀ ρ : Env, ρ 0 = v0 → ρ 1 = v1 → ρ 2 = v2 → ir64.wp ⟨Tryz.prog, 36, ir64_V, []⟩ (retK [.tmp 6, .tmp 7, .tmp 8] R) (ksOf [.tmp 6, .tmp 7, .tmp 8] R) ρ w) : Calls Tryz.prog 64 #[v0, v1, v2] w R :=
 calls_irX (raws := []) (ir := ir64) Tryz.func64 rfl (by kernel_rfl) (by kernel_rfl) (by kernel_rfl) (Nat.le_of_ble_eq_true rfl) (h _ rfl rfl rfl)
noncomputable def ir65_k0 : IR := .seq (.reg [.asg none 38 (.op1 .load1 (.op1 (.fadr 4) (.var 10))), .asg none 39 (.var 2), .asg none 40 (.var 3), .asg none 41 (.op2 (.ixa 1) (.var 38) (.var 39)), .eff none none (.store 3 (.tmp 41) (.tmp 40)) 0, .asg none 8 (.const (.int .i64 0))]) <| .ret
noncomputable def ir65_k1 : IR := .seq (.reg [.asg none 25 (.op1 (.loadN 7) (.op2 (.ixa 7) (.op1 .load1 (.op1 (.fadr 1) (.op1 .nilc (.var 0)))) (.op2 (.ibin .sub .i64) (.var 1) (.const (.int .i64 1))))), .eff none (some 10) (.alloc 145) 0, .eff none none (.store 145 (.tmp 10) (.tmp 25)) 0, .asg none 26 (.var 0), .asg none 31 (.op1 .load1 (.op2 (.ixa 1) (.op1 .load1 (.op1 (.fadr 3) (.var 10))) (.var 2))), .asg none 32 (.var 3), .eff none (some 33) (.call { callee := .value (.func 115), args := #[(.tmp 26), (.tmp 31), (.tmp 32)], argTypes := #[29, 5, 3] }) 26, .asg none 9 (.var 33), .asg none 35 (.op2 (.ibin .neq .i64) (.var 9) (.const (.int .i64 0)))]) <| .seq (.cond (.var 35) (.seq (.reg [.asg none 8 (.var 9)]) <| .ret) (.skip)) (ir65_k0)
noncomputable def ir65 : IR := .seq (.reg [.asg none 8 (.const (.int .i64 0)), .asg none 11 (.var 0), .asg none 12 (.var 1), .asg none 13 (.var 2), .eff none (some 14) (.call { callee := .value (.func 117), args := #[(.tmp 11), (.tmp 12), (.tmp 13)], argTypes := #[29, 3, 3] }) 26, .asg none 9 (.var 14), .asg none 16 (.op2 (.ibin .neq .i64) (.var 9) (.const (.int .i64 0)))]) <| .seq (.cond (.var 16) (.seq (.reg [.asg none 8 (.var 9)]) <| .ret) (.skip)) (ir65_k1)
def ir65_V : List Nat := [0, 1, 2, 3, 8, 9, 10, 11, 12, 13, 14, 16, 25, 26, 31, 32, 33, 35, 38, 39, 40, 41]
theorem ir65_calls (h : ∀ ρ : Env, ρ 0 = v0 → ρ 1 = v1 → ρ 2 = v2 → ρ 3 = v3 → ir65.wp ⟨Tryz.prog, 42, ir65_V, []⟩ (retK [.tmp 8] R) (ksOf [.tmp 8] R) ρ w) : Calls Tryz.prog 65 #[v0, v1, v2, v3] w R :=
 calls_irX (raws := []) (ir := ir65) Tryz.func65 rfl (by kernel_rfl) (by kernel_rfl) (by kernel_rfl) (Nat.le_of_ble_eq_true rfl) (h _ rfl rfl rfl rfl)
noncomputable def ir66_k0 : IR := .seq (.reg [.asg none 4 (.op1 .load1 (.op1 (.fadr 1) (.op2 (.ixa 7) (.op1 .load1 (.op1 (.fadr 1) (.op1 .nilc (.var 0)))) (.op2 (.ibin .sub .i64) (.var 1) (.const (.int .i64 1)))))), .asg none 5 (.const (.int .i64 0))]) <| .ret
noncomputable def ir66_k1 : IR := .seq (.reg [.asg none 22 (.op2 (.ibin .neq .u8) (.op1 .load1 (.op1 (.fadr 2) (.op2 (.ixa 7) (.op1 .load1 (.op1 (.fadr 1) (.op1 .nilc (.var 0)))) (.op2 (.ibin .sub .i64) (.var 1) (.const (.int .i64 1)))))) (.const (.int .u8 0)))]) <| .seq (.cond (.var 22) (.seq (.reg [.asg none 4 (.const (.int .i64 0)), .asg none 5 (.const (.int .i64 1))]) <| .ret) (.skip)) (ir66_k0)
noncomputable def ir66 : IR := .seq (.reg [.asg none 4 (.const (.int .i64 0)), .asg none 5 (.const (.int .i64 0)), .asg none 7 (.var 0), .asg none 8 (.var 1), .eff none (some 9) (.call { callee := .value (.func 118), args := #[(.tmp 7), (.tmp 8)], argTypes := #[29, 3] }) 26, .asg none 6 (.var 9), .asg none 11 (.op2 (.ibin .neq .i64) (.var 6) (.const (.int .i64 0)))]) <| .seq (.cond (.var 11) (.seq (.reg [.asg none 12 (.var 6), .asg none 4 (.const (.int .i64 0)), .asg none 5 (.var 12)]) <| .ret) (.skip)) (ir66_k1)
def ir66_V : List Nat := [0, 1, 4, 5, 6, 7, 8, 9, 11, 12, 22]
theorem ir66_calls (h : ∀ ρ : Env, ρ 0 = v0 → ρ 1 = v1 → ir66.wp ⟨Tryz.prog, 32, ir66_V, []⟩ (retK [.tmp 4, .tmp 5] R) (ksOf [.tmp 4, .tmp 5] R) ρ w) : Calls Tryz.prog 66 #[v0, v1] w R :=
 calls_irX (raws := []) (ir := ir66) Tryz.func66 rfl (by kernel_rfl) (by kernel_rfl) (by kernel_rfl) (Nat.le_of_ble_eq_true rfl) (h _ rfl rfl)
noncomputable def ir67_k0 : IR := .seq (.reg [.asg none 4 (.op1 .load1 (.op1 (.fadr 2) (.op2 (.ixa 7) (.op1 .load1 (.op1 (.fadr 1) (.op1 .nilc (.var 0)))) (.op2 (.ibin .sub .i64) (.var 1) (.const (.int .i64 1)))))), .asg none 5 (.const (.int .i64 0))]) <| .ret
noncomputable def ir67 : IR := .seq (.reg [.asg none 4 (.const (.int .u8 0)), .asg none 5 (.const (.int .i64 0)), .asg none 7 (.var 0), .asg none 8 (.var 1), .eff none (some 9) (.call { callee := .value (.func 118), args := #[(.tmp 7), (.tmp 8)], argTypes := #[29, 3] }) 26, .asg none 6 (.var 9), .asg none 11 (.op2 (.ibin .neq .i64) (.var 6) (.const (.int .i64 0)))]) <| .seq (.cond (.var 11) (.seq (.reg [.asg none 12 (.var 6), .asg none 4 (.const (.int .u8 0)), .asg none 5 (.var 12)]) <| .ret) (.skip)) (ir67_k0)
def ir67_V : List Nat := [0, 1, 4, 5, 6, 7, 8, 9, 11, 12]
theorem ir67_calls (h : ∀ ρ : Env, ρ 0 = v0 → ρ 1 = v1 → ir67.wp ⟨Tryz.prog, 22, ir67_V, []⟩ (retK [.tmp 4, .tmp 5] R) (ksOf [.tmp 4, .tmp 5] R) ρ w) : Calls Tryz.prog 67 #[v0, v1] w R :=
 calls_irX (raws := []) (ir := ir67) Tryz.func67 rfl (by kernel_rfl) (by kernel_rfl) (by kernel_rfl) (Nat.le_of_ble_eq_true rfl) (h _ rfl rfl)
noncomputable def ir68_k0 : IR := .seq (.reg [.asg none 4 (.op1 .lenS (.op1 .load1 (.op1 (.fadr 4) (.op2 (.ixa 7) (.op1 .load1 (.op1 (.fadr 1) (.op1 .nilc (.var 0)))) (.op2 (.ibin .sub .i64) (.var 1) (.const (.int .i64 1))))))), .asg none 5 (.const (.int .i64 0))]) <| .ret
noncomputable def ir68 : IR := .seq (.reg [.asg none 4 (.const (.int .i64 0)), .asg none 5 (.const (.int .i64 0)), .asg none 7 (.var 0), .asg none 8 (.var 1), .eff none (some 9) (.call { callee := .value (.func 119), args := #[(.tmp 7), (.tmp 8)], argTypes := #[29, 3] }) 26, .asg none 6 (.var 9), .asg none 11 (.op2 (.ibin .neq .i64) (.var 6) (.const (.int .i64 0)))]) <| .seq (.cond (.var 11) (.seq (.reg [.asg none 12 (.var 6), .asg none 4 (.const (.int .i64 0)), .asg none 5 (.var 12)]) <| .ret) (.skip)) (ir68_k0)
def ir68_V : List Nat := [0, 1, 4, 5, 6, 7, 8, 9, 11, 12]
theorem ir68_calls (h : ∀ ρ : Env, ρ 0 = v0 → ρ 1 = v1 → ir68.wp ⟨Tryz.prog, 23, ir68_V, []⟩ (retK [.tmp 4, .tmp 5] R) (ksOf [.tmp 4, .tmp 5] R) ρ w) : Calls Tryz.prog 68 #[v0, v1] w R :=
 calls_irX (raws := []) (ir := ir68) Tryz.func68 rfl (by kernel_rfl) (by kernel_rfl) (by kernel_rfl) (Nat.le_of_ble_eq_true rfl) (h _ rfl rfl)
noncomputable def ir69_k0 : IR := .seq (.reg [.asg none 43 (.op1 .load1 (.op1 (.fadr 4) (.var 10))), .asg none 45 (.op2 (.ibin .sub .i64) (.var 2) (.const (.int .i64 1))), .asg none 46 (.var 3), .asg none 47 (.op2 (.ixa 1) (.var 43) (.var 45)), .eff none none (.store 3 (.tmp 47) (.tmp 46)) 0, .asg none 8 (.const (.int .i64 0))]) <| .ret
noncomputable def ir69_k1 : IR := .seq (.reg [.asg none 34 (.var 0), .asg none 36 (.op1 .load1 (.op1 (.fadr 2) (.var 10))), .asg none 37 (.var 3), .eff none (some 38) (.call { callee := .value (.func 115), args := #[(.tmp 34), (.tmp 36), (.tmp 37)], argTypes := #[29, 5, 3] }) 26, .asg none 9 (.var 38), .asg none 40 (.op2 (.ibin .neq .i64) (.var 9) (.const (.int .i64 0)))]) <| .seq (.cond (.var 40) (.seq (.reg [.asg none 8 (.var 9)]) <| .ret) (.skip)) (ir69_k0)
noncomputable def ir69_k2 : IR := .seq (.reg [.asg none 24 (.op1 (.loadN 7) (.op2 (.ixa 7) (.op1 .load1 (.op1 (.fadr 1) (.op1 .nilc (.var 0)))) (.op2 (.ibin .sub .i64) (.var 1) (.const (.int .i64 1))))), .eff none (some 10) (.alloc 145) 0, .eff none none (.store 145 (.tmp 10) (.tmp 24)) 0, .asg none 33 (.ite (.op2 (.ibin .lss .i64) (.var 2) (.const (.int .i64 1))) (.const (.bool true)) (.op2 (.ibin .gtr .i64) (.var 2) (.op1 .lenS (.op1 .load1 (.op1 (.fadr 4) (.var 10))))))]) <| .seq (.cond (.var 33) (.seq (.reg [.asg none 8 (.const (.int .i64 5))]) <| .ret) (.skip)) (ir69_k1)
noncomputable def ir69 : IR := .seq (.reg [.asg none 8 (.const (.int .i64 0)), .asg none 11 (.var 0), .asg none 12 (.var 1), .eff none (some 13) (.call { callee := .value (.func 119), args := #[(.tmp 11), (.tmp 12)], argTypes := #[29, 3] }) 26, .asg none 9 (.var 13), .asg none 15 (.op2 (.ibin .neq .i64) (.var 9) (.const (.int .i64 0)))]) <| .seq (.cond (.var 15) (.seq (.reg [.asg none 8 (.var 9)]) <| .ret) (.skip)) (ir69_k2)
def ir69_V : List Nat := [0, 1, 2, 3, 8, 9, 10, 11, 12, 13, 15, 24, 33, 34, 36, 37, 38, 40, 43, 45, 46, 47]
theorem ir69_calls (h : ∀ ρ : Env, ρ 0 = v0 → ρ 1 = v1 → ρ 2 = v2 → ρ 3 = v3 → ir69.wp ⟨Tryz.prog, 48, ir69_V, []⟩ (retK [.tmp 8] R) (ksOf [.tmp 8] R) ρ w) : Calls Tryz.prog 69 #[v0, v1, v2, v3] w R :=
 calls_irX (raws := []) (ir := ir69) Tryz.func69 rfl (by kernel_rfl) (by kernel_rfl) (by kernel_rfl) (Nat.le_of_ble_eq_true rfl) (h _ rfl rfl rfl rfl)
noncomputable def ir70_body : Code := ((Tryz.f70.body).getD .skip)
noncomputable def ir70_k0 : IR := .seq (.reg [.asg none 6 (.const (.int .i64 0))]) <| .ret
noncomputable def ir70_k1 : IR := .seq (.reg [.eff none (some 38) (.buildSlice 35 0 #[]) 35, .asg none 40 (.op1 .load1 (.op1 (.fadr 4) (.var 8))), .eff none (some 41) (.call { callee := .builtin .append, args := #[(.tmp 38), (.tmp 40)], argTypes := #[35, 35] }) 35, .asg none 42 (.var 2), .eff none (some 43) (.buildSlice 35 1 #[(0, (.tmp 42))]) 35, .eff none (some 44) (.call { callee := .builtin .append, args := #[(.tmp 41), (.tmp 43)], argTypes := #[35, 35] }) 35, .asg none 45 (.op1 (.fadr 4) (.var 8)), .eff none none (.store 35 (.tmp 45) (.tmp 44)) 0]) <| .seq (.raw (rawReg ir70_body 13)) (ir70_k0)
noncomputable def ir70_k2 : IR := .seq (.reg [.asg none 35 (.var 0), .eff none (some 36) (.call { callee := .value (.func 116), args := #[(.tmp 35), (.const (.int .i64 1))], argTypes := #[29, 3] }) 4, .asg none 37 (.op1 .not (.var 36))]) <| .seq (.cond (.var 37) (.seq (.reg [.asg none 6 (.const (.int .i64 170))]) <| .ret) (.skip)) (ir70_k1)
noncomputable def ir70_k3 : IR := .seq (.reg [.asg none 34 (.op2 (.ibin .geq .i64) (.op1 .lenS (.op1 .load1 (.op1 (.fadr 4) (.var 8)))) (.const (.int .i64 200)))]) <| .seq (.cond (.var 34) (.seq (.reg [.asg none 6 (.const (.int .i64 2))]) <| .ret) (.skip)) (ir70_k2)
noncomputable def ir70_k4 : IR := .seq (.reg [.asg none 22 (.op1 (.loadN 7) (.op2 (.ixa 7) (.op1 .load1 (.op1 (.fadr 1) (.op1 .nilc (.var 0)))) (.op2 (.ibin .sub .i64) (.var 1) (.const (.int .i64 1))))), .eff none (some 8) (.alloc 145) 0, .eff none none (.store 145 (.tmp 8) (.tmp 22)) 0, .asg none 23 (.var 0), .asg none 25 (.op1 .load1 (.op1 (.fadr 2) (.var 8))), .asg none 26 (.var 2), .eff none (some 27) (.call { callee := .value (.func 115), args := #[(.tmp 23), (.tmp 25), (.tmp 26)], argTypes := #[29, 5, 3] }) 26, .asg none 7 (.var 27), .asg none 29 (.op2 (.ibin .neq .i64) (.var 7) (.const (.int .i64 0)))]) <| .seq (.cond (.var 29) (.seq (.reg [.asg none 6 (.var 7)]) <| .ret) (.skip)) (ir70_k3)
noncomputable def ir70 : IR := .seq (.reg [.asg none 6 (.const (.int .i64 0)), .asg none 9 (.var 0), .asg none 10 (.var 1), .eff none (some 11) (.call { callee := .value (.func 119), args := #[(.tmp 9), (.tmp 10)], argTypes := #[29, 3] }) 26, .asg none 7 (.var 11), .asg none 13 (.op2 (.ibin .neq .i64) (.var 7) (.const (.int .i64 0)))]) <| .seq (.cond (.var 13) (.seq (.reg [.asg none 6 (.var 7)]) <| .ret) (.skip)) (ir70_k4)
def ir70_V : List Nat := [0, 1, 2, 6, 7, 8, 9, 10, 11, 13, 22, 23, 25, 26, 27, 29, 34, 35, 36, 37, 38, 40, 41, 42, 43, 44, 45, 46, 47, 48, 49, 50, 51, 52, 53]
theorem ir70_calls (h : ∀ ρ : Env, ρ 0 = v0 → ρ 1 = v1 → ρ 2 = v2 → ir70.wp ⟨Tryz.prog, 54, ir70_V, []⟩ (retK [.tmp 6] R) (ksOf [.tmp 6] R) ρ w) : Calls Tryz.prog 70 #[v0, v1, v2] w R :=
 calls_irX (raws := [13]) (ir := ir70) Tryz.func70 rfl (by kernel_rfl) (by kernel_rfl) (by kernel_rfl) (Nat.le_of_ble_eq_true rfl) (h _ rfl rfl rfl)
noncomputable def ir70_o13 : OT := .take none 46 (.var 0) <| .take none 47 (.op1 .nilc (.var 46)) <| .take none 48 (.op1 (.fadr 1) (.var 47)) <| .take none 49 (.op1 .load1 (.var 48)) <| .take none 50 (.var 1) <| .take none 51 (.op2 (.ibin .sub .i64) (.var 50) (.const (.int .i64 1))) <| .take none 52 (.op1 (.loadN 7) (.var 8)) <| .step (.asg none 53 (.op2 (.ixa 7) (.var 49) (.var 51))) false <| .step (.eff none none (.store 145 (.tmp 53) (.tmp 52)) 0) false <| .done
theorem ir70_o13_ok : ordOf Tryz.prog 54 ir70_V 7 (rawReg ir70_body 13) = some ir70_o13 := by kernel_rfl
noncomputable def ir71_body : Code := ((Tryz.f71.body).getD .skip)
noncomputable def ir71_k0 : IR := .seq (.reg [.asg none 4 (.var 9), .asg none 5 (.const (.int .i64 0))]) <| .ret
noncomputable def ir71_k1 : IR := .seq (.reg [.asg none 9 (.op1 .load1 (.op2 (.ixa 1) (.op1 .load1 (.op1 (.fadr 4) (.var 7))) (.op2 (.ibin .sub .i64) (.var 8) (.const (.int .i64 1))))), .eff none (some 35) (.buildSlice 35 0 #[]) 35, .asg none 40 (.op3 (.slLoHi 1) (.op1 .load1 (.op1 (.fadr 4) (.var 7))) (.const (.int .i64 0)) (.op2 (.ibin .sub .i64) (.var 8) (.const (.int .i64 1)))), .eff none (some 41) (.call { callee := .builtin .append, args := #[(.tmp 35), (.tmp 40)], argTypes := #[35, 35] }) 35, .asg none 42 (.op1 (.fadr 4) (.var 7)), .eff none none (.store 35 (.tmp 42) (.tmp 41)) 0]) <| .seq (.raw (rawReg ir71_body 10)) (ir71_k0)
noncomputable def ir71_k2 : IR := .seq (.reg [.asg none 23 (.op1 (.loadN 7) (.op2 (.ixa 7) (.op1 .load1 (.op1 (.fadr 1) (.op1 .nilc (.var 0)))) (.op2 (.ibin .sub .i64) (.var 1) (.const (.int .i64 1))))), .eff none (some 7) (.alloc 145) 0, .eff none none (.store 145 (.tmp 7) (.tmp 23)) 0, .asg none 8 (.op1 .lenS (.op1 .load1 (.op1 (.fadr 4) (.var 7)))), .asg none 28 (.op2 (.ibin .eql .i64) (.var 8) (.const (.int .i64 0)))]) <| .seq (.cond (.var 28) (.seq (.reg [.asg none 4 (.const (.int .i64 0)), .asg none 5 (.const (.int .i64 5))]) <| .ret) (.skip)) (ir71_k1)
noncomputable def ir71 : IR := .seq (.reg [.asg none 4 (.const (.int .i64 0)), .asg none 5 (.const (.int .i64 0)), .asg none 10 (.var 0), .asg none 11 (.var 1), .eff none (some 12) (.call { callee := .value (.func 119), args := #[(.tmp 10), (.tmp 11)], argTypes := #[29, 3] }) 26, .asg none 6 (.var 12), .asg none 14 (.op2 (.ibin .neq .i64) (.var 6) (.const (.int .i64 0)))]) <| .seq (.cond (.var 14) (.seq (.reg [.asg none 15 (.var 6), .asg none 4 (.const (.int .i64 0)), .asg none 5 (.var 15)]) <| .ret) (.skip)) (ir71_k2)
def ir71_V : List Nat := [0, 1, 4, 5, 6, 7, 8, 9, 10, 11, 12, 14, 15, 23, 28, 35, 40, 41, 42, 43, 44, 45, 46, 47, 48, 49, 50]
theorem ir71_calls (h : ∀ ρ : Env, ρ 0 = v0 → ρ 1 = v1 → ir71.wp ⟨Tryz.prog, 52, ir71_V, []⟩ (retK [.tmp 4, .tmp 5] R) (ksOf [.tmp 4, .tmp 5] R) ρ w) : Calls Tryz.prog 71 #[v0, v1] w R :=
 calls_irX (raws := [10]) (ir := ir71) Tryz.func71 rfl (by kernel_rfl) (by kernel_rfl) (by kernel_rfl) (Nat.le_of_ble_eq_true rfl) (h _ rfl rfl)
noncomputable def ir71_o10 : OT := .take none 43 (.var 0) <| .take none 44 (.op1 .nilc (.var 43)) <| .take none 45 (.op1 (.fadr 1) (.var 44)) <| .take none 46 (.op1 .load1 (.var 45)) <| .take none 47 (.var 1) <| .take none 48 (.op2 (.ibin .sub .i64) (.var 47) (.const (.int .i64 1))) <| .take none 49 (.op1 (.loadN 7) (.var 7)) <| .step (.asg none 50 (.op2 (.ixa 7) (.var 46) (.var 48))) false <| .step (.eff none none (.store 145 (.tmp 50) (.tmp 49)) 0) false <| .done
theorem ir71_o10_ok : ordOf Tryz.prog 52 ir71_V 7 (rawReg ir71_body 10) = some ir71_o10 := by kernel_rfl
noncomputable def ir72_k0 : IR := .seq (.reg [.asg none 6 (.op1 .load1 (.op2 (.ixa 1) (.op1 .load1 (.op1 (.fadr 4) (.var 9))) (.op2 (.ibin .sub .i64) (.var 2) (.const (.int .i64 1))))), .asg none 7 (.const (.int .i64 0))]) <| .ret
noncomputable def ir72_k1 : IR := .seq (.reg [.asg none 23 (.op1 (.loadN 7) (.op2 (.ixa 7) (.op1 .load1 (.op1 (.fadr 1) (.op1 .nilc (.var 0)))) (.op2 (.ibin .sub .i64) (.var 1) (.const (.int .i64 1))))), .eff none (some 9) (.alloc 145) 0, .eff none none (.store 145 (.tmp 9) (.tmp 23)) 0, .asg none 32 (.ite (.op2 (.ibin .lss .i64) (.var 2) (.const (.int .i64 1))) (.const (.bool true)) (.op2 (.ibin .gtr .i64) (.var 2) (.op1 .lenS (.op1 .load1 (.op1 (.fadr 4) (.var 9))))))]) <| .seq (.cond (.var 32) (.seq (.reg [.asg none 6 (.const (.int .i64 0)), .asg none 7 (.const (.int .i64 5))]) <| .ret) (.skip)) (ir72_k0)
noncomputable def ir72 : IR := .seq (.reg [.asg none 6 (.const (.int .i64 0)), .asg none 7 (.const (.int .i64 0)), .asg none 10 (.var 0), .asg none 11 (.var 1), .eff none (some 12) (.call { callee := .value (.func 119), args := #[(.tmp 10), (.tmp 11)], argTypes := #[29, 3] }) 26, .asg none 8 (.var 12), .asg none 14 (.op2 (.ibin .neq .i64) (.var 8) (.const (.int .i64 0)))]) <| .seq (.cond (.var 14) (.seq (.reg [.asg none 15 (.var 8), .asg none 6 (.const (.int .i64 0)), .asg none 7 (.var 15)]) <| .ret) (.skip)) (ir72_k1)
def ir72_V : List Nat := [0, 1, 2, 6, 7, 8, 9, 10, 11, 12, 14, 15, 23, 32]
theorem ir72_calls (h : ∀ ρ : Env, ρ 0 = v0 → ρ 1 = v1 → ρ 2 = v2 → ir72.wp ⟨Tryz.prog, 39, ir72_V, []⟩ (retK [.tmp 6, .tmp 7] R) (ksOf [.tmp 6, .tmp 7] R) ρ w) : Calls Tryz.prog 72 #[v0, v1, v2] w R :=
 calls_irX (raws := []) (ir := ir72) Tryz.func72 rfl (by kernel_rfl) (by kernel_rfl) (by kernel_rfl) (Nat.le_of_ble_eq_true rfl) (h _ rfl rfl rfl)
noncomputable def ir73_k0 : IR := .reg [.asg none 9 (.op2 (.ibin .add .i64) (.var 9) (.const (.int .i64 1)))]
noncomputable def ir73_k1 : IR := .seq (.block 1 (.seq (.reg [.asg none 28 (.op1 .load1 (.op2 (.ixa 1) (.var 7) (.var 9)))]) <| .cond (.var 28) (.reg [.asg none 29 (.var 8), .asg none 30 (.var 9), .eff none (some 31) (.buildSlice 35 1 #[(0, (.tmp 30))]) 35, .eff none (some 32) (.call { callee := .builtin .append, args := #[(.tmp 29), (.tmp 31)], argTypes := #[35, 35] }) 35, .asg none 8 (.var 32)]) (.skip))) (ir73_k0)
noncomputable def ir73_l2 : IR := .seq (.reg [.asg none 22 (.op2 (.ibin .lss .i64) (.var 9) (.op1 .lenS (.var 7)))]) <| .seq (.cond (.var 22) (.skip) (.exit 0)) (ir73_k1)
noncomputable def ir73_k3 : IR := .seq (.reg [.asg none 4 (.var 8), .asg none 5 (.const (.int .i64 0))]) <| .ret
noncomputable def ir73_k4 : IR := .seq (.reg [.asg none 16 (.var 0), .asg none 17 (.var 1), .eff none (some 18) (.call { callee := .value (.func 121), args := #[(.tmp 16), (.tmp 17)], argTypes := #[29, 35] }) 143, .asg none 7 (.var 18), .asg none 8 (.const (.slice none 0 0)), .asg none 9 (.const (.int .i64 1))]) <| .seq (.block 0 (.loop ir73_l2)) (ir73_k3)
noncomputable def ir73 : IR := .seq (.reg [.asg none 4 (.const (.slice none 0 0)), .asg none 5 (.const (.int .i64 0)), .asg none 10 (.var 0), .asg none 11 (.var 1), .eff none (some 12) (.call { callee := .value (.func 120), args := #[(.tmp 10), (.tmp 11)], argTypes := #[29, 35] }) 26, .asg none 6 (.var 12), .asg none 14 (.op2 (.ibin .neq .i64) (.var 6) (.const (.int .i64 0)))]) <| .seq (.cond (.var 14) (.seq (.reg [.asg none 15 (.var 6), .asg none 4 (.const (.slice none 0 0)), .asg none 5 (.var 15)]) <| .ret) (.skip)) (ir73_k4)
def ir73_V : List Nat := [0, 1, 4, 5, 6, 7, 8, 9, 10, 11, 12, 14, 15, 16, 17, 18, 22, 28, 29, 30, 31, 32]
theorem ir73_calls (h : ∀ ρ : Env, ρ 0 = v0 → ρ 1 = v1 → ir73.wp ⟨Tryz.prog, 34, ir73_V, []⟩ (retK [.tmp 4, .tmp 5] R) (ksOf [.tmp 4, .tmp 5] R) ρ w) : Calls Tryz.prog 73 #[v0, v1] w R :=
 calls_irX (raws := []) (ir := ir73) Tryz.func73 rfl (by kernel_rfl) (by kernel_rfl) (by kernel_rfl) (Nat.le_of_ble_eq_true rfl) (h _ rfl rfl)
noncomputable def ir74_k0 : IR := .seq (.reg [.asg none 28 (.op1 (.fadr 6) (.op2 (.ixa 7) (.op1 .load1 (.op1 (.fadr 1) (.op1 .nilc (.var 0)))) (.op2 (.ibin .sub .i64) (.var 1) (.const (.int .i64 1))))), .eff none none (.store 4 (.tmp 28) (.const (.bool true))) 0, .asg none 4 (.const (.int .i64 0))]) <| .ret
noncomputable def ir74_k1 : IR := .seq (.reg [.asg none 20 (.op1 .load1 (.op1 (.fadr 6) (.op2 (.ixa 7) (.op1 .load1 (.op1 (.fadr 1) (.op1 .nilc (.var 0)))) (.op2 (.ibin .sub .i64) (.var 1) (.const (.int .i64 1))))))]) <| .seq (.cond (.var 20) (.seq (.reg [.asg none 4 (.const (.int .i64 6))]) <| .ret) (.skip)) (ir74_k0)
noncomputable def ir74 : IR := .seq (.reg [.asg none 4 (.const (.int .i64 0)), .asg none 6 (.var 0), .asg none 7 (.var 1), .eff none (some 8) (.call { callee := .value (.func 118), args := #[(.tmp 6), (.tmp 7)], argTypes := #[29, 3] }) 26, .asg none 5 (.var 8), .asg none 10 (.op2 (.ibin .neq .i64) (.var 5) (.const (.int .i64 0)))]) <| .seq (.cond (.var 10) (.seq (.reg [.asg none 4 (.var 5)]) <| .ret) (.skip)) (ir74_k1)
def ir74_V : List Nat := [0, 1, 4, 5, 6, 7, 8, 10, 20, 28]
theorem ir74_calls (h : ∀ ρ : Env, ρ 0 = v0 → ρ 1 = v1 → ir74.wp ⟨Tryz.prog, 29, ir74_V, []⟩ (retK [.tmp 4] R) (ksOf [.tmp 4] R) ρ w) : Calls Tryz.prog 74 #[v0, v1] w R :=
 calls_irX (raws := []) (ir := ir74) Tryz.func74 rfl (by kernel_rfl) (by kernel_rfl) (by kernel_rfl) (Nat.le_of_ble_eq_true rfl) (h _ rfl rfl)
noncomputable def ir75_k0 : IR := .reg [.asg none 5 (.op2 (.ibin .add .i64) (.var 5) (.const (.int .i64 1)))]
noncomputable def ir75_k1 : IR := .seq (.block 3 (.seq (.reg [.asg none 32 (.op2 (.ibin .eql .i64) (.op1 .load1 (.op2 (.ixa 1) (.op1 .load1 (.op1 (.fadr 5) (.op1 .nilc (.var 0)))) (.var 5))) (.var 4))]) <| .cond (.var 32) (.reg [.asg none 33 (.var 3), .asg none 34 (.var 4), .eff none (some 35) (.buildSlice 35 1 #[(0, (.tmp 34))]) 35, .eff none (some 36) (.call { callee := .builtin .append, args := #[(.tmp 33), (.tmp 35)], argTypes := #[35, 35] }) 35, .asg none 3 (.var 36)]) (.skip))) (ir75_k0)
noncomputable def ir75_l2 : IR := .seq (.reg [.asg none 21 (.op2 (.ibin .lss .i64) (.var 5) (.op1 .lenS (.op1 .load1 (.op1 (.fadr 5) (.op1 .nilc (.var 0))))))]) <| .seq (.cond (.var 21) (.skip) (.exit 2)) (ir75_k1)
noncomputable def ir75_k3 : IR := .reg [.asg none 4 (.op2 (.ibin .add .i64) (.var 4) (.const (.int .i64 1)))]
noncomputable def ir75_k4 : IR := .seq (.block 1 (.seq (.reg [.asg none 5 (.const (.int .i64 0))]) <| .block 2 (.loop ir75_l2))) (ir75_k3)
noncomputable def ir75_l5 : IR := .seq (.reg [.asg none 12 (.op2 (.ibin .leq .i64) (.var 4) (.op1 .lenS (.op1 .load1 (.op1 (.fadr 1) (.op1 .nilc (.var 0))))))]) <| .seq (.cond (.var 12) (.skip) (.exit 0)) (ir75_k4)
noncomputable def ir75_k6 : IR := .seq (.reg [.asg none 39 (.op1 (.fadr 5) (.op1 .nilc (.var 0))), .eff none none (.store 35 (.tmp 39) (.const (.slice none 0 0))) 0, .asg none 2 (.var 3)]) <| .ret
noncomputable def ir75 : IR := .seq (.reg [.asg none 2 (.const (.slice none 0 0)), .asg none 3 (.const (.slice none 0 0)), .asg none 4 (.const (.int .i64 1))]) <| .seq (.block 0 (.loop ir75_l5)) (ir75_k6)
def ir75_V : List Nat := [0, 2, 3, 4, 5, 12, 21, 32, 33, 34, 35, 36, 39]
theorem ir75_calls (h : ∀ ρ : Env, ρ 0 = v0 → ir75.wp ⟨Tryz.prog, 41, ir75_V, []⟩ (retK [.tmp 2] R) (ksOf [.tmp 2] R) ρ w) : Calls Tryz.prog 75 #[v0] w R :=
 calls_irX (raws := []) (ir := ir75) Tryz.func75 rfl (by kernel_rfl) (by kernel_rfl) (by kernel_rfl) (Nat.le_of_ble_eq_true rfl) (h _ rfl)
noncomputable def ir76_k0 : IR := .reg [.asg none 8 (.op2 (.ibin .add .i64) (.var 8) (.const (.int .i64 1)))]
noncomputable def ir76_k1 : IR := .seq (.block 1 (.seq (.reg [.asg none 35 (.var 0), .asg none 36 (.var 8), .eff none (some 37) (.call { callee := .value (.func 81), args := #[(.tmp 35), (.tmp 36)], argTypes := #[29, 3] }) 4, .asg none 38 (.var 37), .asg (some (38, true)) 39 (.var 0), .asg (some (38, true)) 40 (.var 8), .eff (some (38, true)) (some 41) (.call { callee := .value (.func 82), args := #[(.tmp 39), (.tmp 40)], argTypes := #[29, 3] }) 4, .asg none 43 (.ite (.var 38) (.op1 .not (.var 41)) (.const (.bool false)))]) <| .cond (.var 43) (.reg [.asg none 44 (.var 7), .asg none 45 (.var 8), .eff none (some 46) (.buildSlice 35 1 #[(0, (.tmp 45))]) 35, .eff none (some 47) (.call { callee := .builtin .append, args := #[(.tmp 44), (.tmp 46)], argTypes := #[35, 35] }) 35, .asg none 7 (.var 47)]) (.skip))) (ir76_k0)
noncomputable def ir76_l2 : IR := .seq (.reg [.asg none 32 (.op2 (.ibin .leq .i64) (.var 8) (.op1 .lenS (.op1 .load1 (.op1 (.fadr 1) (.op1 .nilc (.var 0))))))]) <| .seq (.cond (.var 32) (.skip) (.exit 0)) (ir76_k1)
noncomputable def ir76_k3 : IR := .reg [.asg none 81 (.var 0), .asg none 82 (.var 11), .eff none (some 83) (.call { callee := .value (.func 122), args := #[(.tmp 81), (.tmp 82)], argTypes := #[29, 3] }) 0, .asg none 10 (.op2 (.ibin .add .i64) (.var 10) (.const (.int .i64 1)))]
noncomputable def ir76_k4 : IR := .seq (.reg [.asg none 68 (.op1 .load1 (.op2 (.ixa 1) (.var 9) (.var 11)))]) <| .seq (.cond (.var 68) (.seq (.reg [.asg none 72 (.op1 .load1 (.op1 (.fadr 1) (.op1 .nilc (.var 0)))), .asg none 74 (.op2 (.ibin .sub .i64) (.var 11) (.const (.int .i64 1))), .asg none 78 (.op2 (.ibin .add .i64) (.op1 .load1 (.op1 (.fadr 5) (.op2 (.ixa 7) (.var 72) (.var 74)))) (.const (.int .i64 1))), .asg none 80 (.op1 (.fadr 5) (.op2 (.ixa 7) (.var 72) (.var 74))), .eff none none (.store 3 (.tmp 80) (.tmp 78)) 0]) <| .exit 3) (.skip)) (ir76_k3)
noncomputable def ir76_k5 : IR := .reg [.asg none 11 (.op2 (.ibin .add .i64) (.var 11) (.const (.int .i64 1)))]
noncomputable def ir76_k6 : IR := .seq (.block 3 (.seq (.reg [.asg none 60 (.var 0), .asg none 61 (.var 11), .eff none (some 62) (.call { callee := .value (.func 81), args := #[(.tmp 60), (.tmp 61)], argTypes := #[29, 3] }) 4, .asg none 12 (.var 62), .asg none 64 (.op1 .not (.var 12))]) <| .seq (.cond (.var 64) (.exit 3) (.skip)) (ir76_k4))) (ir76_k5)
noncomputable def ir76_l7 : IR := .seq (.reg [.asg none 57 (.op2 (.ibin .leq .i64) (.var 11) (.op1 .lenS (.op1 .load1 (.op1 (.fadr 1) (.op1 .nilc (.var 0))))))]) <| .seq (.cond (.var 57) (.skip) (.exit 2)) (ir76_k6)
noncomputable def ir76_k8 : IR := .seq (.reg [.asg none 4 (.var 10), .asg none 5 (.const (.int .i64 0))]) <| .ret
noncomputable def ir76_k9 : IR := .seq (.reg [.asg none 48 (.var 0), .asg none 49 (.var 7), .eff none (some 50) (.call { callee := .value (.func 121), args := #[(.tmp 48), (.tmp 49)], argTypes := #[29, 35] }) 143, .asg none 9 (.var 50), .asg none 10 (.const (.int .i64 0)), .asg none 11 (.const (.int .i64 1))]) <| .seq (.block 2 (.loop ir76_l7)) (ir76_k8)
noncomputable def ir76_k10 : IR := .seq (.reg [.eff none (some 23) (.buildSlice 35 0 #[]) 35, .asg none 24 (.var 1), .eff none (some 25) (.call { callee := .builtin .append, args := #[(.tmp 23), (.tmp 24)], argTypes := #[35, 35] }) 35, .asg none 7 (.var 25), .asg none 8 (.const (.int .i64 1))]) <| .seq (.block 0 (.loop ir76_l2)) (ir76_k9)
noncomputable def ir76_k11 : IR := .seq (.reg [.asg none 17 (.var 0), .asg none 18 (.var 1), .eff none (some 19) (.call { callee := .value (.func 120), args := #[(.tmp 17), (.tmp 18)], argTypes := #[29, 35] }) 26, .asg none 6 (.var 19), .asg none 21 (.op2 (.ibin .neq .i64) (.var 6) (.const (.int .i64 0)))]) <| .seq (.cond (.var 21) (.seq (.reg [.asg none 22 (.var 6), .asg none 4 (.const (.int .i64 0)), .asg none 5 (.var 22)]) <| .ret) (.skip)) (ir76_k10)
noncomputable def ir76 : IR := .seq (.reg [.asg none 4 (.const (.int .i64 0)), .asg none 5 (.const (.int .i64 0)), .asg none 16 (.op1 .load1 (.op1 (.fadr 2) (.op1 .nilc (.var 0))))]) <| .seq (.cond (.var 16) (.seq (.reg [.asg none 4 (.const (.int .i64 0)), .asg none 5 (.const (.int .i64 8))]) <| .ret) (.skip)) (ir76_k11)
def ir76_V : List Nat := [0, 1, 4, 5, 6, 7, 8, 9, 10, 11, 12, 16, 17, 18, 19, 21, 22, 23, 24, 25, 32, 35, 36, 37, 38, 39, 40, 41, 43, 44, 45, 46, 47, 48, 49, 50, 57, 60, 61, 62, 64, 68, 72, 74, 78, 80, 81, 82, 83]
theorem ir76_calls (h : ∀ ρ : Env, ρ 0 = v0 → ρ 1 = v1 → ir76.wp ⟨Tryz.prog, 87, ir76_V, []⟩ (retK [.tmp 4, .tmp 5] R) (ksOf [.tmp 4, .tmp 5] R) ρ w) : Calls Tryz.prog 76 #[v0, v1] w R :=
 calls_irX (raws := []) (ir := ir76) Tryz.func76 rfl (by kernel_rfl) (by kernel_rfl) (by kernel_rfl) (Nat.le_of_ble_eq_true rfl) (h _ rfl rfl)
noncomputable def ir77_k0 : IR := .reg [.asg none 7 (.op2 (.ibin .add .i64) (.var 7) (.const (.int .i64 1)))]
noncomputable def ir77_k1 : IR := .seq (.block 1 (.seq (.reg [.asg none 33 (.var 0), .asg none 34 (.var 7), .eff none (some 35) (.call { callee := .value (.func 81), args := #[(.tmp 33), (.tmp 34)], argTypes := #[29, 3] }) 4, .asg none 42 (.ite (.var 35) (.op1 .not (.op1 .load1 (.op2 (.ixa 1) (.var 6) (.var 7)))) (.const (.bool false)))]) <| .cond (.var 42) (.reg [.asg none 43 (.var 0), .asg none 47 (.op1 .load1 (.op1 (.fadr 3) (.op1 .nilc (.var 0)))), .asg none 48 (.var 7), .eff none (some 49) (.buildSlice 35 1 #[(0, (.tmp 48))]) 35, .eff none (some 50) (.call { callee := .builtin .append, args := #[(.tmp 47), (.tmp 49)], argTypes := #[35, 35] }) 35, .asg none 52 (.op1 (.fadr 3) (.op1 .nilc (.var 43))), .eff none none (.store 35 (.tmp 52) (.tmp 50)) 0]) (.skip))) (ir77_k0)
noncomputable def ir77_l2 : IR := .seq (.reg [.asg none 30 (.op2 (.ibin .leq .i64) (.var 7) (.op1 .lenS (.op1 .load1 (.op1 (.fadr 1) (.op1 .nilc (.var 0))))))]) <| .seq (.cond (.var 30) (.skip) (.exit 0)) (ir77_k1)
noncomputable def ir77_k3 : IR := .seq (.reg [.asg none 55 (.op1 (.fadr 2) (.op1 .nilc (.var 0))), .eff none none (.store 4 (.tmp 55) (.const (.bool true))) 0, .asg none 56 (.var 0), .asg none 57 (.var 0), .eff none (some 58) (.call { callee := .value (.func 80), args := #[(.tmp 57)], argTypes := #[29] }) 3, .asg none 59 (.op2 (.ibin .add .i64) (.var 58) (.const (.int .i64 1))), .asg none 61 (.op1 (.fadr 4) (.op1 .nilc (.var 56))), .eff none none (.store 3 (.tmp 61) (.tmp 59)) 0, .asg none 4 (.const (.int .i64 0))]) <| .ret
noncomputable def ir77_k4 : IR := .seq (.reg [.asg none 18 (.var 0), .asg none 19 (.var 1), .eff none (some 20) (.call { callee := .value (.func 121), args := #[(.tmp 18), (.tmp 19)], argTypes := #[29, 35] }) 143, .asg none 6 (.var 20), .asg none 23 (.op1 (.fadr 3) (.op1 .nilc (.var 0))), .eff none none (.store 35 (.tmp 23) (.const (.slice none 0 0))) 0, .asg none 7 (.const (.int .i64 1))]) <| .seq (.block 0 (.loop ir77_l2)) (ir77_k3)
noncomputable def ir77_k5 : IR := .seq (.reg [.asg none 12 (.var 0), .asg none 13 (.var 1), .eff none (some 14) (.call { callee := .value (.func 120), args := #[(.tmp 12), (.tmp 13)], argTypes := #[29, 35] }) 26, .asg none 5 (.var 14), .asg none 16 (.op2 (.ibin .neq .i64) (.var 5) (.const (.int .i64 0)))]) <| .seq (.cond (.var 16) (.seq (.reg [.asg none 4 (.var 5)]) <| .ret) (.skip)) (ir77_k4)
noncomputable def ir77 : IR := .seq (.reg [.asg none 4 (.const (.int .i64 0)), .asg none 11 (.op1 .load1 (.op1 (.fadr 2) (.op1 .nilc (.var 0))))]) <| .seq (.cond (.var 11) (.seq (.reg [.asg none 4 (.const (.int .i64 8))]) <| .ret) (.skip)) (ir77_k5)
def ir77_V : List Nat := [0, 1, 4, 5, 6, 7, 11, 12, 13, 14, 16, 18, 19, 20, 23, 30, 33, 34, 35, 42, 43, 47, 48, 49, 50, 52, 55, 56, 57, 58, 59, 61]
theorem ir77_calls (h : ∀ ρ : Env, ρ 0 = v0 → ρ 1 = v1 → ir77.wp ⟨Tryz.prog, 62, ir77_V, []⟩ (retK [.tmp 4] R) (ksOf [.tmp 4] R) ρ w) : Calls Tryz.prog 77 #[v0, v1] w R :=
 calls_irX (raws := []) (ir := ir77) Tryz.func77 rfl (by kernel_rfl) (by kernel_rfl) (by kernel_rfl) (Nat.le_of_ble_eq_true rfl) (h _ rfl rfl)
noncomputable def ir80_k0 : IR := .reg [.asg none 4 (.op2 (.ibin .add .i64) (.var 4) (.const (.int .i64 1)))]
noncomputable def ir80_k1 : IR := .seq (.block 1 (.seq (.reg [.asg none 21 (.op1 .load1 (.op1 (.fadr 0) (.op2 (.ixa 7) (.op1 .load1 (.op1 (.fadr 1) (.op1 .nilc (.var 0)))) (.var 4))))]) <| .cond (.var 21) (.reg [.asg none 3 (.op2 (.ibin .add .i64) (.op2 (.ibin .add .i64) (.var 3) (.const (.int .i64 2))) (.op1 .lenS (.op1 .load1 (.op1 (.fadr 4) (.op2 (.ixa 7) (.op1 .load1 (.op1 (.fadr 1) (.op1 .nilc (.var 0)))) (.var 4))))))]) (.skip))) (ir80_k0)
noncomputable def ir80_l2 : IR := .seq (.reg [.asg none 11 (.op2 (.ibin .lss .i64) (.var 4) (.op1 .lenS (.op1 .load1 (.op1 (.fadr 1) (.op1 .nilc (.var 0))))))]) <| .seq (.cond (.var 11) (.skip) (.exit 0)) (ir80_k1)
noncomputable def ir80_k3 : IR := .seq (.reg [.asg none 2 (.var 3)]) <| .ret
noncomputable def ir80 : IR := .seq (.reg [.asg none 2 (.const (.int .i64 0)), .asg none 3 (.const (.int .i64 0)), .asg none 4 (.const (.int .i64 0))]) <| .seq (.block 0 (.loop ir80_l2)) (ir80_k3)
def ir80_V : List Nat := [0, 2, 3, 4, 11, 21]
theorem ir80_calls (h : ∀ ρ : Env, ρ 0 = v0 → ir80.wp ⟨Tryz.prog, 35, ir80_V, []⟩ (retK [.tmp 2] R) (ksOf [.tmp 2] R) ρ w) : Calls Tryz.prog 80 #[v0] w R :=
 calls_irX (raws := []) (ir := ir80) Tryz.func80 rfl (by kernel_rfl) (by kernel_rfl) (by kernel_rfl) (Nat.le_of_ble_eq_true rfl) (h _ rfl)
noncomputable def ir81 : IR := .seq (.reg [.asg none 4 (.const (.bool false)), .asg none 4 (.ite (.ite (.op2 (.ibin .geq .i64) (.var 1) (.const (.int .i64 1))) (.op2 (.ibin .leq .i64) (.var 1) (.op1 .lenS (.op1 .load1 (.op1 (.fadr 1) (.op1 .nilc (.var 0)))))) (.const (.bool false))) (.op1 .load1 (.op1 (.fadr 0) (.op2 (.ixa 7) (.op1 .load1 (.op1 (.fadr 1) (.op1 .nilc (.var 0)))) (.op2 (.ibin .sub .i64) (.var 1) (.const (.int .i64 1)))))) (.const (.bool false)))]) <| .ret
def ir81_V : List Nat := [0, 1, 4]
theorem ir81_calls (h : ∀ ρ : Env, ρ 0 = v0 → ρ 1 = v1 → ir81.wp ⟨Tryz.prog, 27, ir81_V, []⟩ (retK [.tmp 4] R) (ksOf [.tmp 4] R) ρ w) : Calls Tryz.prog 81 #[v0, v1] w R :=
 calls_irX (raws := []) (ir := ir81) Tryz.func81 rfl (by kernel_rfl) (by kernel_rfl) (by kernel_rfl) (Nat.le_of_ble_eq_true rfl) (h _ rfl rfl)
noncomputable def ir82 : IR := .seq (.reg [.asg none 4 (.const (.bool false)), .asg none 6 (.var 0), .asg none 7 (.var 1), .eff none (some 8) (.call { callee := .value (.func 81), args := #[(.tmp 6), (.tmp 7)], argTypes := #[29, 3] }) 4, .asg none 5 (.var 8), .asg none 4 (.ite (.var 5) (.op2 (.ibin .lss .i64) (.op1 .load1 (.op1 (.fadr 5) (.op2 (.ixa 7) (.op1 .load1 (.op1 (.fadr 1) (.op1 .nilc (.var 0)))) (.op2 (.ibin .sub .i64) (.var 1) (.const (.int .i64 1)))))) (.const (.int .i64 2))) (.const (.bool false)))]) <| .ret
def ir82_V : List Nat := [0, 1, 4, 5, 6, 7, 8]
theorem ir82_calls (h : ∀ ρ : Env, ρ 0 = v0 → ρ 1 = v1 → ir82.wp ⟨Tryz.prog, 22, ir82_V, []⟩ (retK [.tmp 4] R) (ksOf [.tmp 4] R) ρ w) : Calls Tryz.prog 82 #[v0, v1] w R :=
 calls_irX (raws := []) (ir := ir82) Tryz.func82 rfl (by kernel_rfl) (by kernel_rfl) (by kernel_rfl) (Nat.le_of_ble_eq_true rfl) (h _ rfl rfl)
noncomputable def ir115_k0 : IR := .seq (.reg [.asg none 6 (.const (.int .i64 0))]) <| .ret
noncomputable def ir115_k1 : IR := .seq (.reg [.asg none 22 (.ite (.op2 (.ibin .eql .u8) (.var 1) (.const (.int .u8 2))) (.op2 (.ibin .neq .i64) (.var 2) (.const (.int .i64 0))) (.const (.bool false)))]) <| .seq (.cond (.var 22) (.seq (.reg [.asg none 23 (.var 0), .asg none 24 (.var 2), .eff none (some 25) (.call { callee := .value (.func 118), args := #[(.tmp 23), (.tmp 24)], argTypes := #[29, 3] }) 26, .asg none 6 (.var 25)]) <| .ret) (.skip)) (ir115_k0)
noncomputable def ir115 : IR := .seq (.reg [.asg none 6 (.const (.int .i64 0)), .asg none 16 (.ite (.op2 (.ibin .eql .u8) (.var 1) (.const (.int .u8 1))) (.ite (.op2 (.ibin .lss .i64) (.var 2) (.const (.int .i64 (-1000000000)))) (.const (.bool true)) (.op2 (.ibin .gtr .i64) (.var 2) (.const (.int .i64 1000000000)))) (.const (.bool false)))]) <| .seq (.cond (.var 16) (.seq (.reg [.asg none 6 (.const (.int .i64 1))]) <| .ret) (.skip)) (ir115_k1)
def ir115_V : List Nat := [0, 1, 2, 6, 16, 22, 23, 24, 25]
theorem ir115_calls (h : ∀ ρ : Env, ρ 0 = v0 → ρ 1 = v1 → ρ 2 = v2 → ir115.wp ⟨Tryz.prog, 26, ir115_V, []⟩ (retK [.tmp 6] R) (ksOf [.tmp 6] R) ρ w) : Calls Tryz.prog 115 #[v0, v1, v2] w R :=
 calls_irX (raws := []) (ir := ir115) Tryz.func115 rfl (by kernel_rfl) (by kernel_rfl) (by kernel_rfl) (Nat.le_of_ble_eq_true rfl) (h _ rfl rfl rfl)
noncomputable def ir116_k0 : IR := .seq (.reg [.asg none 4 (.const (.bool true))]) <| .ret
noncomputable def ir116_k1 : IR := .seq (.reg [.asg none 17 (.op1 .load1 (.op1 (.fadr 2) (.op1 .nilc (.var 0))))]) <| .seq (.cond (.var 17) (.reg [.asg none 18 (.var 0), .asg none 24 (.op2 (.ibin .add .i64) (.op1 .load1 (.op1 (.fadr 4) (.op1 .nilc (.var 0)))) (.var 1)), .asg none 26 (.op1 (.fadr 4) (.op1 .nilc (.var 18))), .eff none none (.store 3 (.tmp 26) (.tmp 24)) 0]) (.skip)) (ir116_k0)
noncomputable def ir116_k2 : IR := .seq (.cond (.var 13) (.seq (.reg [.asg none 4 (.const (.bool false))]) <| .ret) (.skip)) (ir116_k1)
noncomputable def ir116 : IR := .seq (.reg [.asg none 4 (.const (.bool false))]) <| .seq (.drw [.asg none 5 (.var 0), .eff none (some 6) (.call { callee := .value (.func 80), args := #[(.tmp 5)], argTypes := #[29] }) 3, .asg none 13 (.op2 (.ibin .gtr .i64) (.op2 (.ibin .add .i64) (.var 6) (.var 1)) (.op1 .load1 (.op1 (.fadr 0) (.op1 .nilc (.var 0)))))]) (ir116_k2)
def ir116_V : List Nat := [0, 1, 4, 5, 6, 13, 17, 18, 24, 26]
theorem ir116_calls (h : ∀ ρ : Env, ρ 0 = v0 → ρ 1 = v1 → ir116.wp ⟨Tryz.prog, 27, ir116_V, []⟩ (retK [.tmp 4] R) (ksOf [.tmp 4] R) ρ w) : Calls Tryz.prog 116 #[v0, v1] w R :=
 calls_irX (raws := []) (ir := ir116) Tryz.func116 rfl (by kernel_rfl) (by kernel_rfl) (by kernel_rfl) (Nat.le_of_ble_eq_true rfl) (h _ rfl rfl)
noncomputable def ir117_k0 : IR := .seq (.reg [.asg none 6 (.const (.int .i64 0))]) <| .ret
noncomputable def ir117_k1 : IR := .seq (.reg [.asg none 22 (.op1 (.loadN 7) (.op2 (.ixa 7) (.op1 .load1 (.op1 (.fadr 1) (.op1 .nilc (.var 0)))) (.op2 (.ibin .sub .i64) (.var 1) (.const (.int .i64 1))))), .eff none (some 8) (.alloc 145) 0, .eff none none (.store 145 (.tmp 8) (.tmp 22)) 0, .asg none 36 (.ite (.ite (.op2 (.ibin .neq .u8) (.op1 .load1 (.op1 (.fadr 2) (.var 8))) (.const (.int .u8 0))) (.const (.bool true)) (.op2 (.ibin .lss .i64) (.var 2) (.const (.int .i64 0)))) (.const (.bool true)) (.op2 (.ibin .geq .i64) (.var 2) (.op1 .lenS (.op1 .load1 (.op1 (.fadr 4) (.var 8))))))]) <| .seq (.cond (.var 36) (.seq (.reg [.asg none 6 (.const (.int .i64 1))]) <| .ret) (.skip)) (ir117_k0)
noncomputable def ir117 : IR := .seq (.reg [.asg none 6 (.const (.int .i64 0)), .asg none 9 (.var 0), .asg none 10 (.var 1), .eff none (some 11) (.call { callee := .value (.func 118), args := #[(.tmp 9), (.tmp 10)], argTypes := #[29, 3] }) 26, .asg none 7 (.var 11), .asg none 13 (.op2 (.ibin .neq .i64) (.var 7) (.const (.int .i64 0)))]) <| .seq (.cond (.var 13) (.seq (.reg [.asg none 6 (.var 7)]) <| .ret) (.skip)) (ir117_k1)
def ir117_V : List Nat := [0, 1, 2, 6, 7, 8, 9, 10, 11, 13, 22, 36]
theorem ir117_calls (h : ∀ ρ : Env, ρ 0 = v0 → ρ 1 = v1 → ρ 2 = v2 → ir117.wp ⟨Tryz.prog, 37, ir117_V, []⟩ (retK [.tmp 6] R) (ksOf [.tmp 6] R) ρ w) : Calls Tryz.prog 117 #[v0, v1, v2] w R :=
 calls_irX (raws := []) (ir := ir117) Tryz.func117 rfl (by kernel_rfl) (by kernel_rfl) (by kernel_rfl) (Nat.le_of_ble_eq_true rfl) (h _ rfl rfl rfl)
noncomputable def ir118_k0 : IR := .seq (.reg [.asg none 4 (.const (.int .i64 0))]) <| .ret
noncomputable def ir118 : IR := .seq (.reg [.asg none 4 (.const (.int .i64 0)), .asg none 6 (.var 0), .asg none 7 (.var 1), .eff none (some 8) (.call { callee := .value (.func 81), args := #[(.tmp 6), (.tmp 7)], argTypes := #[29, 3] }) 4, .asg none 5 (.var 8), .asg none 10 (.op1 .not (.var 5))]) <| .seq (.cond (.var 10) (.seq (.reg [.asg none 4 (.const (.int .i64 171))]) <| .ret) (.skip)) (ir118_k0)
def ir118_V : List Nat := [0, 1, 4, 5, 6, 7, 8, 10]
theorem ir118_calls (h : ∀ ρ : Env, ρ 0 = v0 → ρ 1 = v1 → ir118.wp ⟨Tryz.prog, 11, ir118_V, []⟩ (retK [.tmp 4] R) (ksOf [.tmp 4] R) ρ w) : Calls Tryz.prog 118 #[v0, v1] w R :=
 calls_irX (raws := []) (ir := ir118) Tryz.func118 rfl (by kernel_rfl) (by kernel_rfl) (by kernel_rfl) (Nat.le_of_ble_eq_true rfl) (h _ rfl rfl)
noncomputable def ir119_k0 : IR := .seq (.reg [.asg none 4 (.var 5)]) <| .ret
noncomputable def ir119 : IR := .seq (.reg [.asg none 4 (.const (.int .i64 0)), .asg none 6 (.var 0), .asg none 7 (.var 1), .eff none (some 8) (.call { callee := .value (.func 118), args := #[(.tmp 6), (.tmp 7)], argTypes := #[29, 3] }) 26, .asg none 5 (.var 8), .asg none 22 (.ite (.op2 (.ibin .eql .i64) (.var 5) (.const (.int .i64 0))) (.op2 (.ibin .eql .u8) (.op1 .load1 (.op1 (.fadr 2) (.op2 (.ixa 7) (.op1 .load1 (.op1 (.fadr 1) (.op1 .nilc (.var 0)))) (.op2 (.ibin .sub .i64) (.var 1) (.const (.int .i64 1)))))) (.const (.int .u8 0))) (.const (.bool false)))]) <| .seq (.cond (.var 22) (.reg [.asg none 5 (.const (.int .i64 1))]) (.skip)) (ir119_k0)
def ir119_V : List Nat := [0, 1, 4, 5, 6, 7, 8, 22]
theorem ir119_calls (h : ∀ ρ : Env, ρ 0 = v0 → ρ 1 = v1 → ir119.wp ⟨Tryz.prog, 24, ir119_V, []⟩ (retK [.tmp 4] R) (ksOf [.tmp 4] R) ρ w) : Calls Tryz.prog 119 #[v0, v1] w R :=
 calls_irX (raws := []) (ir := ir119) Tryz.func119 rfl (by kernel_rfl) (by kernel_rfl) (by kernel_rfl) (Nat.le_of_ble_eq_true rfl) (h _ rfl rfl)
noncomputable def ir120_k0 : IR := .reg [.asg none 5 (.op2 (.ibin .add .i64) (.var 5) (.const (.int .i64 1)))]
noncomputable def ir120_k1 : IR := .seq (.block 1 (.seq (.reg [.asg none 20 (.op2 (.ibin .neq .i64) (.op1 .load1 (.op2 (.ixa 1) (.var 1) (.var 5))) (.const (.int .i64 0))), .asg (some (20, true)) 21 (.var 0), .asg (some (20, true)) 25 (.op1 .load1 (.op2 (.ixa 1) (.var 1) (.var 5))), .eff (some (20, true)) (some 26) (.call { callee := .value (.func 81), args := #[(.tmp 21), (.tmp 25)], argTypes := #[29, 3] }) 4, .asg none 28 (.ite (.var 20) (.op1 .not (.var 26)) (.const (.bool false)))]) <| .cond (.var 28) (.seq (.reg [.asg none 4 (.const (.int .i64 171))]) <| .ret) (.skip))) (ir120_k0)
noncomputable def ir120_l2 : IR := .seq (.reg [.asg none 12 (.op2 (.ibin .lss .i64) (.var 5) (.op1 .lenS (.var 1)))]) <| .seq (.cond (.var 12) (.skip) (.exit 0)) (ir120_k1)
noncomputable def ir120_k3 : IR := .seq (.reg [.asg none 4 (.const (.int .i64 0))]) <| .ret
noncomputable def ir120_k4 : IR := .seq (.reg [.asg none 5 (.const (.int .i64 0))]) <| .seq (.block 0 (.loop ir120_l2)) (ir120_k3)
noncomputable def ir120 : IR := .seq (.reg [.asg none 4 (.const (.int .i64 0)), .asg none 8 (.op2 (.ibin .gtr .i64) (.op1 .lenS (.var 1)) (.const (.int .i64 10000)))]) <| .seq (.cond (.var 8) (.seq (.reg [.asg none 4 (.const (.int .i64 2))]) <| .ret) (.skip)) (ir120_k4)
def ir120_V : List Nat := [0, 1, 4, 5, 8, 12, 20, 21, 25, 26, 28]
theorem ir120_calls (h : ∀ ρ : Env, ρ 0 = v0 → ρ 1 = v1 → ir120.wp ⟨Tryz.prog, 29, ir120_V, []⟩ (retK [.tmp 4] R) (ksOf [.tmp 4] R) ρ w) : Calls Tryz.prog 120 #[v0, v1] w R :=
 calls_irX (raws := []) (ir := ir120) Tryz.func120 rfl (by kernel_rfl) (by kernel_rfl) (by kernel_rfl) (Nat.le_of_ble_eq_true rfl) (h _ rfl rfl)
noncomputable def ir121_k0 : IR := .reg [.asg none 9 (.op2 (.ibin .add .i64) (.var 9) (.const (.int .i64 1)))]
noncomputable def ir121_k1 : IR := .seq (.block 3 (.seq (.reg [.asg none 77 (.ite (.op2 (.ibin .eql .u8) (.op1 .load1 (.op1 (.fadr 2) (.var 8))) (.const (.int .u8 2))) (.const (.bool true)) (.ite (.op2 (.ibin .eql .u8) (.op1 .load1 (.op1 (.fadr 2) (.var 8))) (.const (.int .u8 0))) (.op2 (.ibin .eql .u8) (.op1 .load1 (.op2 (.ixa 1) (.op1 .load1 (.op1 (.fadr 3) (.var 8))) (.var 9))) (.const (.int .u8 2))) (.const (.bool false))))]) <| .cond (.var 77) (.reg [.asg none 78 (.var 6), .asg none 83 (.op1 .load1 (.op2 (.ixa 1) (.op1 .load1 (.op1 (.fadr 4) (.var 8))) (.var 9))), .eff none (some 84) (.buildSlice 35 1 #[(0, (.tmp 83))]) 35, .eff none (some 85) (.call { callee := .builtin .append, args := #[(.tmp 78), (.tmp 84)], argTypes := #[35, 35] }) 35, .asg none 6 (.var 85)]) (.skip))) (ir121_k0)
noncomputable def ir121_l2 : IR := .seq (.reg [.asg none 59 (.op2 (.ibin .lss .i64) (.var 9) (.op1 .lenS (.op1 .load1 (.op1 (.fadr 4) (.var 8)))))]) <| .seq (.cond (.var 59) (.skip) (.exit 2)) (ir121_k1)
noncomputable def ir121_k3 : IR := .seq (.reg [.asg none 46 (.op2 (.ixa 1) (.var 5) (.var 7)), .eff none none (.store 4 (.tmp 46) (.const (.bool true))) 0, .asg none 54 (.op1 (.loadN 7) (.op2 (.ixa 7) (.op1 .load1 (.op1 (.fadr 1) (.op1 .nilc (.var 0)))) (.op2 (.ibin .sub .i64) (.var 7) (.const (.int .i64 1))))), .eff none (some 8) (.alloc 145) 0, .eff none none (.store 145 (.tmp 8) (.tmp 54)) 0, .asg none 9 (.const (.int .i64 0))]) <| .block 2 (.loop ir121_l2)
noncomputable def ir121_k4 : IR := .block 1 (.seq (.reg [.asg none 7 (.op1 .load1 (.op2 (.ixa 1) (.var 6) (.op2 (.ibin .sub .i64) (.op1 .lenS (.var 6)) (.const (.int .i64 1))))), .eff none (some 29) (.buildSlice 35 0 #[]) 35, .asg none 34 (.op3 (.slLoHi 1) (.var 6) (.const (.int .i64 0)) (.op2 (.ibin .sub .i64) (.op1 .lenS (.var 6)) (.const (.int .i64 1)))), .eff none (some 35) (.call { callee := .builtin .append, args := #[(.tmp 29), (.tmp 34)], argTypes := #[35, 35] }) 35, .asg none 6 (.var 35), .asg none 43 (.ite (.op2 (.ibin .eql .i64) (.var 7) (.const (.int .i64 0))) (.const (.bool true)) (.op1 .load1 (.op2 (.ixa 1) (.var 5) (.var 7))))]) <| .seq (.cond (.var 43) (.exit 1) (.skip)) (ir121_k3))
noncomputable def ir121_l5 : IR := .seq (.reg [.asg none 22 (.op2 (.ibin .gtr .i64) (.op1 .lenS (.var 6)) (.const (.int .i64 0)))]) <| .seq (.cond (.var 22) (.skip) (.exit 0)) (ir121_k4)
noncomputable def ir121_k6 : IR := .seq (.reg [.asg none 4 (.var 5)]) <| .ret
noncomputable def ir121 : IR := .seq (.reg [.asg none 4 (.const (.slice none 0 0)), .asg none 15 (.op2 (.ibin .add .i64) (.op1 .lenS (.op1 .load1 (.op1 (.fadr 1) (.op1 .nilc (.var 0))))) (.const (.int .i64 1))), .eff none (some 16) (.makeSlice 143 (.tmp 15) (.tmp 15)) 143, .asg none 5 (.var 16), .eff none (some 17) (.buildSlice 35 0 #[]) 35, .asg none 18 (.var 1), .eff none (some 19) (.call { callee := .builtin .append, args := #[(.tmp 17), (.tmp 18)], argTypes := #[35, 35] }) 35, .asg none 6 (.var 19)]) <| .seq (.block 0 (.loop ir121_l5)) (ir121_k6)
def ir121_V : List Nat := [0, 1, 4, 5, 6, 7, 8, 9, 15, 16, 17, 18, 19, 22, 29, 34, 35, 43, 46, 54, 59, 77, 78, 83, 84, 85]
theorem ir121_calls (h : ∀ ρ : Env, ρ 0 = v0 → ρ 1 = v1 → ir121.wp ⟨Tryz.prog, 87, ir121_V, []⟩ (retK [.tmp 4] R) (ksOf [.tmp 4] R) ρ w) : Calls Tryz.prog 121 #[v0, v1] w R :=
 calls_irX (raws := []) (ir := ir121) Tryz.func121 rfl (by kernel_rfl) (by kernel_rfl) (by kernel_rfl) (Nat.le_of_ble_eq_true rfl) (h _ rfl rfl)
noncomputable def ir122_k0 : IR := .reg [.asg none 28 (.op1 .load1 (.op1 (.fadr 1) (.op1 .nilc (.var 0)))), .asg none 30 (.op2 (.ibin .sub .i64) (.var 1) (.const (.int .i64 1))), .eff none (some 31) (.build 145 #[]) 145, .asg none 32 (.op2 (.ixa 7) (.var 28) (.var 30)), .eff none none (.store 145 (.tmp 32) (.tmp 31)) 0]
noncomputable def ir122 : IR := .seq (.reg [.asg none 12 (.op1 (.loadN 7) (.op2 (.ixa 7) (.op1 .load1 (.op1 (.fadr 1) (.op1 .nilc (.var 0)))) (.op2 (.ibin .sub .i64) (.var 1) (.const (.int .i64 1))))), .eff none (some 4) (.alloc 145) 0, .eff none none (.store 145 (.tmp 4) (.tmp 12)) 0, .asg none 14 (.op1 .load1 (.op1 (.fadr 6) (.var 4)))]) <| .seq (.cond (.var 14) (.reg [.asg none 15 (.var 0), .asg none 19 (.op1 .load1 (.op1 (.fadr 5) (.op1 .nilc (.var 0)))), .asg none 20 (.var 1), .eff none (some 21) (.buildSlice 35 1 #[(0, (.tmp 20))]) 35, .eff none (some 22) (.call { callee := .builtin .append, args := #[(.tmp 19), (.tmp 21)], argTypes := #[35, 35] }) 35, .asg none 24 (.op1 (.fadr 5) (.op1 .nilc (.var 15))), .eff none none (.store 35 (.tmp 24) (.tmp 22)) 0]) (.skip)) (ir122_k0)
def ir122_V : List Nat := [0, 1, 4, 12, 14, 15, 19, 20, 21, 22, 24, 28, 30, 31, 32]
theorem ir122_calls (h : ∀ ρ : Env, ρ 0 = v0 → ρ 1 = v1 → ir122.wp ⟨Tryz.prog, 33, ir122_V, []⟩ (retK [] R) (ksOf [] R) ρ w) : Calls Tryz.prog 122 #[v0, v1] w R :=
 calls_irX (raws := []) (ir := ir122) Tryz.func122 rfl (by kernel_rfl) (by kernel_rfl) (by kernel_rfl) (Nat.le_of_ble_eq_true rfl) (h _ rfl rfl)
noncomputable def ir123_k0 : IR := .seq (.reg [.asg none 4 (.const (.int .i64 0))]) <| .ret
noncomputable def ir123_k1 : IR := .seq (.reg [.asg none 15 (.op1 .not (.op1 .load1 (.op1 (.fadr 2) (.op1 .nilc (.var 0)))))]) <| .seq (.cond (.var 15) (.seq (.reg [.asg none 4 (.const (.int .i64 8))]) <| .ret) (.skip)) (ir123_k0)
noncomputable def ir123 : IR := .seq (.reg [.asg none 4 (.const (.int .i64 0)), .asg none 10 (.ite (.op2 (.ibin .lss .i64) (.var 1) (.const (.int .i64 1))) (.const (.bool true)) (.op2 (.ibin .gtr .i64) (.var 1) (.const (.int .i64 100000))))]) <| .seq (.cond (.var 10) (.seq (.reg [.asg none 4 (.const (.int .i64 1))]) <| .ret) (.skip)) (ir123_k1)
def ir123_V : List Nat := [0, 1, 4, 10, 15]
theorem ir123_calls (h : ∀ ρ : Env, ρ 0 = v0 → ρ 1 = v1 → ir123.wp ⟨Tryz.prog, 16, ir123_V, []⟩ (retK [.tmp 4] R) (ksOf [.tmp 4] R) ρ w) : Calls Tryz.prog 123 #[v0, v1] w R :=
 calls_irX (raws := []) (ir := ir123) Tryz.func123 rfl (by kernel_rfl) (by kernel_rfl) (by kernel_rfl) (Nat.le_of_ble_eq_true rfl) (h _ rfl rfl)
noncomputable def ir124_k0 : IR := .reg [.asg none 8 (.op2 (.ibin .add .i64) (.var 8) (.const (.int .i64 1)))]
noncomputable def ir124_k1 : IR := .seq (.block 1 (.reg [.asg none 54 (.op2 (.ixa 1) (.var 7) (.op1 .load1 (.op2 (.ixa 1) (.op1 .load1 (.op1 (.fadr 3) (.op1 .nilc (.var 0)))) (.var 8)))), .eff none none (.store 4 (.tmp 54) (.const (.bool true))) 0])) (ir124_k0)
noncomputable def ir124_l2 : IR := .seq (.reg [.asg none 43 (.op2 (.ibin .lss .i64) (.var 8) (.op1 .lenS (.op1 .load1 (.op1 (.fadr 3) (.op1 .nilc (.var 0))))))]) <| .seq (.cond (.var 43) (.skip) (.exit 0)) (ir124_k1)
noncomputable def ir124_k3 : IR := .reg [.asg none 10 (.op2 (.ibin .add .i64) (.var 10) (.const (.int .i64 1)))]
noncomputable def ir124_k4 : IR := .seq (.block 3 (.seq (.reg [.asg none 64 (.var 0), .asg none 65 (.var 10), .eff none (some 66) (.call { callee := .value (.func 81), args := #[(.tmp 64), (.tmp 65)], argTypes := #[29, 3] }) 4, .asg none 73 (.ite (.var 66) (.op1 .not (.op1 .load1 (.op2 (.ixa 1) (.var 7) (.var 10)))) (.const (.bool false)))]) <| .cond (.var 73) (.reg [.asg none 74 (.var 9), .asg none 75 (.var 10), .eff none (some 76) (.buildSlice 35 1 #[(0, (.tmp 75))]) 35, .eff none (some 77) (.call { callee := .builtin .append, args := #[(.tmp 74), (.tmp 76)], argTypes := #[35, 35] }) 35, .asg none 9 (.var 77)]) (.skip))) (ir124_k3)
noncomputable def ir124_l5 : IR := .seq (.reg [.asg none 61 (.op2 (.ibin .leq .i64) (.var 10) (.op1 .lenS (.op1 .load1 (.op1 (.fadr 1) (.op1 .nilc (.var 0))))))]) <| .seq (.cond (.var 61) (.skip) (.exit 2)) (ir124_k4)
noncomputable def ir124_k6 : IR := .reg [.asg none 12 (.op2 (.ibin .add .i64) (.var 12) (.const (.int .i64 1)))]
noncomputable def ir124_k7 : IR := .seq (.block 5 (.seq (.reg [.asg none 100 (.op1 .not (.op1 .load1 (.op2 (.ixa 1) (.var 11) (.op1 .load1 (.op2 (.ixa 1) (.op1 .load1 (.op1 (.fadr 3) (.op1 .nilc (.var 0)))) (.var 12))))))]) <| .cond (.var 100) (.reg [.asg none 101 (.var 0), .asg none 108 (.op1 .load1 (.op2 (.ixa 1) (.op1 .load1 (.op1 (.fadr 3) (.op1 .nilc (.var 0)))) (.var 12))), .eff none (some 109) (.call { callee := .value (.func 122), args := #[(.tmp 101), (.tmp 108)], argTypes := #[29, 3] }) 0]) (.skip))) (ir124_k6)
noncomputable def ir124_l8 : IR := .seq (.reg [.asg none 87 (.op2 (.ibin .lss .i64) (.var 12) (.op1 .lenS (.op1 .load1 (.op1 (.fadr 3) (.op1 .nilc (.var 0))))))]) <| .seq (.cond (.var 87) (.skip) (.exit 4)) (ir124_k7)
noncomputable def ir124_k9 : IR := .reg [.asg none 13 (.op2 (.ibin .add .i64) (.var 13) (.const (.int .i64 1)))]
noncomputable def ir124_k10 : IR := .seq (.block 7 (.reg [.asg none 131 (.op1 (.fadr 5) (.op2 (.ixa 7) (.op1 .load1 (.op1 (.fadr 1) (.op1 .nilc (.var 0)))) (.var 13))), .eff none none (.store 3 (.tmp 131) (.const (.int .i64 2))) 0])) (ir124_k9)
noncomputable def ir124_l11 : IR := .seq (.reg [.asg none 122 (.op2 (.ibin .lss .i64) (.var 13) (.op1 .lenS (.op1 .load1 (.op1 (.fadr 1) (.op1 .nilc (.var 0))))))]) <| .seq (.cond (.var 122) (.skip) (.exit 6)) (ir124_k10)
noncomputable def ir124_k12 : IR := .seq (.reg [.asg none 6 (.const (.bool true))]) <| .ret
noncomputable def ir124_k13 : IR := .seq (.reg [.asg none 112 (.op1 (.fadr 3) (.op1 .nilc (.var 0))), .eff none none (.store 35 (.tmp 112) (.const (.slice none 0 0))) 0, .asg none 115 (.op1 (.fadr 2) (.op1 .nilc (.var 0))), .eff none none (.store 4 (.tmp 115) (.const (.bool false))) 0, .asg none 13 (.const (.int .i64 0))]) <| .seq (.block 6 (.loop ir124_l11)) (ir124_k12)
noncomputable def ir124_k14 : IR := .seq (.reg [.asg none 78 (.var 0), .asg none 79 (.var 9), .eff none (some 80) (.call { callee := .value (.func 121), args := #[(.tmp 78), (.tmp 79)], argTypes := #[29, 35] }) 143, .asg none 11 (.var 80), .asg none 12 (.const (.int .i64 0))]) <| .seq (.block 4 (.loop ir124_l8)) (ir124_k13)
noncomputable def ir124_k15 : IR := .seq (.reg [.asg none 9 (.const (.slice none 0 0)), .asg none 10 (.const (.int .i64 1))]) <| .seq (.block 2 (.loop ir124_l5)) (ir124_k14)
noncomputable def ir124_k16 : IR := .seq (.reg [.asg none 35 (.op2 (.ibin .add .i64) (.op1 .lenS (.op1 .load1 (.op1 (.fadr 1) (.op1 .nilc (.var 0))))) (.const (.int .i64 1))), .eff none (some 36) (.makeSlice 143 (.tmp 35) (.tmp 35)) 143, .asg none 7 (.var 36), .asg none 8 (.const (.int .i64 0))]) <| .seq (.block 0 (.loop ir124_l2)) (ir124_k15)
noncomputable def ir124 : IR := .seq (.reg [.asg none 6 (.const (.bool false)), .asg none 15 (.op1 .not (.var 2))]) <| .seq (.cond (.var 15) (.seq (.reg [.asg none 16 (.var 0), .asg none 22 (.op2 (.ibin .sub .i64) (.op1 .load1 (.op1 (.fadr 4) (.op1 .nilc (.var 0)))) (.var 1)), .asg none 24 (.op1 (.fadr 4) (.op1 .nilc (.var 16))), .eff none none (.store 3 (.tmp 24) (.tmp 22)) 0, .asg none 6 (.op2 (.ibin .gtr .i64) (.op1 .load1 (.op1 (.fadr 4) (.op1 .nilc (.var 0)))) (.const (.int .i64 0)))]) <| .ret) (.skip)) (ir124_k16)
def ir124_V : List Nat := [0, 1, 2, 6, 7, 8, 9, 10, 11, 12, 13, 15, 16, 22, 24, 35, 36, 43, 54, 61, 64, 65, 66, 73, 74, 75, 76, 77, 78, 79, 80, 87, 100, 101, 108, 109, 112, 115, 122, 131]
theorem ir124_calls (h : ∀ ρ : Env, ρ 0 = v0 → ρ 1 = v1 → ρ 2 = v2 → ir124.wp ⟨Tryz.prog, 132, ir124_V, []⟩ (retK [.tmp 6] R) (ksOf [.tmp 6] R) ρ w) : Calls Tryz.prog 124 #[v0, v1, v2] w R :=
 calls_irX (raws := []) (ir := ir124) Tryz.func124 rfl (by kernel_rfl) (by kernel_rfl) (by kernel_rfl) (Nat.le_of_ble_eq_true rfl) (h _ rfl rfl rfl)
end Go.L17
