/- Texts of mine for the claims about layer 17 (heap), joined: L17Bq, L17Br, L17L4. -/
import Derived.Test.YtbopdbinllokkaaGreatJay
import Derived.ChangeKeysEq
set_option linter.all false
set_option linter.unusedSimpArgs false
set_option linter.unusedVariables false
namespace Go.L17
open Go Go.Eng Go.RowKit
open Go.Proofs hiding encI
set_option maxRecDepth 100000
set_option maxHeartbeats 4000000
theorem eqItems_self {P : Program} {d : Nat} {e : TypeId} {k : IntKind} (hu : P.underlying e = some (.int k)) (ha : isAggT P e = some false) (ys : Array Value) (w : World) : ∀ is : List Nat, (∀ i ∈ is, ∃ z, ys[i]? = some (.int k z)) → (Op.eqItems (d + 1) e 1 ys ys is).run P w = .ok true w
 | [], _ => by simp [Op.eqItems]
 | i :: is, h => by
  obtain ⟨z, hz⟩ := h i (by simp)
  have p1 : (part e ys i).run P w = .ok (.int k z) w := run_part1 ha hz
  have ih := eqItems_self (d := d) hu ha ys w is fun j hj => h j (by simp [hj])
  have e1 : (Op.equalIn (d + 1) e (.int k z) (.int k z)).run P w = .ok (z == z) w := run_equalIn_int w d e k k z z hu
  simp [Op.eqItems, p1, e1, ih]
theorem eq52 (xs : Array Value) (h0 : ∃ z, xs[0]? = some (.int .u8 z)) (h1 : ∃ z, xs[1]? = some (.int .i64 z)) (h2 : ∃ z, xs[2]? = some (.int .i64 z)) (h3 : ∀ i, i < 8 → ∃ z, xs[3 + i]? = some (.int .i64 z)) (w : World) : (Op.equalIn 10000 52 (.agg xs) (.agg xs)).run Tryz.prog w = .ok true w := by
 have hf : ∃ f g i l, (Tryz.prog.fieldsOf 52).toList = [f, g, i, l] ∧ (f.name != "_") = true ∧ (g.name != "_") = true ∧ (i.name != "_") = true ∧ (l.name != "_") = true ∧ f.type = 5 ∧ g.type = 3 ∧ i.type = 3 ∧ l.type = 50 ∧ f.offset = 0 ∧ g.offset = 1 ∧ i.offset = 2 ∧ l.offset = 3 := by
  have h := (by kernel_rfl : (Tryz.prog.fieldsOf 52).toList.map (fun f => (f.name != "_", f.type, f.offset)) = [(true, 5, 0), (true, 3, 1), (true, 3, 2), (true, 50, 3)])
  obtain ⟨f, l1, hL, a1, h⟩ := List.map_eq_cons_iff.1 h
  obtain ⟨g, l2, hL2, a2, h⟩ := List.map_eq_cons_iff.1 h
  obtain ⟨i, l3, hL3, a3, h⟩ := List.map_eq_cons_iff.1 h
  obtain ⟨l, l4, hL4, a4, h⟩ := List.map_eq_cons_iff.1 h
  have hl : l4 = [] := List.map_eq_nil_iff.1 h
  subst hl; subst hL4; subst hL3; subst hL2
  simp only [Prod.mk.injEq] at a1 a2 a3 a4
  exact ⟨f, g, i, l, hL, a1.1, a2.1, a3.1, a4.1, a1.2.1, a2.2.1, a3.2.1, a4.2.1, a1.2.2, a2.2.2, a3.2.2, a4.2.2⟩
 obtain ⟨f, g, i, l, hfs, n1, n2, n3, n4, t1, t2, t3, t4, o1, o2, o3, o4⟩ := hf
 rw [run_equalIn_agg w 9999 52 _ _ (by kernel_rfl) (by kernel_rfl), hfs]
 obtain ⟨a, ha⟩ := h0
 obtain ⟨b, hb⟩ := h1
 obtain ⟨c, hc⟩ := h2
 have u5 : Tryz.prog.underlying 5 = some (.int .u8) := by kernel_rfl
 have u3 : Tryz.prog.underlying 3 = some (.int .i64) := by kernel_rfl
 have u50 : Tryz.prog.underlying 50 = some (.array 8 3) := by kernel_rfl
 have a5 : isAggT Tryz.prog 5 = some false := by kernel_rfl
 have a3 : isAggT Tryz.prog 3 = some false := by kernel_rfl
 have a50 : isAggT Tryz.prog 50 = some true := by kernel_rfl
 obtain ⟨inf, hi, hsz⟩ : ∃ i, Tryz.prog.info? 50 = some i ∧ i.size = 8 := by
  have h := (by kernel_rfl : (Tryz.prog.info? 50).map (·.size) = some 8)
  obtain ⟨i, h1, h2⟩ := Option.map_eq_some_iff.1 h
  exact ⟨i, h1, h2⟩
 obtain ⟨inf3, hi3⟩ : ∃ i, Tryz.prog.info? 3 = some i := by
  have h := (by kernel_rfl : (Tryz.prog.info? 3).map (·.size) = some 1)
  obtain ⟨i, h1, _⟩ := Option.map_eq_some_iff.1 h
  exact ⟨i, h1⟩
 have c3 : Tryz.prog.cellsOf 3 = 1 := by kernel_rfl
 have e1 : (Op.equalIn 9999 5 (.int .u8 a) (.int .u8 a)).run Tryz.prog w = .ok (a == a) w := run_equalIn_int w 9998 5 .u8 .u8 a a u5
 have e2 : (Op.equalIn 9999 3 (.int .i64 b) (.int .i64 b)).run Tryz.prog w = .ok (b == b) w := run_equalIn_int w 9998 3 .i64 .i64 b b u3
 have e3 : (Op.equalIn 9999 3 (.int .i64 c) (.int .i64 c)).run Tryz.prog w = .ok (c == c) w := run_equalIn_int w 9998 3 .i64 .i64 c c u3
 have e4 : (Op.equalIn 9999 50 (.agg (xs.extract 3 11)) (.agg (xs.extract 3 11))).run Tryz.prog w = .ok true w := by
  rw [run_equalIn_array w 9998 _ _ u50 hi3, c3]
  refine eqItems_self u3 a3 _ w _ fun j hj => ?_
  have hj' := List.mem_range.1 hj
  obtain ⟨z, hz⟩ := h3 j hj'
  refine ⟨z, ?_⟩
  rw [Array.getElem?_extract]
  have : 3 + j < xs.size := (Array.getElem?_eq_some_iff.1 hz).1
  rw [if_pos (by omega)]
  exact hz
 have p1 : (part 5 xs 0).run Tryz.prog w = .ok (.int .u8 a) w := run_part1 a5 ha
 have p2 : (part 3 xs 1).run Tryz.prog w = .ok (.int .i64 b) w := run_part1 a3 hb
 have p3 : (part 3 xs 2).run Tryz.prog w = .ok (.int .i64 c) w := run_part1 a3 hc
 have p4 : (part 50 xs 3).run Tryz.prog w = .ok (.agg (xs.extract 3 11)) w := by
  have := run_partN (P := Tryz.prog) (w := w) (cs := xs) (off := 3) a50 hi
  rw [hsz] at this
  exact this
 have m1 : f.name ≠ "_" := by simpa using n1
 have m2 : g.name ≠ "_" := by simpa using n2
 have m3 : i.name ≠ "_" := by simpa using n3
 have m4 : l.name ≠ "_" := by simpa using n4
 simp [Op.eqFields, t1, t2, t3, t4, o1, o2, o3, o4, m1, m2, m3, m4, p1, p2, p3, p4, e1, e2, e3, e4]
def st (k : Nat) (tag size : Int) (vs : List Int) : List Value := [.int .u8 (k : Int), .int .i64 tag, .int .i64 size] ++ vs.map encI
theorem st_len {k : Nat} {tag size : Int} {vs : List Int} (h : vs.length = 8) : (st k tag size vs).length = 11 := by simp [st, h]
theorem st_set {k : Nat} {tag size : Int} {vs : List Int} {i : Nat} {x : Int} : (st k tag size vs).set (3 + i) (.int .i64 x) = st k tag size (vs.set i x) := by
 unfold st
 rw [show 3 + i = i + 1 + 1 + 1 by omega]
 simp [List.map_set, encI]
theorem st_get {k : Nat} {tag size : Int} {vs : List Int} {i : Nat} (h : i < vs.length) : (st k tag size vs)[3 + i]? = some (.int .i64 vs[i]) := by
 unfold st
 rw [show 3 + i = i + 1 + 1 + 1 by omega]
 simp [encI, h]
def gV (g : Nat → Int) : Nat → List Int
 | 0 => List.replicate 8 0
 | k + 1 => (gV g k).set k (g k)
theorem gV_len (g : Nat → Int) : ∀ k, (gV g k).length = 8
 | 0 => rfl
 | k + 1 => by unfold gV; rw [List.length_set]; exact gV_len g k
def fV (g f : Nat → Int) : Nat → List Int
 | 0 => gV g 6
 | k + 1 => (fV g f k).set ((k + 1) % 8) (IntKind.i64.wrap (IntKind.i64.wrap (31 * (fV g f k).getD ((k + 1) % 8) 0) + f (k + 1)))
theorem fV_len (g f : Nat → Int) : ∀ k, (fV g f k).length = 8
 | 0 => gV_len g 6
 | k + 1 => by unfold fV; rw [List.length_set]; exact fV_len g f k
def stOf (m : MS) (n : Int) : List Value := st (m.kind n).1 (m.tag n).1 (m.size n).1 (fV (fun i => (m.get n i).2.1) (fun i => (m.fetch n i).1) (m.size n).1.toNat)
theorem stOf_len (m : MS) (n : Int) : (stOf m n).length = 11 := st_len (fV_len _ _ _)
theorem size_nonneg (m : MS) (n : Int) : 0 ≤ (m.size n).1 := by unfold MS.size; split <;> simp
theorem size_le {base Hb : Nat} {β : Lay} {m : MS} {c : Option Wh} {w : World} (h : HAt base w Hb β m c) (n : Int) : (m.size n).1 ≤ 200 := by
 unfold MS.size
 split
 ·rename_i he
  have := h.small n (arrayE_zero.1 he).1
  show ((m.at n).vals.length : Int) ≤ 200
  omega
 ·show (0 : Int) ≤ 200
  omega
theorem si49 : sliceInfo Tryz.prog 49 = some (52, 11) := by kernel_rfl
theorem ri49 : rowInfo Tryz.prog 49 = some (52, 11, 88) := by kernel_rfl
theorem z52 : zeroCellsOf Tryz.prog 52 = some (st 0 0 0 (List.replicate 8 0)).toArray := by kernel_rfl
theorem und50 : Tryz.prog.underlying 50 = some (.array 8 3) := by kernel_rfl
@[simp] theorem cb22 : callB Tryz.prog 22 = true := by kernel_rfl
@[simp] theorem cb31 : callB Tryz.prog 31 = true := by kernel_rfl
end Go.L17
namespace Go.L17
open Go Go.Eng Go.RowKit
open Go.Proofs hiding encI
set_option maxRecDepth 100000
set_option maxHeartbeats 4000000
section
variable {base Hb Rb Bp B6 : Nat} {β : Lay} {m : MS} {c : Option Wh} {w W : World} {K : Env → World → Prop} {Q : Ks} {ρ : Env}
theorem st_store {k : Nat} {tag size : Int} {vs : List Int} {i : Nat} {x : Int} (h : vs.length = 8) (hi : 3 + i < (st k tag size vs).toArray.size) : (st k tag size vs).toArray.set (3 + i) (.int .i64 x) hi = (st k tag size (vs.set i x)).toArray := by
 rw [← st_set]; simp
theorem look_get {k : Nat} {tag size n : Int} (h : HAt base w Hb β m c) (hbp : Blk w Bp #[ptr Hb, ptr Rb] 31) (hE : Ext w W) (hB : w.heap.size ≤ B6) (hb : Blk W B6 (st k tag size (gV (fun i : Nat => (m.get n i).2.1) 0)).toArray 52) (s1 : ρ 1 = .pointer (some ⟨Bp, 0, none⟩)) (s5 : ρ 5 = .int .i64 n) (s6 : ρ 6 = .pointer (some ⟨B6, 0, none⟩)) (s41 : ρ 41 = .int .i64 0)
  (hK : ∀ ρ2 W2, Keep [1, 3, 5, 6, 11, 12, 13] ρ ρ2 → Fr (fun b => b = B6) W W2 → Ext w W2 → Blk W2 B6 (st k tag size (gV (fun i : Nat => (m.get n i).2.1) 6)).toArray 52 → K ρ2 W2) : (IR.block 2 (.loop ir22_l2)).wp ⟨Tryz.prog, 89, ir22_V, []⟩ K Q ρ W := by
 obtain ⟨g, hg⟩ : ∃ g : Nat → Int, g = fun i : Nat => (m.get n i).2.1 := ⟨_, rfl⟩
 rw [← hg] at hb hK
 rw [wpi_block]
 obtain ⟨I, hI⟩ : ∃ I : Nat → Env → World → Prop, ∀ i ρ' W', I i ρ' W' ↔ (Keep [1, 3, 5, 6, 11, 12, 13] ρ ρ' ∧ Fr (fun b => b = B6) W W' ∧ Ext w W' ∧ Blk W' B6 (st k tag size (gV g i)).toArray 52) := ⟨_, fun _ _ _ => Iff.rfl⟩
 refine loopC 41 6 I s41 ((hI _ _ _).2 ⟨Keep.refl _ _, Fr.of (ext_refl _), hE, hb⟩) ?_
 intro i ρ' W' hi h41 hii
 obtain ⟨hkp, hF, hE', hb'⟩ := (hI _ _ _).1 hii
 have u1 : ρ' 1 = .pointer (some ⟨Bp, 0, none⟩) := (hkp 1 (by simp)).trans s1
 have u5 : ρ' 5 = .int .i64 n := (hkp 5 (by simp)).trans s5
 have u6 : ρ' 6 = .pointer (some ⟨B6, 0, none⟩) := (hkp 6 (by simp)).trans s6
 have hwk : IntKind.i64.wrap ((i : Int) + 1) = (i : Int) + 1 := i64w (by omega)
 have hc := (hbp.ext hE').cell
 rw [ptr, ptr] at hc
 by_cases hlt : i < 6
 rotate_left
 ·have hke : i = 6 := by omega
  subst hke
  simp -implicitDefEqProofs [-wps_asg, -wps_eff, wa2, we2, ir22_l2, h41]
  exact hK _ _ (hkp.upd (by decide)) hF hE' hb'
 have hI6 : (i : Int) < 6 := by omega
 have hi8 : i < 8 := by omega
 have hI8 : (i : Int) < 8 := by omega
 simp -implicitDefEqProofs [-wps_asg, -wps_eff, wa2, we2, ir22_l2, h41, hlt, hI6, ir22_k1, u1, hc, u5]
 refine (t_Get (h.ext hE') n i).mono ?_
 rintro _ W2 ⟨rfl, hE2⟩
 have hgi : (m.get n i).2.1 = g i := by rw [hg]
 have hb2 := hb'.ext hE2
 simp -implicitDefEqProofs [-wps_asg, -wps_eff, wa2, we2, u6, hgi]
 refine eff_ixaA (n := 8) (k := i) (B := B6) (o := 3) (e := 3) (ik := .i64) (inf := _) und50 rfl (by kernel_rfl) (by simp) (by simp) hi8 ?_
 simp -implicitDefEqProofs [-wps_asg, -wps_eff, wa2, we2]
 have hvl := gV_len g i
 refine eff_store1 (B := B6) (i := 3 + i) (cs := (st k tag size (gV g i)).toArray) (by simp) hb2 (by simp [st_len hvl]; omega) (by simp [Value.cells]) (by simp) sz3a fun W3 hO3 hb3 => ?_
 have hb3' : Blk W3 B6 (st k tag size (gV g (i + 1))).toArray 52 := by
  have e := st_store (k := k) (tag := tag) (size := size) (i := i) (x := g i) hvl (by simp [st_len hvl]; omega)
  have hb4 : Blk W3 B6 ((st k tag size (gV g i)).toArray.set (3 + i) (.int .i64 (g i)) (by simp [st_len hvl]; omega)) 52 := by simpa using hb3
  rw [e] at hb4
  exact hb4
 simp -implicitDefEqProofs [-wps_asg, -wps_eff, wa2, we2, ir22_k0, h41, hwk]
 refine (hI _ _ _).2 ⟨?_, (hF.trans (Fr.of (S := fun b => b = B6) hE2) (fun x hx => .inl hx)).trans (Fr.only (S := fun b => b = B6) hO3 rfl) (fun x hx => .inl hx), hO3.ext (hE'.trans' hE2) hB, hb3'⟩
 repeat (refine Keep.upd ?_ (by decide))
 exact hkp
theorem look_fetch {k : Nat} {tag n : Int} (h : HAt base w Hb β m c) (hbp : Blk w Bp #[ptr Hb, ptr Rb] 31) (hE : Ext w W) (hB : w.heap.size ≤ B6) (hb : Blk W B6 (st k tag (m.size n).1 (fV (fun i : Nat => (m.get n i).2.1) (fun i : Nat => (m.fetch n i).1) 0)).toArray 52) (s1 : ρ 1 = .pointer (some ⟨Bp, 0, none⟩)) (s5 : ρ 5 = .int .i64 n) (s6 : ρ 6 = .pointer (some ⟨B6, 0, none⟩)) (s8 : ρ 8 = .int .i64 1)
  (hK : ∀ ρ2 W2, Keep [1, 3, 6, 11, 12, 13] ρ ρ2 → Fr (fun b => b = B6) W W2 → Ext w W2 → Blk W2 B6 (st k tag (m.size n).1 (fV (fun i : Nat => (m.get n i).2.1) (fun i : Nat => (m.fetch n i).1) (m.size n).1.toNat)).toArray 52 → K ρ2 W2) : (IR.block 4 (.loop ir22_l5)).wp ⟨Tryz.prog, 89, ir22_V, []⟩ K Q ρ W := by
 obtain ⟨g, hg⟩ : ∃ g : Nat → Int, g = fun i : Nat => (m.get n i).2.1 := ⟨_, rfl⟩
 obtain ⟨f, hf⟩ : ∃ f : Nat → Int, f = fun i : Nat => (m.fetch n i).1 := ⟨_, rfl⟩
 rw [← hg, ← hf] at hb hK
 have hsl := size_le h n
 have hs0 := size_nonneg m n
 obtain ⟨sz, hsz⟩ : ∃ sz : Nat, (m.size n).1 = (sz : Int) := ⟨(m.size n).1.toNat, by omega⟩
 rw [hsz] at hb hK hsl
 rw [show ((sz : Int)).toNat = sz by omega] at hK
 rw [wpi_block]
 obtain ⟨I, hI⟩ : ∃ I : Nat → Env → World → Prop, ∀ i ρ' W', I i ρ' W' ↔ (Keep [1, 3, 5, 6, 11, 12, 13] ρ ρ' ∧ Fr (fun b => b = B6) W W' ∧ Ext w W' ∧ Blk W' B6 (st k tag sz (fV g f (i - 1))).toArray 52) := ⟨_, fun _ _ _ => Iff.rfl⟩
 refine loopF 8 (sz + 1) 1 I (by simpa using s8) (by omega) ((hI _ _ _).2 ⟨Keep.refl _ _, Fr.of (ext_refl _), hE, hb⟩) ?_
 intro i ρ' W' hi1 hi2 h8 hii
 obtain ⟨hkp, hF, hE', hb'⟩ := (hI _ _ _).1 hii
 have u1 : ρ' 1 = .pointer (some ⟨Bp, 0, none⟩) := (hkp 1 (by simp)).trans s1
 have u5 : ρ' 5 = .int .i64 n := (hkp 5 (by simp)).trans s5
 have u6 : ρ' 6 = .pointer (some ⟨B6, 0, none⟩) := (hkp 6 (by simp)).trans s6
 have hwk : IntKind.i64.wrap ((i : Int) + 1) = (i : Int) + 1 := i64w (by omega)
 have hc := (hbp.ext hE').cell
 rw [ptr, ptr] at hc
 have c2 : W'.cell? ⟨B6, 2, none⟩ = some (.int .i64 (sz : Int)) := by rw [hb'.cell]; rfl
 by_cases hlt : i < sz + 1
 rotate_left
 ·have hke : i = sz + 1 := by omega
  subst hke
  have hn : ¬ (sz : Int) + 1 ≤ (sz : Int) := by omega
  simp -implicitDefEqProofs [-wps_asg, -wps_eff, wa2, we2, ir22_l5, h8, u6, c2, hn]
  refine hK _ _ ?_ hF hE' hb'
  exact (Keep.upd (fun s hs => hkp s (by simp at hs ⊢; omega)) (by decide))
 have hle : (i : Int) ≤ (sz : Int) := by omega
 have hle' : i ≤ sz := by omega
 have htm : ((i : Int)).tmod 8 = ((i % 8 : Nat) : Int) := by rw [Int.tmod_eq_emod_of_nonneg (by omega)]; omega
 have hj8 : i % 8 < 8 := Nat.mod_lt _ (by omega)
 have hsi : i - 1 + 1 = i := by omega
 have hvl := fV_len g f (i - 1)
 simp -implicitDefEqProofs [-wps_asg, -wps_eff, wa2, we2, ir22_l5, h8, u6, c2, hle, hle', ir22_k4, u1, hc, u5]
 refine (t_Fetch (h.ext hE') n i).mono ?_
 rintro _ W2 ⟨rfl, rfl⟩
 have hfi : (m.fetch n i).1 = f i := by rw [hf]
 simp -implicitDefEqProofs [-wps_asg, -wps_eff, wa2, we2, h8, htm, u6, hfi]
 refine eff_ixaA (n := 8) (k := i % 8) (B := B6) (o := 3) (e := 3) (ik := .i64) (inf := _) und50 rfl (by kernel_rfl) (by simp) (by simp) hj8 ?_
 have cj : W2.cell? ⟨B6, 3 + i % 8, none⟩ = some (.int .i64 ((fV g f (i - 1)).getD (i % 8) 0)) := by
  rw [hb'.cell]
  have := st_get (k := k) (tag := tag) (size := (sz : Int)) (vs := fV g f (i - 1)) (i := i % 8) (by omega)
  rw [List.getElem?_toArray, this, getD_get (by omega)]
 simp -implicitDefEqProofs [-wps_asg, -wps_eff, wa2, we2, cj, u6]
 refine eff_ixaA (n := 8) (k := i % 8) (B := B6) (o := 3) (e := 3) (ik := .i64) (inf := _) und50 rfl (by kernel_rfl) (by simp) (by simp) hj8 ?_
 simp -implicitDefEqProofs [-wps_asg, -wps_eff, wa2, we2]
 obtain ⟨x, hx⟩ : ∃ x, x = IntKind.i64.wrap (IntKind.i64.wrap (31 * (fV g f (i - 1)).getD (i % 8) 0) + f i) := ⟨_, rfl⟩
 refine eff_store1 (B := B6) (i := 3 + i % 8) (cs := (st k tag sz (fV g f (i - 1))).toArray) (by simp) hb' (by simp [st_len hvl]; omega) (by simp [Value.cells]) (by simp) sz3a fun W3 hO3 hb3 => ?_
 have hb3' : Blk W3 B6 (st k tag sz (fV g f (i + 1 - 1))).toArray 52 := by
  have e := st_store (k := k) (tag := tag) (size := (sz : Int)) (i := i % 8) (x := x) hvl (by simp [st_len hvl]; omega)
  have hb4 : Blk W3 B6 ((st k tag sz (fV g f (i - 1))).toArray.set (3 + i % 8) (.int .i64 x) (by simp [st_len hvl]; omega)) 52 := by rw [hx]; simpa using hb3
  rw [e] at hb4
  have e2 : fV g f (i + 1 - 1) = (fV g f (i - 1)).set (i % 8) x := by
   rw [hx, show i + 1 - 1 = (i - 1) + 1 by omega]
   show (fV g f (i - 1)).set ((i - 1 + 1) % 8) _ = _
   rw [hsi]
  rw [e2]
  exact hb4
 simp -implicitDefEqProofs [-wps_asg, -wps_eff, wa2, we2, ir22_k3, h8, hwk]
 refine ⟨hlt, (hI _ _ _).2 ⟨?_, hF.trans (Fr.only (S := fun b => b = B6) hO3 rfl) (fun x hx => .inl hx), hO3.ext hE' hB, hb3'⟩⟩
 repeat (refine Keep.upd ?_ (by decide))
 exact hkp
theorem flat_succ {l : List Int} {k : Nat} (hk : k < l.length) (f : Int → List Value) : (l.take (k + 1)).flatMap f = (l.take k).flatMap f ++ f l[k] := by
 rw [List.take_add_one, List.getElem?_eq_getElem hk, List.flatMap_append]
 show _ ++ [l[k]].flatMap f = _
 rw [List.flatMap_cons, List.flatMap_nil, List.append_nil]
theorem flat_len11 (m : MS) (l : List Int) : (l.flatMap (stOf m)).length = l.length * 11 := by
 induction l with
 | nil => rfl
 | cons a l ih => rw [List.flatMap_cons, List.length_append, ih, stOf_len, List.length_cons]; omega
theorem stOf_one (m : MS) (n : Int) : ∀ v ∈ stOf m n, v.oneCell' = true := by
 intro v hv
 unfold stOf st at hv
 simp only [List.mem_append, List.mem_cons, List.not_mem_nil, or_false, List.mem_map] at hv
 rcases hv with (rfl | rfl | rfl) | ⟨z, _, rfl⟩ <;> rfl
theorem l_look {wv : Value} {L : List Int} {Bw : Nat} (h : HAt base w Hb β m c) (hbp : Blk w Bp #[ptr Hb, ptr Rb] 31) (hbw : Blk w Bw #[wv] 35) (hL : Sl encI w wv L) (hlen : L.length ≤ 1000) :
  Calls Tryz.prog 22 #[ptr Bw, ptr Bp] w fun e w' => ∃ x, e = .returned x ∧ Own w.heap.size 52 11 w' x (L.flatMap (stOf m)) ∧ Ext w w' := by
 obtain ⟨R, hR⟩ : ∃ R : Ending → World → Prop, R = fun e w' => ∃ x, e = .returned x ∧ Own w.heap.size 52 11 w' x (L.flatMap (stOf m)) ∧ Ext w w' := ⟨_, rfl⟩
 rw [← hR]
 have hcw := hbw.cell
 refine ir22_calls fun ρ r0 r1 => ?_
 rw [ptr] at r0 r1
 simp -implicitDefEqProofs [-wps_asg, -wps_eff, wa2, we2, ir22, r0, hcw, hL.is, hL.len]
 obtain ⟨I, hI⟩ : ∃ I : Nat → Env → World → Prop, ∀ i ρ' W', I i ρ' W' ↔ (ρ' 1 = .pointer (some ⟨Bp, 0, none⟩) ∧ ρ' 11 = wv ∧ ρ' 12 = .int .i64 L.length ∧ Ext w W' ∧ ∃ lv, ρ' 3 = lv ∧ Own w.heap.size 52 11 W' lv ((L.take i).flatMap (stOf m))) := ⟨_, fun _ _ _ => Iff.rfl⟩
 refine loopC 13 L.length I (by rfl) ((hI _ _ _).2 ⟨by simp [r1], by simp, by rfl, ext_refl _, .slice none 0 0, by simp, by simpa using Own.nil _ _ _ _⟩) ?_
 intro k ρ' W hk h13 hi
 obtain ⟨s1, s11, s12, hE, lv, s3, hlv⟩ := (hI _ _ _).1 hi
 have hLW := hL.ext hE
 have z := hE.size
 by_cases hlt : k < L.length
 rotate_left
 ·have hke : k = L.length := by omega
  subst hke
  rw [List.take_length] at hlv
  simp -implicitDefEqProofs [-wps_asg, -wps_eff, wa2, we2, ir22_l10, h13, s12, ir22_k11, s3]
  rw [hR]
  exact ⟨lv, rfl, hlv, hE⟩
 have hwk : IntKind.i64.wrap ((k : Int) + 1) = (k : Int) + 1 := i64w (by omega)
 obtain ⟨n, hn⟩ : ∃ n, n = L[k] := ⟨_, rfl⟩
 have hcl := hLW.cell k hlt
 rw [← hn] at hcl
 simp -implicitDefEqProofs [-wps_asg, -wps_eff, wa2, we2, ir22_l10, h13, s12, hlt, ir22_k9, s11, hLW.is, hLW.len, hcl, encI]
 refine eff_alloc z52 fun B6 W1 hB hE1 hb1 _ => ?_
 have hE01 := hE.trans' hE1
 have hc1 := (hbp.ext hE01).cell
 rw [ptr, ptr] at hc1
 simp -implicitDefEqProofs [-wps_asg, -wps_eff, wa2, we2, s1, hc1]
 refine (t_Kind (h.ext hE01) n).mono ?_
 rintro _ _ ⟨rfl, rfl⟩
 simp -implicitDefEqProofs [-wps_asg, -wps_eff, wa2, we2]
 have l8 : (List.replicate 8 (0 : Int)).length = 8 := rfl
 refine eff_store1 (B := B6) (i := 0) (by simp) hb1 (by simp [st]) (by simp [Value.cells, encU]) (by simp [encU]) sz5 fun W2 hO2 hb2 => ?_
 have hb2' : Blk W2 B6 (st (m.kind n).1 0 0 (List.replicate 8 0)).toArray 52 := by simpa [st, encU] using hb2
 have hE02 : Ext w W2 := hO2.ext hE01 (by omega)
 have hc2 := (hbp.ext hE02).cell
 rw [ptr, ptr] at hc2
 simp -implicitDefEqProofs [-wps_asg, -wps_eff, wa2, we2, s1, hc2]
 refine (t_Tag (h.ext hE02) n).mono ?_
 rintro _ _ ⟨rfl, rfl⟩
 simp -implicitDefEqProofs [-wps_asg, -wps_eff, wa2, we2]
 refine eff_store1 (B := B6) (i := 1) (by simp) hb2' (by simp [st]) (by simp [Value.cells]) (by simp) sz3a fun W3 hO3 hb3 => ?_
 have hb3' : Blk W3 B6 (st (m.kind n).1 (m.tag n).1 0 (List.replicate 8 0)).toArray 52 := by simpa [st] using hb3
 have hE03 : Ext w W3 := hO3.ext hE02 (by omega)
 have hc3 := (hbp.ext hE03).cell
 rw [ptr, ptr] at hc3
 simp -implicitDefEqProofs [-wps_asg, -wps_eff, wa2, we2, s1, hc3]
 refine (t_Size (h.ext hE03) n).mono ?_
 rintro _ _ ⟨rfl, rfl⟩
 simp -implicitDefEqProofs [-wps_asg, -wps_eff, wa2, we2]
 refine eff_store1 (B := B6) (i := 2) (by simp) hb3' (by simp [st]) (by simp [Value.cells]) (by simp) sz3a fun W4 hO4 hb4 => ?_
 have hb4' : Blk W4 B6 (st (m.kind n).1 (m.tag n).1 (m.size n).1 (List.replicate 8 0)).toArray 52 := by simpa [st] using hb4
 have hE04 : Ext w W4 := hO4.ext hE03 (by omega)
 have hB0 : w.heap.size ≤ B6 := by omega
 simp -implicitDefEqProofs [-wps_asg, -wps_eff, wa2, we2, -wpi_block]
 refine look_get (n := n) h hbp hE04 hB0 hb4' (by simp [s1]) (by simp) (by simp) (by simp) fun ρ2 W5 hk2 hF5 hE05 hb5 => ?_
 simp -implicitDefEqProofs [-wps_asg, -wps_eff, wa2, we2, ir22_k7, -wpi_block]
 refine look_fetch (n := n) h hbp hE05 hB0 hb5 ?_ ?_ ?_ (by simp) fun ρ3 W6 hk3 hF6 hE06 hb6 => ?_
 ·simpa using (hk2 1 (by simp)).trans (by simp [s1])
 ·simpa using (hk2 5 (by simp)).trans (by simp)
 ·simpa using (hk2 6 (by simp)).trans (by simp)
 have v3 : ρ3 3 = lv := (hk3 3 (by simp)).trans (by simpa using (hk2 3 (by simp)).trans (by simp [s3]))
 have v1 : ρ3 1 = .pointer (some ⟨Bp, 0, none⟩) := (hk3 1 (by simp)).trans (by simpa using (hk2 1 (by simp)).trans (by simp [s1]))
 have v6 : ρ3 6 = .pointer (some ⟨B6, 0, none⟩) := (hk3 6 (by simp)).trans (by simpa using (hk2 6 (by simp)).trans (by simp))
 have v11 : ρ3 11 = wv := (hk3 11 (by simp)).trans (by simpa using (hk2 11 (by simp)).trans (by simp [s11]))
 have v12 : ρ3 12 = .int .i64 L.length := (hk3 12 (by simp)).trans (by simpa using (hk2 12 (by simp)).trans (by simp [s12]))
 have v13 : ρ3 13 = .int .i64 k := (hk3 13 (by simp)).trans (by simpa using (hk2 13 (by simp)).trans (by simp [h13]))
 clear hk2 hk3
 have hb6' : Blk W6 B6 (stOf m n).toArray 52 := hb6
 have hFall : Fr (fun b => b = B6) W W6 := ((((((Fr.of (S := fun b => b = B6) hE1).trans (Fr.only (S := fun b => b = B6) hO2 rfl) fun x hx => .inl hx).trans (Fr.only (S := fun b => b = B6) hO3 rfl) fun x hx => .inl hx).trans (Fr.only (S := fun b => b = B6) hO4 rfl) fun x hx => .inl hx).trans hF5 fun x hx => .inl hx).trans hF6 fun x hx => .inl hx)
 have hlv6 : Own w.heap.size 52 11 W6 lv ((L.take k).flatMap (stOf m)) := Own.same' hlv fun b hb => hFall.block b (Own.blk hlv b hb).2 (by have := (Own.blk hlv b hb).2; omega)
 have hrow : Eng.rowAt W6 ⟨B6, 0, none⟩ 0 11 = some (stOf m n) := by
  have := row_blk hb6'
  simpa [stOf_len] using this
 have z6 := hFall.size
 simp -implicitDefEqProofs [-wps_asg, -wps_eff, wa2, we2, ir22_k6, v6, hrow, v3]
 refine eff_lit si49 (by decide) (by decide) (by simp [Value.cells, stOf_len]) fun Bx W7 hBx hE7 hbx _ => ?_
 simp [Value.cells] at hbx
 have hOx : Own w.heap.size 52 11 W7 (.slice (some ⟨Bx, 0, none⟩) 1 1) (stOf m n) := Own.lit hbx (by rw [stOf_len]) (by omega) (by decide)
 simp -implicitDefEqProofs [-wps_asg, -wps_eff, wa2, we2]
 have hfl := flat_len11 m (L.take k)
 rw [List.length_take] at hfl
 have hsl := stOf_len m n
 refine eff_appendG ri49 (base := w.heap.size) (by have := hE7.size; omega) (by simp) (by simp) (hlv6.ext hE7) (own_cells hOx) (stOf_one m n) (by omega) (by omega) fun lv3 W8 hly hgy _ => ?_
 have hE08 : Ext w W8 := (Fr.grown hgy).ext (hE06.trans' hE7) fun b hb => (Own.blk hlv b hb).1
 simp -implicitDefEqProofs [-wps_asg, -wps_eff, wa2, we2, ir22_k8, v13, hwk]
 refine (hI _ _ _).2 ⟨by simp [v1], by simp [v11], by simp [v12], hE08, lv3, by simp, ?_⟩
 rw [flat_succ hlt, ← hn]
 exact hly
end
end Go.L17
namespace Go.L17
open Go Go.Eng Go.RowKit
open Go.Proofs hiding encI
set_option maxRecDepth 100000
set_option maxHeartbeats 4000000
theorem row11 {m : MS} {L : List Int} {b : Nat} {W : World} {v : Value} (h : Own b 52 11 W v (L.flatMap (stOf m))) {k : Nat} (hk : k < L.length) : Eng.rowAt W (slAddr v (k * 11)) 0 11 = some (stOf m L[k]) := by
 have hc := own_cells h
 have hl := stOf_len m L[k]
 have hfl := flat_len11 m L
 have hsp : L.flatMap (stOf m) = (L.take k).flatMap (stOf m) ++ (stOf m L[k] ++ (L.drop (k + 1)).flatMap (stOf m)) := by
  conv => lhs; rw [← List.take_append_drop k L, List.flatMap_append, List.drop_eq_getElem_cons hk, List.flatMap_cons]
 have hlt := flat_len11 m (L.take k)
 rw [List.length_take, Nat.min_eq_left (by omega)] at hlt
 have := rowAt_of (w := W) (a := slAddr v (k * 11)) (l := stOf m L[k]) (i := 0) fun j hj => by
  have hlt2 : k * 11 + j < (L.flatMap (stOf m)).length := by rw [hfl]; omega
  rw [slAddr_add, show 0 + j = j by omega, hc.cell _ hlt2]
  congr 1
  have e : (L.flatMap (stOf m))[k * 11 + j]? = (stOf m L[k])[j]? := by
   rw [hsp, List.getElem?_append_right (by omega), hlt, List.getElem?_append_left (by omega)]
   congr 1; omega
  rw [List.getElem?_eq_getElem hlt2, List.getElem?_eq_getElem hj] at e
  exact Option.some.inj e
 rw [hl] at this
 exact this
theorem st_eq (m : MS) (n : Int) (w : World) : (Op.equalIn 10000 52 (.agg (stOf m n).toArray) (.agg (stOf m n).toArray)).run Tryz.prog w = .ok true w := by
 refine eq52 _ ⟨_, rfl⟩ ⟨_, rfl⟩ ⟨_, rfl⟩ (fun i hi => ?_) w
 have hl := fV_len (fun i : Nat => (m.get n i).2.1) (fun i : Nat => (m.fetch n i).1) (m.size n).1.toNat
 have := st_get (k := (m.kind n).1) (tag := (m.tag n).1) (size := (m.size n).1) (vs := fV (fun i : Nat => (m.get n i).2.1) (fun i : Nat => (m.fetch n i).1) (m.size n).1.toNat) (i := i) (by rw [hl]; exact hi)
 exact ⟨_, by rw [List.getElem?_toArray]; exact this⟩
theorem l_eqSt {m : MS} {L : List Int} (hlen : L.length ≤ 1000) {a b : Nat} {w : World} {x y : Value} (hx : Own a 52 11 w x (L.flatMap (stOf m))) (hy : Own b 52 11 w y (L.flatMap (stOf m))) : Calls Tryz.prog 31 #[x, y] w fun e w' => e = .returned (.bool true) ∧ Ext w w' := by
 obtain ⟨R, hR⟩ : ∃ R : Ending → World → Prop, R = fun e w' => e = .returned (.bool true) ∧ Ext w w' := ⟨_, rfl⟩
 rw [← hR]
 have hfl := flat_len11 m L
 have hcx := own_cells hx
 have hcy := own_cells hy
 have hlx : slLen x = L.length := by have := hcx.len; omega
 have hly : slLen y = L.length := by have := hcy.len; omega
 refine ir31_calls fun ρ r0 r1 => ?_
 simp -implicitDefEqProofs [-wps_asg, -wps_eff, wa2, we2, ir31, r0, r1, hcx.is, hcy.is, hlx, hly, ir31_k5]
 obtain ⟨I, hI⟩ : ∃ I : Nat → Env → World → Prop, ∀ i ρ' W', I i ρ' W' ↔ (ρ' 0 = x ∧ ρ' 1 = y ∧ ρ' 12 = .int .i64 L.length ∧ Ext w W') := ⟨_, fun _ _ _ => Iff.rfl⟩
 refine loopC 13 L.length I (by rfl) ((hI _ _ _).2 ⟨by simp [r0], by simp [r1], by rfl, ext_refl _⟩) ?_
 intro k ρ' W hk h13 hi
 obtain ⟨s0, s1, s12, hE⟩ := (hI _ _ _).1 hi
 have hwk : IntKind.i64.wrap ((k : Int) + 1) = (k : Int) + 1 := i64w (by omega)
 by_cases hlt : k < L.length
 rotate_left
 ·have hke : k = L.length := by omega
  subst hke
  simp -implicitDefEqProofs [-wps_asg, -wps_eff, wa2, we2, ir31_l3, h13, s12, ir31_k4]
  rw [hR]
  exact ⟨rfl, hE⟩
 simp -implicitDefEqProofs [-wps_asg, -wps_eff, wa2, we2, ir31_l3, h13, s12, hlt, ir31_k2]
 obtain ⟨X, hX⟩ : ∃ X : World → Prop, X = fun W' => Own a 52 11 W' x (L.flatMap (stOf m)) ∧ Own b 52 11 W' y (L.flatMap (stOf m)) := ⟨_, rfl⟩
 refine raw_ord ir31_o6_ok X fun W1 hE1 _ => ?_
 have hE01 := hE.trans' hE1
 have hX1 : X W1 := by rw [hX]; exact ⟨hx.ext hE01, hy.ext hE01⟩
 have cx : ∀ W', X W' → Eng.rowAt W' (slAddr x (k * 11)) 0 11 = some (stOf m L[k]) := fun W' h => by rw [hX] at h; exact row11 h.1 hlt
 have cy : ∀ W', X W' → Eng.rowAt W' (slAddr y (k * 11)) 0 11 = some (stOf m L[k]) := fun W' h => by rw [hX] at h; exact row11 h.2 hlt
 refine ⟨hX1, ?_⟩
 simp +contextual -implicitDefEqProofs [ir31_o6, s0, s1, hcx.is, hcy.is, hlx, hly, hlt, cx, cy, hX1]
 refine eff_neqT (xs := (stOf m L[k]).toArray) (ys := (stOf m L[k]).toArray) (b := true) (by simp) (by simp) (by kernel_rfl) (st_eq m L[k] W1) ?_
 simp -implicitDefEqProofs [-wps_asg, -wps_eff, wa2, we2, ir31_k0, ir31_k1, h13, hwk]
 exact (hI _ _ _).2 ⟨by simp [s0], by simp [s1], by simp [s12], hE01⟩
theorem stOf_congr {m m1 : MS} {n : Int} (h1 : m1.there n = m.there n) (h2 : m1.at n = (m.at n).old) : stOf m1 n = stOf m n := by
 have k : m1.kind n = m.kind n := by unfold MS.kind; rw [h1, h2]; rfl
 have t : m1.tag n = m.tag n := by unfold MS.tag; rw [h1, h2]; rfl
 have a : m1.arrayE n = m.arrayE n := by unfold MS.arrayE; rw [h1, h2]; rfl
 have z : m1.size n = m.size n := by unfold MS.size; rw [a, h2]; rfl
 have f : ∀ i : Int, m1.fieldE n i = m.fieldE n i := fun i => by unfold MS.fieldE; rw [h1, h2]; rfl
 have g : ∀ i : Int, m1.get n i = m.get n i := fun i => by unfold MS.get; rw [f, h2]; rfl
 have e : ∀ i : Int, m1.elemE n i = m.elemE n i := fun i => by unfold MS.elemE; rw [a, h2]; rfl
 have q : ∀ i : Int, m1.fetch n i = m.fetch n i := fun i => by unfold MS.fetch; rw [e, h2]; rfl
 unfold stOf
 rw [k, t, z]
 simp only [g, q]
theorem swept_states {m : MS} {S : List Int} {x : Int} (hw : m.wf) (hE : m.minorE S = 0) : (m.reached S).1.flatMap (stOf (m.swept S x)) = (m.reached S).1.flatMap (stOf m) := by
 have hR := (minor_root hE).2
 have key : ∀ l : List Int, (∀ n ∈ l, m.met S n = true) → l.flatMap (stOf (m.swept S x)) = l.flatMap (stOf m) := by
  intro l
  induction l with
  | nil => intro _; rfl
  | cons a l ih =>
   intro h
   have ha := h a (by simp)
   have ht := reach_there hw (roots_there hR) ha
   rw [List.flatMap_cons, List.flatMap_cons, ih fun n hn => h n (by simp [hn]), stOf_congr (by rw [swept_there hw hE, ha, ht]) (swept_at hw hE (there_le ht) ha)]
 refine key _ fun n hn => ?_
 unfold MS.reached at hn
 rw [if_neg (by simp [hR])] at hn
 exact (List.mem_filter.1 hn).2
structure Kp (w : World) (base Hb Bp Rp B13 : Nat) (wv bv sv : Value) (L S : List Int) (F : List Value) (β : Lay) (m : MS) (c : Option Wh) (W : World) : Prop where
 t : One w base Hb Bp Rp β m c W
 kw : Blk W B13 #[wv] 35
 nw : ¬ β.has B13
 lw : Ls W β wv L
 ls : Ls W β sv S
 ob : Own 0 52 11 W bv F
 nb : ∀ b, bv.ownBlock = some b → ¬ β.has b
section
variable {w : World} {base Hb Bp Rp B13 : Nat} {wv bv sv : Value} {L S : List Int} {F : List Value} {β β' : Lay} {m m' : MS} {c c' : Option Wh} {W W' : World}
theorem Kp.ext (k : Kp w base Hb Bp Rp B13 wv bv sv L S F β m c W) (hE : Ext W W') : Kp w base Hb Bp Rp B13 wv bv sv L S F β m c W' :=
 ⟨k.t.ext hE, k.kw.ext hE, k.nw, k.lw.ext hE, k.ls.ext hE, k.ob.ext hE, k.nb⟩
theorem Kp.turn (k : Kp w base Hb Bp Rp B13 wv bv sv L S F β m c W) (h : HAt base W' Hb β' m' c') (hT : Turn β W β' W') : Kp w base Hb Bp Rp B13 wv bv sv L S F β' m' c' W' := by
 refine ⟨k.t.turn h hT, Blk.keep k.kw (hT.1.block _ k.kw.lt k.nw), fun hh => ?_, k.lw.turn hT, k.ls.turn hT, Own.same' k.ob fun b hb => hT.1.block b (Own.blk k.ob b hb).2 (k.nb b hb), fun b hb hh => ?_⟩
 ·have := k.kw.lt
  rcases hT.2 _ hh with e | e
  ·exact k.nw e
  ·omega
 ·have := (Own.blk k.ob b hb).2
  rcases hT.2 _ hh with e | e
  ·exact k.nb b hb e
  ·omega
end
noncomputable def ir4_a5 : OT := .step (.asg (some (78, false)) 83 (.op1 .not (.var 82))) false <| .step (.asg none 84 (.ite (.var 78) (.const (.bool true)) (.var 83))) false <| .done
noncomputable def ir4_a4 : OT := .step (.eff (some (78, false)) (some 82) (.call { callee := .value (.func 31), args := #[(.tmp 80), (.tmp 81)], argTypes := #[49, 49] }) 4) false ir4_a5
noncomputable def ir4_a3 : OT := .take (some (69, false)) 76 (.op1 .not (.var 75)) <| .take none 77 (.ite (.var 69) (.const (.bool true)) (.var 76)) <| .take none 78 (.var 77) <| .take (some (78, false)) 79 (.var 15) <| .take (some (78, false)) 81 (.var 16) <| .step (.eff (some (78, false)) (some 80) (.call { callee := .value (.tmp 79), args := #[], argTypes := #[] }) 49) true ir4_a4
noncomputable def ir4_a2 : OT := .step (.eff (some (69, false)) (some 75) (.call { callee := .value (.func 29), args := #[(.tmp 73), (.tmp 74)], argTypes := #[35, 35] }) 4) true ir4_a3
noncomputable def ir4_a1 : OT := .take none 68 (.op1 .not (.var 67)) <| .take none 69 (.var 68) <| .take (some (69, false)) 70 (.op1 (.fadr 0) (.var 9)) <| .take (some (69, false)) 71 (.op1 .load1 (.var 70)) <| .take (some (69, false)) 72 (.var 11) <| .take (some (69, false)) 74 (.op1 .load1 (.var 13)) <| .step (.eff (some (69, false)) (some 73) (.call { callee := .value (.func 30), args := #[(.tmp 71), (.tmp 72)], argTypes := #[25, 3] }) 35) true ir4_a2
noncomputable def ir4_a0 : OT := .take none 63 (.op1 (.fadr 0) (.var 9)) <| .take none 64 (.op1 .load1 (.var 63)) <| .take none 65 (.var 12) <| .take none 66 (.var 17) <| .step (.eff none (some 67) (.call { callee := .value (.func 28), args := #[(.tmp 64), (.tmp 65), (.tmp 66)], argTypes := #[25, 35, 3] }) 4) true ir4_a1
theorem ir4_a_is : ir4_o14 = ir4_a0 := rfl
noncomputable def ir4_b4 : OT := .step (.asg none 99 (.ite (.var 92) (.var 98) (.const (.bool false)))) false <| .step (.asg none 8 (.var 99)) false <| .done
noncomputable def ir4_b3 : OT := .step (.eff (some (92, true)) (some 98) (.call { callee := .value (.func 29), args := #[(.tmp 96), (.tmp 97)], argTypes := #[35, 35] }) 4) false ir4_b4
noncomputable def ir4_b2 : OT := .take none 91 (.ite (.var 86) (.var 90) (.const (.bool false))) <| .take none 92 (.var 91) <| .take (some (92, true)) 93 (.op1 (.fadr 0) (.var 9)) <| .take (some (92, true)) 94 (.op1 .load1 (.var 93)) <| .take (some (92, true)) 95 (.var 11) <| .take (some (92, true)) 97 (.op1 .load1 (.var 13)) <| .step (.eff (some (92, true)) (some 96) (.call { callee := .value (.func 30), args := #[(.tmp 94), (.tmp 95)], argTypes := #[25, 3] }) 35) true ir4_b3
noncomputable def ir4_b1 : OT := .take none 86 (.var 85) <| .take (some (86, true)) 87 (.op1 (.fadr 0) (.var 9)) <| .take (some (86, true)) 88 (.op1 .load1 (.var 87)) <| .take (some (86, true)) 89 (.var 12) <| .step (.eff (some (86, true)) (some 90) (.call { callee := .value (.func 28), args := #[(.tmp 88), (.tmp 89), (.const (.int .i64 1))], argTypes := #[25, 35, 3] }) 4) true ir4_b2
noncomputable def ir4_b0 : OT := .step (.eff none (some 85) (.call { callee := .value (.func 11), args := #[], argTypes := #[] }) 4) true ir4_b1
theorem ir4_b_is : ir4_o16 = ir4_b0 := rfl
theorem law4 {w : World} {v rv : Value} {l : List OpD} {roots : List Int} (hs : Scr w v l) (hr : SlW encI w rv roots) (words work : Int) : Calls Tryz.prog 4 #[.int .i64 words, v, rv, .int .i64 work] w (okR w) := by
 obtain ⟨R, hR⟩ : ∃ R, R = okR w := ⟨_, rfl⟩
 rw [← hR]
 refine ir4_calls fun ρ r0 r1 r2 r3 => ?_
 simp -implicitDefEqProofs [-wps_asg, -wps_eff, wa2, we2, ir4, r1]
 refine (l_short hs).mono ?_
 rintro _ W0 ⟨rfl, hE0⟩
 have hrI : ((10 : Int) < (roots.length : Int)) ↔ 10 < roots.length := by omega
 cases hsh : shortB l with
 | false =>
  simp -implicitDefEqProofs [-wps_asg, -wps_eff, wa2, we2]
  refine (l_kept W0).mono ?_
  rintro _ W5 ⟨rfl, hE5⟩
  simp -implicitDefEqProofs [-wps_asg, -wps_eff, wa2, we2]
  rw [hR]
  exact ⟨rfl, hE0.trans' hE5⟩
 | true =>
 by_cases hrl : 10 < roots.length
 ·simp -implicitDefEqProofs [-wps_asg, -wps_eff, wa2, we2, r2, hr.is, hr.len, hrl, hrI]
  refine (l_kept W0).mono ?_
  rintro _ W5 ⟨rfl, hE5⟩
  simp -implicitDefEqProofs [-wps_asg, -wps_eff, wa2, we2]
  rw [hR]
  exact ⟨rfl, hE0.trans' hE5⟩
 obtain ⟨hl70, _⟩ := short_few hsh
 have hrs := hr.sl (by omega)
 simp -implicitDefEqProofs [-wps_asg, -wps_eff, wa2, we2, r2, hr.is, hr.len, hrl, hrI, ir4_k5, r0, r1]
 refine (l_built (hs.ext hE0) hsh words).mono ?_
 rintro _ W1 ⟨base, Hb, Rb, β, γ, c, rfl, hbase, j, hE1⟩
 obtain ⟨m, hm⟩ : ∃ m, m = builtM (wordsOf words) l := ⟨_, rfl⟩
 rw [← hm] at j
 have hon : m.on = false := by rw [hm]; exact (builtM_on _ _).1
 have hmw : m.words = wordsOf words := by rw [hm]; exact (builtM_on _ _).2
 have hwd := words_in words
 simp -implicitDefEqProofs [-wps_asg, -wps_eff, wa2, we2]
 refine eff_alloc z31 fun Bp W2 hBp hE2 hb2 _ => ?_
 simp -implicitDefEqProofs [-wps_asg, -wps_eff, wa2, we2]
 refine eff_storeN (B := Bp) (cs := #[.pointer none, .pointer none]) (by simp) hb2 (by simp [Value.cells]) (by simp [Value.cells, ptr]) sz31 fun W3 hO3 hbp3 => ?_
 simp [Value.cells] at hbp3
 have hE13 : Ext W1 W3 := hO3.ext hE2 hBp
 have hE03 : Ext w W3 := (hE0.trans' hE1).trans' hE13
 have z0 := hE0.size
 have z1 := hE1.size
 have z13 := hE13.size
 have z3 := hE03.size
 have j3 := j.ext hE13
 have hnp := j.newBlk (b := Bp) hBp
 have lp := hbp3.lt
 have hml := j.hlen (by omega)
 have htl := j.htl (by omega)
 obtain ⟨ov, dv, tv, kv', vv', hb, hobj, _⟩ := j3.r.hd
 have hro := RowO.of hobj
 have hc3 := hbp3.cell
 rw [ptr, ptr] at hc3
 simp -implicitDefEqProofs [-wps_asg, -wps_eff, wa2, we2, ir4_k4, hc3, hb.cell, hro.is, hro.len, r2]
 refine (l_refs (hrs.ext hE03) (by omega) m.objs.length (by omega)).mono ?_
 rintro _ W4 ⟨x, rfl, hx, hE4⟩
 have j4 := j3.ext hE4
 have hbp4 := hbp3.ext hE4
 simp -implicitDefEqProofs [-wps_asg, -wps_eff, wa2, we2]
 have hxn : ∀ b, x.ownBlock = some b → ¬ β.has b ∧ ¬ γ.has b ∧ b ≠ Bp := fun b hb => by
  have h1 := (Own.blk hx b hb).1
  have h2 := j3.newBlk (b := b) h1
  exact ⟨h2.1, h2.2, by omega⟩
 refine (t_some j4 hbp4 (b0 := W3.heap.size) hE4.size hx (by omega) hxn (gf := 19) (.inr (.inr rfl))).mono ?_
 rintro _ W5 ⟨sv, rfl, hsv, hsb, j5, hbp5, hD⟩
 have hE35 : Ext W3 W5 := DelF.ext hE4 hD fun b hb => (Own.blk hx b hb).1
 obtain ⟨S, hS⟩ : ∃ S, S = someL m roots := ⟨_, rfl⟩
 rw [← hS] at hsv
 have hSl : S.length ≤ 10 := by rw [hS]; have := some_len m roots; omega
 have hSE : m.rootE S = 0 := by rw [hS]; exact some_rootE (by omega)
 have hmE : m.minorE S = 0 := by unfold MS.minorE; rw [hon, if_neg (by simp)]; exact hSE
 have t5 : One w base Hb Bp Rb β m c W5 := ⟨j5.h, hbp5, hnp.1, hE03.trans' hE35, by omega, j5.bw⟩
 have ls5 : Ls W5 β sv S := ⟨Own.low0 hsv, fun b hb => (hxn b (by rw [← hsb]; exact hb)).1⟩
 have hre : (m.reached S).2 = 0 := by unfold MS.reached; rw [if_neg (by simp [hSE])]
 obtain ⟨L, hL⟩ : ∃ L, L = (m.reached S).1 := ⟨_, rfl⟩
 have hLl := reached_len (m := m) (roots := S)
 rw [← hL] at hLl
 have hc5 := t5.kp.cell
 rw [ptr, ptr] at hc5
 simp -implicitDefEqProofs [-wps_asg, -wps_eff, wa2, we2, hc5]
 refine (t_Reached t5.p (ls5.sl (by omega))).mono ?_
 rintro _ W6 ⟨wv, rfl, hwv, hE6⟩
 rw [← hL] at hwv
 have t6 := t5.ext hE6
 have ls6 := ls5.ext hE6
 have lw6 : Ls W6 β wv L := Ls.new t5 hwv
 simp -implicitDefEqProofs [-wps_asg, -wps_eff, wa2, we2, hre]
 have z35z : zeroCellsOf Tryz.prog 35 = some #[.slice none 0 0] := by kernel_rfl
 refine eff_alloc z35z fun B13 W7 hB13 hE7 hb7 _ => ?_
 simp -implicitDefEqProofs [-wps_asg, -wps_eff, wa2, we2]
 have hwo := isSl_one (lw6.sl (by omega)).is
 have hwcells : wv.cells = #[wv] := by
  have := (lw6.sl (by omega)).is
  cases wv <;> simp [isSl] at this <;> rfl
 refine eff_store1 (B := B13) (i := 0) (cs := #[.slice none 0 0]) (by simp) hb7 (by simp) (by simpa using hwcells) (by simpa using hwo) (by kernel_rfl) fun W8 hO8 hb8 => ?_
 have hb8' : Blk W8 B13 #[wv] 35 := by simpa using hb8
 have hE68 : Ext W6 W8 := hO8.ext hE7 hB13
 have t8 := t6.ext hE68
 have lw8 := lw6.ext hE68
 have ls8 := ls6.ext hE68
 have hn13 : ¬ β.has B13 := fun ⟨r, hr⟩ => by have := t6.p.hi r _ hr; omega
 simp -implicitDefEqProofs [-wps_asg, -wps_eff, wa2, we2, ir4_k3]
 refine eff_callv (f := 22) (fs := #[]) (caps := #[ptr B13, ptr Bp]) cb22 (by simp [ptr]) ?_
 simp -implicitDefEqProofs
 refine (l_look t8.p t8.kp hb8' (lw8.sl (by omega)) (by omega)).mono ?_
 rintro _ W9 ⟨bv, rfl, hbv, hE9⟩
 obtain ⟨F, hF⟩ : ∃ F, F = L.flatMap (stOf m) := ⟨_, rfl⟩
 rw [← hF] at hbv
 obtain ⟨s1, hs1⟩ : ∃ s, s = stepOf work 50 := ⟨_, rfl⟩
 obtain ⟨a1, a2, a3, a4⟩ := step_ev (n := work) (k := 50) (by omega)
 have i1 := stepOf_in (n := work) (k := 50) (by omega)
 rw [← hs1] at a1 a2 a3 a4 i1
 have k9 : Kp w base Hb Bp Rb B13 wv bv sv L S F β m c W9 := by
  refine ⟨t8.ext hE9, hb8'.ext hE9, hn13, lw8.ext hE9, ls8.ext hE9, Own.low0 hbv, fun b hb ⟨r, hr⟩ => ?_⟩
  have := t8.p.hi r _ hr
  have := (Own.blk hbv b hb).1
  omega
 simp -implicitDefEqProofs [-wps_asg, -wps_eff, wa2, we2, r3, a1, a2, a3, a4]
 obtain ⟨X, hX⟩ : ∃ X : World → Prop, X = fun W' => Blk W' Bp #[ptr Hb, ptr Rb] 31 ∧ Blk W' B13 #[wv] 35 := ⟨_, rfl⟩
 have c0 : ∀ W', X W' → W'.cell? ⟨Bp, 0, none⟩ = some (.pointer (some ⟨Hb, 0, none⟩)) := fun W' h => by rw [hX] at h; rw [h.1.cell]; rfl
 have c1 : ∀ W', X W' → W'.cell? ⟨B13, 0, none⟩ = some wv := fun W' h => by rw [hX] at h; rw [h.2.cell]; rfl
 refine raw_ord ir4_o14_ok X fun Wa hEa _ => ?_
 have ka := k9.ext hEa
 have hXa : X Wa := by rw [hX]; exact ⟨ka.t.kp, ka.kw⟩
 refine ⟨hXa, ?_⟩
 have hu : m.used ≤ 500 := by have := ka.t.p.words; omega
 simp +contextual -implicitDefEqProofs [ir4_a_is, ir4_a0, c0, c1, hXa]
 refine (l_swept ka.t.p ka.t.bw ka.ls.own (by omega) ka.ls.no hmE hu (by omega) (work := s1) (by omega)).mono ?_
 rintro _ Wb ⟨rfl, x1, β1, c1', hb1, hT1, _⟩
 obtain ⟨m1, hm1⟩ : ∃ m1, m1 = m.swept S x1 := ⟨_, rfl⟩
 have hwf := ka.t.p.wf
 have hall : m1.thereL = L := by rw [hm1, hL]; exact swept_all hwf hmE
 have hln1 : m1.objs.length = m.objs.length := by rw [hm1]; exact swept_len hmE
 have hF1 : L.flatMap (stOf m1) = F := by rw [hm1, hF, hL]; exact swept_states hwf hmE
 have hmE1 : m1.minorE S = 0 := by rw [hm1]; exact swept_rootE hwf hmE
 have hmw1 : m1.words = m.words := by rw [hm1]; exact swept_words hmE
 have htl1 : m1.told.length ≤ 100000 := by
  rw [hm1, swept_told hwf hmE, List.length_append]
  have h1 := List.length_filter_le (fun n => (m.at n).watched) (m.nums.filter fun n => m.there n && !m.met S n)
  have h2 := List.length_filter_le (fun n => m.there n && !m.met S n) m.nums
  rw [nums_upto, upto_len] at h2
  rw [nums_upto] at h1 ⊢
  omega
 have hR1 : (m1.reached S).1 = L := by
  have hr1 := (minor_root hmE1).2
  unfold MS.reached
  rw [if_neg (by simp [hr1]), hL]
  unfold MS.reached
  rw [if_neg (by simp [hSE]), nums_len hln1]
  exact List.filter_congr fun n _ => by rw [hm1]; exact swept_met hwf hmE n
 rw [← hm1] at hb1
 have kb := ka.turn hb1 hT1
 have hXb : X Wb := by rw [hX]; exact ⟨kb.t.kp, kb.kw⟩
 have hth := l_there kb.t.p (by omega)
 rw [hln1, hall] at hth
 simp +contextual -implicitDefEqProofs [ir4_a1, c0, c1, hXb]
 refine hth.mono ?_
 rintro _ Wc ⟨av, rfl, hav, hEc⟩
 have kc := kb.ext hEc
 have hXc : X Wc := by rw [hX]; exact ⟨kc.t.kp, kc.kw⟩
 simp +contextual -implicitDefEqProofs [ir4_a2, c0, c1, hXc]
 refine (t_Equal (hav.sl (enc := encI) (by omega)) (kc.lw.sl (by omega))).mono ?_
 rintro _ Wd ⟨rfl, hEd⟩
 have kd := kc.ext hEd
 have hXd : X Wd := by rw [hX]; exact ⟨kd.t.kp, kd.kw⟩
 simp +contextual -implicitDefEqProofs [ir4_a3, c0, c1, hXd]
 refine eff_callv (f := 22) (fs := #[]) (caps := #[ptr B13, ptr Bp]) cb22 (by simp [ptr]) ?_
 simp -implicitDefEqProofs
 refine (l_look kd.t.p kd.t.kp kd.kw (kd.lw.sl (by omega)) (by omega)).mono ?_
 rintro _ We ⟨bv2, rfl, hbv2, hEe⟩
 rw [hF1] at hbv2
 have ke := kd.ext hEe
 have hXe : X We := by rw [hX]; exact ⟨ke.t.kp, ke.kw⟩
 simp +contextual -implicitDefEqProofs [ir4_a4, hXe]
 refine (l_eqSt (m := m) (L := L) (by omega) (by rw [← hF]; exact hbv2) (by rw [← hF]; exact ke.ob)).mono ?_
 rintro _ Wf ⟨rfl, hEf⟩
 have kf := ke.ext hEf
 simp -implicitDefEqProofs [-wps_asg, -wps_eff, wa2, we2, ir4_a5, ir4_k2, ir4_k1, ir4_k0]
 refine raw_ord ir4_o16_ok X fun Wg hEg _ => ?_
 have kg := kf.ext hEg
 have hXg : X Wg := by rw [hX]; exact ⟨kg.t.kp, kg.kw⟩
 refine ⟨hXg, ?_⟩
 simp +contextual -implicitDefEqProofs [ir4_b_is, ir4_b0]
 refine (l_kept Wg).mono ?_
 rintro _ Wh' ⟨rfl, hEh⟩
 have kh := kg.ext hEh
 have hXh : X Wh' := by rw [hX]; exact ⟨kh.t.kp, kh.kw⟩
 have hu1 : m1.used ≤ 500 := by have := kh.t.p.words; omega
 simp +contextual -implicitDefEqProofs [ir4_b1, c0, c1, hXh]
 refine (l_swept kh.t.p kh.t.bw kh.ls.own (by omega) kh.ls.no hmE1 hu1 (by omega) (work := 1) (by omega)).mono ?_
 rintro _ Wi ⟨rfl, x2, β2, c2', hb2', hT2, _⟩
 have ki := kh.turn hb2' hT2
 have hXi : X Wi := by rw [hX]; exact ⟨ki.t.kp, ki.kw⟩
 have hwf1 := kh.t.p.wf
 have hth2 := l_there ki.t.p (by rw [swept_len hmE1]; omega)
 rw [swept_len hmE1, hln1, swept_all hwf1 hmE1, hR1] at hth2
 simp +contextual -implicitDefEqProofs [ir4_b2, c0, c1, hXi]
 refine hth2.mono ?_
 rintro _ Wj ⟨av2, rfl, hav2, hEj⟩
 have kj := ki.ext hEj
 have hXj : X Wj := by rw [hX]; exact ⟨kj.t.kp, kj.kw⟩
 simp +contextual -implicitDefEqProofs [ir4_b3, c0, c1, hXj]
 refine (t_Equal (hav2.sl (enc := encI) (by omega)) (kj.lw.sl (by omega))).mono ?_
 rintro _ Wk ⟨rfl, hEk⟩
 simp -implicitDefEqProofs [ir4_b4]
 rw [hR]
 exact ⟨rfl, (kj.ext hEk).t.E⟩
end Go.L17
