/- Texts of mine for the claims about layer 17 (heap), joined: L17Bo, L17L9. -/
import Derived.Test.YtbopdbinllokkaaGreatJay
set_option linter.all false
set_option linter.unusedSimpArgs false
set_option linter.unusedVariables false
namespace Go.L17
open Go Go.Eng Go.RowKit
open Go.Proofs hiding encI
set_option maxRecDepth 100000
set_option maxHeartbeats 4000000
def tk (s N : Nat) : List Value := (List.range N).map fun i => .bool (decide (i < s))
theorem tk_len (s N : Nat) : (tk s N).length = N := by simp [tk]
theorem tk_zero (N : Nat) : List.replicate N (.bool false) = tk 0 N := by
 apply List.ext_getElem (by simp [tk])
 intro i h1 h2
 simp [tk]
theorem tk_get {s N i : Nat} (h : i < N) : (tk s N)[i]'(by rw [tk_len]; exact h) = .bool (decide (i < s)) := by simp [tk]
theorem tk_set {s N : Nat} (h : s < N) : (tk s N).set s (.bool true) = tk (s + 1) N := by
 apply List.ext_getElem (by simp [tk])
 intro i h1 h2
 rw [tk_len] at h2
 rw [tk_get h2]
 by_cases e : i = s
 ·subst e
  rw [List.getElem_set_self]; simp
 ·rw [List.getElem_set_ne (by omega), tk_get h2]
  congr 1
  rw [Bool.eq_iff_iff]; simp; omega
section
variable {base Hb Rb k : Nat} {β γ : Lay} {m : MS} {c : Option Wh} {w w0 : World}
def MS.sumT (m : MS) (k : Nat) : Int := ((m.objs.take k).map MO.need).sum
theorem sumT_succ {k : Nat} (hk : k < m.objs.length) : m.sumT (k + 1) = m.sumT k + m.objs[k].need := sum_take hk
theorem sumT_nonneg (m : MS) : ∀ k, 0 ≤ m.sumT k
 | 0 => by simp [MS.sumT]
 | k + 1 => by
  by_cases h : k < m.objs.length
  ·rw [sumT_succ h]; have := sumT_nonneg m k; have := need_nonneg m.objs[k]; omega
  ·have : m.sumT (k + 1) = m.sumT k := by unfold MS.sumT; rw [List.take_of_length_le (by omega), List.take_of_length_le (by omega)]
   rw [this]; exact sumT_nonneg m k
theorem sumT_used (m : MS) : m.sumT m.objs.length = m.used := by unfold MS.sumT MS.used; rw [List.take_length]
theorem sumT_mono (m : MS) : ∀ d k, k + d = m.objs.length → m.sumT k ≤ m.used
 | 0, k, h => by rw [show k = m.objs.length by omega, sumT_used]; exact Int.le_refl _
 | d + 1, k, h => by
  have := sumT_mono m d (k + 1) (by omega)
  rw [sumT_succ (by omega)] at this
  have := need_nonneg (m.objs[k]'(by omega))
  omega
theorem l_placed (j : Joint base w Hb Rb β γ k m c) (hk : k ≤ 90) (dense : Bool) : Calls Tryz.prog 55 #[.agg #[ptr Hb, ptr Rb], .bool dense] w (okR w) := by
 obtain ⟨R, hR⟩ : ∃ R, R = okR w := ⟨_, rfl⟩
 rw [← hR]
 have hl := j.hlen hk
 have hg := j.mg (by omega)
 obtain ⟨hu, hwd, hw0⟩ := j.h.words
 obtain ⟨N, hN⟩ : ∃ N : Nat, m.words = (N : Int) := ⟨m.words.toNat, by omega⟩
 have hNle : N ≤ 1000000 := by omega
 have hsz4 : sizeIs Tryz.prog 4 1 = true := sz4
 refine ir55_calls fun ρ r0 r1 => ?_
 simp -implicitDefEqProofs [-wps_asg, -wps_eff, wa2, we2, ir55]
 refine eff_box fun bp W1 hB1 hE1 hb1 hs1 => ?_
 rw [show evE ρ (.tmp 0) = ρ 0 from rfl, r0] at hb1
 have hbp1 : Blk W1 bp #[ptr Hb, ptr Rb] 31 := hb1
 have hc1 := hbp1.cell
 have j1 := j.ext hE1
 obtain ⟨ov, dv, tv, kv', vv', hb, hobj, hob, hdm, htl, hobs⟩ := j1.r.hd
 have hr := RowO.of hobj
 have hc := hb.cell
 rw [hN] at hc
 rw [ptr, ptr] at hc1
 simp -implicitDefEqProofs [-wps_asg, -wps_eff, wa2, we2, hc1, hc]
 refine eff_make (n := N) mi143 (by simp; rfl) (by simp; rfl) (by omega) (by omega) mz4 fun B W2 hB hE2 hb2 => ?_
 rw [tk_zero] at hb2
 obtain ⟨xv, hxv⟩ : ∃ xv, xv = Value.slice (some ⟨B, 0, none⟩) N N := ⟨_, rfl⟩
 have hx2 : Own W1.heap.size 4 1 W2 xv (tk 0 N) := by
  rw [hxv]
  exact Own.lit hb2 (by rw [tk_len]; omega) hB (by simp only [maxLen]; omega)
 rw [← hxv]
 have hE12 := hE1.trans' hE2
 have z1 := hE1.size
 have z2 := hE2.size
 have hc2 := (hbp1.ext hE2).cell
 rw [ptr, ptr] at hc2
 have hcb2 := (hb.ext hE2).cell
 have hr2 : RowO W2 ov kv' vv' m := RowO.of (hobj.ext hE2)
 simp -implicitDefEqProofs [-wps_asg, -wps_eff, wa2, we2, hc2, hcb2, hr2.is, hr2.len]
 obtain ⟨I, hI⟩ : ∃ I : Nat → Env → World → Prop, ∀ n ρ' W, I n ρ' W ↔ (ρ' 1 = .bool dense ∧ ρ' 2 = .pointer (some ⟨bp, 0, none⟩) ∧ ρ' 5 = xv ∧ ρ' 6 = .int .i64 (m.sumT n) ∧ ρ' 23 = ov ∧ ρ' 24 = .int .i64 m.objs.length ∧ Ext W1 W ∧ Own W1.heap.size 4 1 W xv (tk (m.sumT n).toNat N)) := ⟨_, fun _ _ _ => Iff.rfl⟩
 refine loopC 25 m.objs.length I (by rfl) ((hI _ _ _).2 ⟨by simp [r1], by simp, by rfl, by simp [MS.sumT], by rfl, by rfl, hE2, by simpa [MS.sumT] using hx2⟩) ?_
 intro n ρ' W hn h25 hi
 obtain ⟨s1, s2, s5, s6, s23, s24, hE, hx⟩ := (hI _ _ _).1 hi
 have jW := j1.ext hE
 have hcW := (hbp1.ext hE).cell
 rw [ptr, ptr] at hcW
 by_cases hlt : n < m.objs.length
 rotate_left
 ·have hke : n = m.objs.length := by omega
  subst hke
  rw [sumT_used] at s6
  cases dense with
  | false =>
   simp -implicitDefEqProofs [-wps_asg, -wps_eff, wa2, we2, ir55_l10, h25, s24, ir55_k11, s1]
   rw [hR]
   exact ⟨rfl, hE1.trans' hE⟩
  | true =>
   simp -implicitDefEqProofs [-wps_asg, -wps_eff, wa2, we2, ir55_l10, h25, s24, ir55_k11, s1, s2, hcW]
   refine (r_Used jW.r hg).mono ?_
   rintro _ _ ⟨rfl, rfl⟩
   simp -implicitDefEqProofs [-wps_asg, -wps_eff, wa2, we2, s6]
   rw [hR]
   exact ⟨rfl, hE1.trans' hE⟩
 have hrW : RowO W ov kv' vv' m := RowO.of (hobj.ext hE)
 have hrow := hrW.row (n := (n : Int) + 1) (by omega) (by omega)
 rw [show ((n : Int) + 1).toNat - 1 = n by omega, need_at hlt] at hrow
 obtain ⟨a1, a2⟩ := hobs ((n : Int) + 1) (by omega) (by omega)
 rw [need_at hlt] at a1 a2
 have ok1 := slAt_one a1
 have ok2 := slAt_one a2
 obtain ⟨kk, hkk⟩ : ∃ kk, kk = kv' ((n : Int) + 1) := ⟨_, rfl⟩
 obtain ⟨vk, hvk⟩ : ∃ vk, vk = vv' ((n : Int) + 1) := ⟨_, rfl⟩
 rw [← hkk, ← hvk] at hrow
 rw [← hkk] at ok1
 rw [← hvk] at ok2 a2
 obtain ⟨o, ho⟩ : ∃ o, o = m.objs[n] := ⟨_, rfl⟩
 rw [← ho] at hrow a2
 have hss := sumT_succ hlt
 have hs0 := sumT_nonneg m n
 have hs1 := sumT_mono m (m.objs.length - (n + 1)) (n + 1) (by omega)
 rw [← ho] at hss
 obtain ⟨s, hs⟩ : ∃ s : Nat, m.sumT n = (s : Int) := ⟨(m.sumT n).toNat, by omega⟩
 have hn0 := need_nonneg o
 obtain ⟨e, he⟩ : ∃ e : Nat, m.sumT (n + 1) = (e : Int) := ⟨(m.sumT (n + 1)).toNat, by omega⟩
 rw [hs] at s6
 have hst : (m.sumT n).toNat = s := by omega
 rw [hst] at hx
 have hwn : IntKind.i64.wrap ((n : Int) + 1) = (n : Int) + 1 := i64w (by omega)
 simp -implicitDefEqProofs [-wps_asg, -wps_eff, wa2, we2, ir55_l10, h25, s24, hlt, ir55_k9, s23, hrW.is, hrW.len, hrow]
 refine eff_alloc z145 fun B8 W3 hB8 hE3 hb8 _ => ?_
 simp -implicitDefEqProofs [-wps_asg, -wps_eff, wa2, we2]
 refine eff_storeN (B := B8) (cs := #[.bool false, .int .i64 0, .int .u8 0, .slice none 0 0, .slice none 0 0, .int .i64 0, .bool false]) (by simp) hb8 (by simp [Value.cells, encO]) (by simp [Value.cells, encO, ok1, ok2]) sz145 fun W4 hO4 hb8' => ?_
 simp [Value.cells, encO] at hb8'
 have hE4 : Ext W W4 := hO4.ext hE3 hB8
 have hE14 := hE.trans' hE4
 have hc4 := (hbp1.ext hE14).cell
 rw [ptr, ptr] at hc4
 have j4 := jW.ext hE4
 have hx4 := hx.ext hE4
 simp -implicitDefEqProofs [-wps_asg, -wps_eff, wa2, we2, s2, hc4, hwn]
 refine (t_Place j4.h ((n : Int) + 1)).mono ?_
 rintro _ W5 ⟨rfl, hE5⟩
 have hE15 := hE14.trans' hE5
 have hx5 := hx4.ext hE5
 have hb85 := hb8'.ext hE5
 have htn := there_at hlt
 rw [← ho] at htn
 have hla : m.placeOf ((n : Int) + 1) = s := by
  unfold MS.placeOf
  rw [show ((n : Int) + 1 - 1).toNat = n by omega]; exact hs
 cases ht : o.there with
 | false =>
  rw [ht] at htn hb85
  have hpl : m.place ((n : Int) + 1) = (0, 171) := by unfold MS.place; rw [htn]; rfl
  have hnd : o.need = 0 := by unfold MO.need; simp [ht]
  simp -implicitDefEqProofs [-wps_asg, -wps_eff, wa2, we2, hpl, hb85.cell, ir55_k0, ir55_k8, h25, hwn]
  refine (hI _ _ _).2 ⟨by simp [s1], by simp [s2], by simp [s5], by simp [s6]; omega, by simp [s23], by simp [s24], hE15, ?_⟩
  rw [show (m.sumT (n + 1)).toNat = s by omega]; exact hx5
 | true =>
  rw [ht] at htn hb85
  have hpl : m.place ((n : Int) + 1) = ((s : Int), 0) := by unfold MS.place; rw [htn, hla]; rfl
  have hnd : o.need = 2 + o.vals.length := need_there ht
  have hvs := (a2.own.ext hE15).sl (enc := encI) (by omega)
  have hw2 : IntKind.i64.wrap ((s : Int) + 2) = (s : Int) + 2 := i64w (by omega)
  have hw3 : IntKind.i64.wrap ((s : Int) + 2 + (o.vals.length : Int)) = (e : Int) := by rw [i64w (by omega)]; omega
  have hse : s + 2 + o.vals.length = e := by omega
  have heN : e ≤ N := by omega
  have q1 : ¬ (N : Int) < (e : Int) := by omega
  have q2 : ¬ N < e := by omega
  have q3 : ¬ (e : Int) < (s : Int) := by omega
  have q4 : ¬ e < s := by omega
  have hxs := own_cells hx5
  have hxl : slLen xv = N := by have := hxs.len; rw [tk_len] at this; omega
  simp -implicitDefEqProofs [-wps_asg, -wps_eff, wa2, we2, hpl, hb85.cell, ir55_k7, hvs.is, hvs.len, hw2, hw3, s5, hxs.is, hxl, q1, q2, q3, q4, ir55_k6]
  obtain ⟨J, hJ⟩ : ∃ J : Nat → Env → World → Prop, ∀ i ρ' W', J i ρ' W' ↔ (ρ' 1 = .bool dense ∧ ρ' 2 = .pointer (some ⟨bp, 0, none⟩) ∧ ρ' 5 = xv ∧ ρ' 6 = .int .i64 (s : Int) ∧ ρ' 11 = .int .i64 (e : Int) ∧ ρ' 23 = ov ∧ ρ' 24 = .int .i64 m.objs.length ∧ ρ' 25 = .int .i64 (n : Int) ∧ Ext W1 W' ∧ Own W1.heap.size 4 1 W' xv (tk i N)) := ⟨_, fun _ _ _ => Iff.rfl⟩
  refine loopF 12 e s J (by simp) (by omega) ((hJ _ _ _).2 ⟨by simp [s1], by simp [s2], by simp [s5], by simp [s6], by simp, by simp [s23], by simp [s24], by simp [h25], hE15, hx5⟩) ?_
  intro i ρ2 W6 hi1 hi2 h12 hj
  obtain ⟨u1, u2, u5, u6, u11, u23, u24, u25, hE6, hx6⟩ := (hJ _ _ _).1 hj
  have hxs6 := own_cells hx6
  have hwi : IntKind.i64.wrap ((i : Int) + 1) = (i : Int) + 1 := i64w (by omega)
  by_cases hie : i < e
  ·have hiN : i < N := by omega
   have hcx := hxs6.cell i (by rw [tk_len]; exact hiN)
   rw [tk_get hiN] at hcx
   simp at hcx
   simp -implicitDefEqProofs [-wps_asg, -wps_eff, wa2, we2, ir55_l4, h12, u11, hie, ir55_k3, u5, hxs6.is, hxl, hiN, hcx, ir55_k1]
   refine eff_storeR (base := W1.heap.size) (i := i) hx6 (by rw [tk_len]; exact hiN) (by simp) (by simp [Value.cells]) (by simp) sz4 fun g W7 hg7 hO7 hx7 => ?_
   simp at hx7
   rw [tk_set hiN] at hx7
   have hE7 : Ext W1 W7 := hO7.ext hE6 (Own.blk hx6 g hg7).1
   simp -implicitDefEqProofs [-wps_asg, -wps_eff, wa2, we2, ir55_k2, h12, hwi]
   exact (hJ _ _ _).2 ⟨by simp [u1], by simp [u2], by simp [u5], by simp [u6], by simp [u11], by simp [u23], by simp [u24], by simp [u25], hE7, hx7⟩
  ·have hie' : i = e := by omega
   subst hie'
   simp -implicitDefEqProofs [-wps_asg, -wps_eff, wa2, we2, ir55_l4, h12, u11, ir55_k5]
   refine eff_max (k := .i64) (a := (s : Int)) (b := (i : Int)) (by simp [u6]) (by simp [u11]) ?_
   have hmx : (if (i : Int) > (s : Int) then (i : Int) else (s : Int)) = (i : Int) := if_pos (by omega)
   rw [hmx]
   simp -implicitDefEqProofs [-wps_asg, -wps_eff, wa2, we2, ir55_k8, u25, hwn]
   refine (hI _ _ _).2 ⟨by simp [u1], by simp [u2], by simp [u5], by simp [he], by simp [u23], by simp [u24], hE6, ?_⟩
   rw [show (m.sumT (n + 1)).toNat = i by omega]; exact hx6
end
end Go.L17
namespace Go.L17
open Go Go.Eng Go.RowKit
open Go.Proofs hiding encI
set_option maxRecDepth 100000
set_option maxHeartbeats 4000000
noncomputable def ir9_rest : OT := .take none 35 (.op1 .not (.var 34)) <| .take none 36 (.var 35) <| .take (some (36, false)) 37 (.op1 (.loadN 2) (.var 5)) <| .take (some (36, false)) 38 (.var 9) <| .take (some (36, false)) 39 (.var 38) <| .take (some (39, true)) 40 (.op1 (.fadr 1) (.var 5)) <| .take (some (39, true)) 41 (.op1 .load1 (.var 40)) <| .take (some (39, true)) 42 (.op1 .nilc (.var 41)) <| .take (some (39, true)) 43 (.op1 (.fadr 2) (.var 42)) <| .take (some (39, true)) 44 (.op1 .load1 (.var 43)) <| .take (some (39, true)) 45 (.op1 .not (.var 44)) <| .take (some (36, false)) 46 (.ite (.var 39) (.var 45) (.const (.bool false))) <| .step (.eff (some (36, false)) (some 47) (.call { callee := .value (.func 55), args := #[(.tmp 37), (.tmp 46)], argTypes := #[31, 4] }) 4) false <| .step (.asg (some (36, false)) 48 (.op1 .not (.var 47))) false <| .step (.asg none 49 (.ite (.var 36) (.const (.bool true)) (.var 48))) false <| .done
noncomputable def ir9_call : OT := .step (.eff none (some 34) (.call { callee := .value (.func 14), args := #[(.tmp 32), (.tmp 33), (.const (.bool true))], argTypes := #[31, 37, 4] }) 4) false ir9_rest
noncomputable def ir9_p10 : OT := .both (.step (.asg none 32 (.op1 (.loadN 2) (.var 5))) false <| .step (.asg none 33 (.op1 (.loadN 7) (.var 8))) false ir9_call) (.step (.asg none 33 (.op1 (.loadN 7) (.var 8))) false <| .step (.asg none 32 (.op1 (.loadN 2) (.var 5))) false ir9_call)
theorem ir9_p10_ok : ordPOf Tryz.prog 52 ir9_V 15 3 (rawReg ir9_body 10) = some ir9_p10 := by kernel_rfl
theorem law9_call {base Hb Rb k B6 : Nat} {β γ : Lay} {m : MS} {c : Option Wh} {w W : World} {Q : Ks} {K : Env → World → Prop} {ρ : Env} {o : OpD} {ov : Value} (j : Joint base W Hb Rb β γ k m c) (hk : k ≤ 89) (h0 : w.heap.size ≤ base) (hE : Ext w W) (ho : OpAt w o ov) (hf : o.few) (hb6 : Blk W B6 #[ptr Hb, ptr Rb] 31) (hn6 : ¬ β.has B6 ∧ ¬ γ.has B6)
  (s5 : ρ 5 = .pointer (some ⟨B6, 0, none⟩)) (s9 : ρ 9 = .bool m.on) (s32 : ρ 32 = .agg #[ptr Hb, ptr Rb]) (s33 : ρ 33 = ov)
  (hK : ∀ (ρ2 : Env) (W2 : World) (m' : MS), ρ2 49 = .bool false → ρ2 5 = ρ 5 → ρ2 21 = ρ 21 → ρ2 22 = ρ 22 → ρ2 23 = ρ 23 → DG base W Hb Rb β γ k m' W2 → K ρ2 W2) : OT.wpP Tryz.prog Q K 1 ir9_call ρ W := by
 simp -implicitDefEqProofs [-wps_asg, -wps_eff, wa2, we2, ir9_call, wpP_eff, s32, s33]
 refine (l_does (w0 := w) j (by omega) h0 hE ho hf true).mono ?_
 rintro _ W7 ⟨rfl, m', _, hG⟩
 obtain ⟨β', γ', c', j', hT⟩ := hG
 have l6 := hb6.lt
 have hb7 := Blk.keep hb6 (hT.stay l6 hn6)
 obtain ⟨ov2, dv, tv, kv', vv', hb, hobj, _⟩ := j'.r.hd
 obtain ⟨S, hS⟩ : ∃ S : World → Prop, S = fun W => Blk W B6 #[ptr Hb, ptr Rb] 31 ∧ W.cell? ⟨Rb, 2, none⟩ = some (.bool m'.on) := ⟨_, rfl⟩
 have hS7 : S W7 := by rw [hS]; exact ⟨hb7, by rw [hb.cell]; rfl⟩
 have c0 : ∀ W, S W → W.cell? ⟨B6, 0, none⟩ = some (.pointer (some ⟨Hb, 0, none⟩)) := fun W h => by rw [hS] at h; rw [h.1.cell]; rfl
 have c1 : ∀ W, S W → W.cell? ⟨B6, 1, none⟩ = some (.pointer (some ⟨Rb, 0, none⟩)) := fun W h => by rw [hS] at h; rw [h.1.cell]; rfl
 have c2 : ∀ W, S W → W.cell? ⟨Rb, 2, none⟩ = some (.bool m'.on) := fun W h => by rw [hS] at h; exact h.2
 simp -implicitDefEqProofs [-wps_asg, -wps_eff, wa2, we2]
 refine wpP_zero S hS7 ?_
 cases hon : m.on with
 | false =>
  simp +contextual -implicitDefEqProofs [ir9_rest, s5, s9, hon, c0, c1, c2, hS7]
  refine (l_placed j' (by omega) false).mono ?_
  rintro _ W8 ⟨rfl, hE8⟩
  simp -implicitDefEqProofs
  exact hK _ _ m' (by simp) (by simp [s5]) (by simp) (by simp) (by simp) ⟨β', γ', c', j'.ext hE8, hT.trans (Turn2.of hE8)⟩
 | true =>
  simp +contextual -implicitDefEqProofs [ir9_rest, s5, s9, hon, c0, c1, c2, hS7]
  refine (l_placed j' (by omega) (!m'.on)).mono ?_
  rintro _ W8 ⟨rfl, hE8⟩
  simp -implicitDefEqProofs
  exact hK _ _ m' (by simp) (by simp [s5]) (by simp) (by simp) (by simp) ⟨β', γ', c', j'.ext hE8, hT.trans (Turn2.of hE8)⟩
theorem law9 {w : World} {v : Value} {l : List OpD} (hs : Scr w v l) (words : Int) : Calls Tryz.prog 9 #[.int .i64 words, v] w (okR w) := by
 obtain ⟨R, hR⟩ : ∃ R, R = okR w := ⟨_, rfl⟩
 rw [← hR]
 refine ir9_calls fun ρ r0 r1 => ?_
 simp -implicitDefEqProofs [-wps_asg, -wps_eff, wa2, we2, ir9, r1]
 refine (l_short hs).mono ?_
 rintro _ W0 ⟨rfl, hE0⟩
 cases hsh : shortB l with
 | false =>
  simp -implicitDefEqProofs [-wps_asg, -wps_eff, wa2, we2]
  refine (l_kept W0).mono ?_
  rintro _ W5 ⟨rfl, hE5⟩
  simp -implicitDefEqProofs [-wps_asg, -wps_eff, wa2, we2]
  rw [hR]
  exact ⟨rfl, hE0.trans' hE5⟩
 | true =>
 obtain ⟨hl70, hfew⟩ := short_few hsh
 simp -implicitDefEqProofs [-wps_asg, -wps_eff, wa2, we2, ir9_k6, r0]
 refine (l_opened (w := W0) words).mono ?_
 rintro _ W2 ⟨base, Hb, Rb, β0, γ0, rfl, hbase, j0, hE2⟩
 simp -implicitDefEqProofs [-wps_asg, -wps_eff, wa2, we2]
 refine eff_alloc z31 fun B6 W3 hB6 hE3 hb6 hs6 => ?_
 simp -implicitDefEqProofs [-wps_asg, -wps_eff, wa2, we2]
 refine eff_storeN (B := B6) (cs := #[.pointer none, .pointer none]) (by simp) hb6 (by simp [Value.cells]) (by simp [Value.cells, ptr]) sz31 fun W4 hO4 hb6' => ?_
 simp [Value.cells] at hb6'
 have z0 := hE0.size
 have z2 := hE2.size
 have z3 := hE3.size
 have z4 := hO4.size
 have hE24 : Ext W2 W4 := hO4.ext hE3 hB6
 have hE4 : Ext w W4 := (hE0.trans' hE2).trans' hE24
 have j4 := j0.ext hE24
 have hn6 := j0.newBlk (b := B6) hB6
 simp -implicitDefEqProofs [-wps_asg, -wps_eff, wa2, we2, ir9_k5, r1, hs.is, hs.len]
 obtain ⟨I, hI⟩ : ∃ I : Nat → Env → World → Prop, ∀ k ρ' W, I k ρ' W ↔ (ρ' 5 = .pointer (some ⟨B6, 0, none⟩) ∧ ρ' 21 = v ∧ ρ' 22 = .int .i64 l.length ∧ Ext w W ∧ Blk W B6 #[ptr Hb, ptr Rb] 31 ∧ ∃ β γ m c, Joint base W Hb Rb β γ k m c ∧ (¬ β.has B6 ∧ ¬ γ.has B6)) := ⟨_, fun _ _ _ => Iff.rfl⟩
 refine loopC 23 l.length I (by rfl) ((hI _ _ _).2 ⟨by rfl, by simp, by rfl, hE4, hb6', β0, γ0, _, none, j4, hn6⟩) ?_
 intro k ρ' W hk h20 hi
 obtain ⟨s5, s21, s22, hE, hbW6, β, γ, m, c, j, hnW6⟩ := (hI _ _ _).1 hi
 have hsW := hs.ext hE
 have z := hE.size
 by_cases hlt : k < l.length
 rotate_left
 ·have hke : k = l.length := by omega
  subst hke
  simp -implicitDefEqProofs [-wps_asg, -wps_eff, wa2, we2, ir9_l3, h20, s22, ir9_k4]
  refine (l_kept W).mono ?_
  rintro _ W5 ⟨rfl, hE5⟩
  simp -implicitDefEqProofs [-wps_asg, -wps_eff, wa2, we2]
  rw [hR]
  exact ⟨rfl, hE.trans' hE5⟩
 obtain ⟨kv, vv, rv, hrow0, how, o1, o2, o3⟩ := hs.at hlt
 have ho := how.at (hfew _ (List.getElem_mem hlt))
 have hrow := hrow0 W hE
 have hwk : IntKind.i64.wrap ((k : Int) + 1) = (k : Int) + 1 := i64w (by omega)
 simp -implicitDefEqProofs [-wps_asg, -wps_eff, wa2, we2, ir9_l3, h20, s22, hlt, ir9_k2, s21, hsW.is, hsW.len, hrow]
 refine eff_alloc z37 fun B9 W5 hB9 hE5 hb9 hs9 => ?_
 simp -implicitDefEqProofs [-wps_asg, -wps_eff, wa2, we2]
 refine eff_storeN (B := B9) (cs := #[.int .u8 0, .int .i64 0, .int .i64 0, .int .i64 0, .slice none 0 0, .slice none 0 0, .slice none 0 0]) (by simp) hb9 (by simp [Value.cells]) ?_ sz37 fun W6 hO6 hb9' => ?_
 ·simp [Value.cells, o1, o2, o3]
 simp [Value.cells] at hb9'
 have hE6 : Ext W W6 := hO6.ext hE5 hB9
 have j6 := j.ext hE6
 have hb66 := hbW6.ext hE6
 have hc6 := hb66.cell
 rw [ptr, ptr] at hc6
 obtain ⟨ov, dv, tv, kv', vv', hb, hobj, _⟩ := j6.r.hd
 simp -implicitDefEqProofs [-wps_asg, -wps_eff, wa2, we2, s5, hc6, hb.cell]
 refine raw_ordP ir9_p10_ok fun W7 hE7 _ => ?_
 have hE67 := hE6.trans' hE7
 have j7 := j.ext hE67
 have hb67 := hbW6.ext hE67
 have hb97 := hb9'.ext hE7
 have hr9 : Eng.rowAt W7 ⟨B9, 0, none⟩ 0 7 = some [.int .u8 (l[k].kind : Int), .int .i64 l[k].ref, .int .i64 l[k].a, .int .i64 l[k].b, kv, vv, rv] := row_blk hb97
 have hc7 := hb67.cell
 have hK : ∀ (ρ1 : Env), ρ1 5 = .pointer (some ⟨B6, 0, none⟩) → ρ1 21 = v → ρ1 22 = .int .i64 l.length → ρ1 23 = .int .i64 k → ∀ (ρ2 : Env) (W2 : World) (m' : MS), ρ2 49 = .bool false → ρ2 5 = ρ1 5 → ρ2 21 = ρ1 21 → ρ2 22 = ρ1 22 → ρ2 23 = ρ1 23 → DG base W7 Hb Rb β γ k m' W2 → ρ2 49 = .bool false ∧ ρ2 23 = .int .i64 k ∧ I (k + 1) (upd ρ2 23 (.int .i64 ((k : Int) + 1))) W2 := by
  rintro ρ1 a1 a2 a3 a4 ρ2 W2 m' b0 b1 b2 b3 b4 ⟨β', γ', c', j', hT⟩
  have l6 := hb67.lt
  refine ⟨b0, by rw [b4, a4], (hI _ _ _).2 ⟨by simp [b1, a1], by simp [b2, a2], by simp [b3, a3], hT.ext j7 (by omega) (hE.trans' hE67), Blk.keep hb67 (hT.stay l6 hnW6), β', γ', m', c', j', hT.apart l6 hnW6⟩⟩
 show OT.wpP Tryz.prog _ _ 3 ir9_p10 _ W7
 rw [ir9_p10, wpP_both]
 constructor
 ·simp -implicitDefEqProofs [-wps_asg, -wps_eff, wa2, we2, wpP_asg, s5, hc7, hr9]
  refine law9_call j7 (by omega) (by omega) (hE.trans' hE67) ho (hfew _ (List.getElem_mem hlt)) hb67 hnW6 (by simp [s5]) (by simp) (by simp) (by simp; rfl) fun ρ2 W2 m' b0 b1 b2 b3 b4 hG => ?_
  obtain ⟨d0, d1, d2⟩ := hK _ (by simp [s5]) (by simp [s21]) (by simp [s22]) (by simp [h20]) ρ2 W2 m' b0 b1 b2 b3 b4 hG
  simp -implicitDefEqProofs [-wps_asg, -wps_eff, wa2, we2, ir9_k0, d0, ir9_k1, d1, hwk]
  exact d2
 ·simp -implicitDefEqProofs [-wps_asg, -wps_eff, wa2, we2, wpP_asg, s5, hc7, hr9]
  refine law9_call j7 (by omega) (by omega) (hE.trans' hE67) ho (hfew _ (List.getElem_mem hlt)) hb67 hnW6 (by simp [s5]) (by simp) (by simp) (by simp; rfl) fun ρ2 W2 m' b0 b1 b2 b3 b4 hG => ?_
  obtain ⟨d0, d1, d2⟩ := hK _ (by simp [s5]) (by simp [s21]) (by simp [s22]) (by simp [h20]) ρ2 W2 m' b0 b1 b2 b3 b4 hG
  simp -implicitDefEqProofs [-wps_asg, -wps_eff, wa2, we2, ir9_k0, d0, ir9_k1, d1, hwk]
  exact d2
end Go.L17
