/- Texts of mine for the claims about layer 17 (heap), joined: L17n, L17o, L17p, L17q, L17r, L17s, L17t, L17u, L17v, L17w, L17x, L17y, L17z, L17Aa, L17Ab, L17Ac, L17Ad. -/
import Derived.Test.YtbopdbinllokkaaGreatJaw
set_option linter.all false
set_option linter.unusedSimpArgs false
set_option linter.unusedVariables false
namespace Go.L17
open Go Go.Eng Go.RowKit
open Go.Proofs hiding encI
set_option maxRecDepth 100000
set_option maxHeartbeats 2000000
theorem flat_len {f : Nat → List Value} {s : Nat} (hf : ∀ i, (f i).length = s) : ∀ n, ((List.range n).flatMap f).length = n * s
 | 0 => by simp
 | n + 1 => by rw [List.range_succ, List.flatMap_append, List.length_append, flat_len hf n]; simp [hf, Nat.succ_mul]
theorem flat_get {f : Nat → List Value} {s : Nat} (hf : ∀ i, (f i).length = s) : ∀ {n i j : Nat}, i < n → j < s → ((List.range n).flatMap f)[i * s + j]? = (f i)[j]?
 | 0, _, _, h, _ => by omega
 | n + 1, i, j, hi, hj => by
  rw [List.range_succ, List.flatMap_append]
  by_cases h : i < n
  ·have hlt : i * s + j < n * s := by
    have : (i + 1) * s ≤ n * s := Nat.mul_le_mul_right _ h
    rw [Nat.succ_mul] at this; omega
   rw [List.getElem?_append_left (by rw [flat_len hf]; exact hlt)]
   exact flat_get hf h hj
  ·have e : i = n := by omega
   subst e
   rw [List.getElem?_append_right (by rw [flat_len hf]; omega), flat_len hf]
   simp
theorem flat_ext {f : Nat → List Value} {s n : Nat} (hf : ∀ i, (f i).length = s) (hs : 0 < s) {l : List Value} (hl : l.length = n * s) (h : ∀ i j, i < n → j < s → l[i * s + j]? = (f i)[j]?) : l = (List.range n).flatMap f := by
 apply List.ext_getElem?
 intro p
 by_cases hp : p < n * s
 ·have hd : p / s < n := Nat.div_lt_of_lt_mul (by rw [Nat.mul_comm]; exact hp)
  have hm : p % s < s := Nat.mod_lt _ hs
  have e : p = p / s * s + p % s := (Nat.div_add_mod' p s).symm
  rw [e, h _ _ hd hm, flat_get hf hd hm]
 ·rw [List.getElem?_eq_none (by omega), List.getElem?_eq_none (by rw [flat_len hf]; omega)]
def encO (kv vv : Value) (o : MO) : List Value := [.bool o.there, .int .i64 o.tag, .int .u8 (o.elem : Int), kv, vv, .int .i64 (o.age : Int), .bool o.watched]
def cellsO (kv vv : Int → Value) (objs : List MO) : List Value := (List.range objs.length).flatMap fun i : Nat => encO (kv ((i : Int) + 1)) (vv ((i : Int) + 1)) (objs.getD i noMO)
theorem encO_len (kv vv : Value) (o : MO) : (encO kv vv o).length = 7 := rfl
theorem cellsO_len (kv vv : Int → Value) (objs : List MO) : (cellsO kv vv objs).length = objs.length * 7 := flat_len (f := fun i : Nat => encO (kv ((i : Int) + 1)) (vv ((i : Int) + 1)) (objs.getD i noMO)) (s := 7) (fun _ => rfl) _
theorem cellsO_get {kv vv : Int → Value} {objs : List MO} {i j : Nat} (hi : i < objs.length) (hj : j < 7) : (cellsO kv vv objs)[i * 7 + j]? = (encO (kv ((i : Int) + 1)) (vv ((i : Int) + 1)) (objs.getD i noMO))[j]? := flat_get (f := fun i : Nat => encO (kv ((i : Int) + 1)) (vv ((i : Int) + 1)) (objs.getD i noMO)) (fun _ => rfl) hi hj
def setN : List Value → Nat → List Value → List Value
 | xs, _, [] => xs
 | xs, i, v :: vs => setN (xs.set i v) (i + 1) vs
theorem setN_len : ∀ (vs xs : List Value) (i : Nat), (setN xs i vs).length = xs.length
 | [], _, _ => rfl
 | v :: vs, xs, i => by rw [setN, setN_len vs]; simp
theorem setN_get : ∀ (vs xs : List Value) (i p : Nat), i + vs.length ≤ xs.length → (setN xs i vs)[p]? = if i ≤ p ∧ p < i + vs.length then vs[p - i]? else xs[p]?
 | [], xs, i, p, _ => by
  rw [setN, if_neg]
  simp <;> omega
 | v :: vs, xs, i, p, h => by
  rw [List.length_cons] at h
  rw [setN, setN_get vs (xs.set i v) (i + 1) p (by simp; omega)]
  by_cases h1 : i + 1 ≤ p ∧ p < i + 1 + vs.length
  ·rw [if_pos h1, if_pos (by rw [List.length_cons]; omega)]
   have : p - i = (p - (i + 1)) + 1 := by omega
   rw [this, List.getElem?_cons_succ]
  ·rw [if_neg h1]
   by_cases e : p = i
   ·subst e
    rw [if_pos (by rw [List.length_cons]; omega), List.getElem?_set_self (by omega)]
    simp
   ·rw [if_neg (by rw [List.length_cons]; omega), List.getElem?_set_ne (by omega)]
theorem cellsO_setN {kv vv : Int → Value} {objs : List MO} {i : Nat} {a b : Value} {o : MO} (hi : i < objs.length) :
  setN (cellsO kv vv objs) (i * 7) (encO a b o) = cellsO (fun n => if n = (i : Int) + 1 then a else kv n) (fun n => if n = (i : Int) + 1 then b else vv n) (objs.set i o) := by
 unfold cellsO
 rw [List.length_set]
 have hb : (i + 1) * 7 ≤ objs.length * 7 := Nat.mul_le_mul_right _ hi
 refine flat_ext (s := 7) (fun _ => rfl) (by decide) (by rw [setN_len]; exact cellsO_len kv vv objs) fun k j hk hj => ?_
 rw [setN_get _ _ _ _ (by rw [encO_len]; show i * 7 + 7 ≤ (cellsO kv vv objs).length; rw [cellsO_len]; omega), encO_len]
 by_cases e : k = i
 ·subst e
  rw [if_pos (by omega)]
  dsimp only
  rw [if_pos rfl, if_pos rfl]
  have : k * 7 + j - k * 7 = j := by omega
  rw [this, List.getD_eq_getElem?_getD, List.getElem?_set_self hi]
  rfl
 ·rw [if_neg (by omega)]
  dsimp only
  rw [if_neg (by omega), if_neg (by omega)]
  have := cellsO_get (kv := kv) (vv := vv) (objs := objs) hk hj
  unfold cellsO at this
  rw [this, List.getD_eq_getElem?_getD, List.getD_eq_getElem?_getD, List.getElem?_set_ne (by omega)]
theorem cellsO_push (kv vv : Int → Value) (objs : List MO) (a b : Value) (o : MO) :
  cellsO kv vv objs ++ encO a b o = cellsO (fun n => if n = (objs.length : Int) + 1 then a else kv n) (fun n => if n = (objs.length : Int) + 1 then b else vv n) (objs ++ [o]) := by
 unfold cellsO
 rw [List.length_append, List.length_singleton, List.range_succ, List.flatMap_append]
 congr 1
 ·have : ∀ (l : List Nat), (∀ i ∈ l, i < objs.length) → (l.flatMap fun i : Nat => encO (kv ((i : Int) + 1)) (vv ((i : Int) + 1)) (objs.getD i noMO)) = l.flatMap fun i : Nat => encO (if ((i : Int) + 1) = (objs.length : Int) + 1 then a else kv ((i : Int) + 1)) (if ((i : Int) + 1) = (objs.length : Int) + 1 then b else vv ((i : Int) + 1)) ((objs ++ [o]).getD i noMO) := by
   intro l
   induction l with
   | nil => intro _; rfl
   | cons x l ih =>
    intro hl
    have hx := hl x (by simp)
    rw [List.flatMap_cons, List.flatMap_cons, ih fun i hi => hl i (by simp [hi]), if_neg (by omega), if_neg (by omega)]
    congr 2
    rw [List.getD_eq_getElem?_getD, List.getD_eq_getElem?_getD, List.getElem?_append_left hx]
  exact this _ fun i hi => List.mem_range.1 hi
 ·simp
structure RAt (base : Nat) (w : World) (Rb : Nat) (γ : Lay) (m : MS) : Prop where
 inj : ∀ r1 r2 b, γ r1 = some b → γ r2 = some b → r1 = r2
 lo : ∀ r b, γ r = some b → base ≤ b
 hi : ∀ r b, γ r = some b → b < w.heap.size
 hb : γ .heap = some Rb
 hd : ∃ ov dv tv, ∃ kv vv : Int → Value, Blk w Rb #[.int .i64 m.words, ov, .bool m.on, dv, .int .i64 m.owed, tv] 43 ∧ Own base 145 7 w ov (cellsO kv vv m.objs) ∧ ov.ownBlock = γ .map ∧ SlAt base 3 w dv (m.doomed.map encI) (γ .gr) ∧ SlAt base 3 w tv (m.told.map encI) (γ .en) ∧
  ∀ n : Int, 1 ≤ n → n ≤ m.objs.length → SlAt base 5 w (kv n) ((m.at n).kinds.map encU) (γ (.ks n)) ∧ SlAt base 3 w (vv n) ((m.at n).vals.map encI) (γ (.vs n))
 free : ∀ n : Int, ¬ (1 ≤ n ∧ n ≤ m.objs.length) → γ (.ks n) = none ∧ γ (.vs n) = none
theorem RAt.keep {base : Nat} {w w' : World} {Rb : Nat} {γ : Lay} {m : MS} (h : RAt base w Rb γ m) (hk : ∀ r b, γ r = some b → w'.heap[b]? = w.heap[b]?) : RAt base w' Rb γ m := by
 obtain ⟨ov, dv, tv, kv, vv, h1, h2, h3, h4, h5, h6⟩ := h.hd
 have hi : ∀ r b, γ r = some b → b < w'.heap.size := fun r b hr => by
  have h1 := hk r b hr
  rw [Array.getElem?_eq_getElem (h.hi r b hr)] at h1
  exact (Array.getElem?_eq_some_iff.1 h1).1
 exact ⟨h.inj, h.lo, hi, h.hb, ⟨ov, dv, tv, kv, vv, Blk.keep h1 (hk _ _ h.hb), Own.same' h2 fun k hk2 => hk .map k (by rw [← h3]; exact hk2), h3, h4.keep fun k => hk _ k, h5.keep fun k => hk _ k, fun n a b => ⟨(h6 n a b).1.keep fun k => hk _ k, (h6 n a b).2.keep fun k => hk _ k⟩⟩, h.free⟩
theorem RAt.ext {base : Nat} {w w' : World} {Rb : Nat} {γ : Lay} {m : MS} (h : RAt base w Rb γ m) (hE : Ext w w') : RAt base w' Rb γ m := h.keep fun r b hr => hE.block b (h.hi r b hr)
structure MG (m : MS) : Prop where
 wf : m.wf
 small : ∀ n, m.there n = true → (m.at n).vals.length ≤ 200
 kinds : ∀ n, m.there n = true → (m.at n).elem = 0 → (m.at n).kinds.length = (m.at n).vals.length
 elem : ∀ n, m.there n = true → (m.at n).elem ≤ 2
 words : m.used ≤ m.words ∧ m.words ≤ 1000000 ∧ 0 ≤ m.words
 len : m.objs.length ≤ 100000000
theorem MG.of {base Hb : Nat} {β : Lay} {m : MS} {c : Option Wh} {w : World} (h : HAt base w Hb β m c) (hl : m.objs.length ≤ 100000000) : MG m := by
 refine ⟨h.wf, h.small, fun n hn he => ?_, fun n hn => ?_, h.words, hl⟩
 ·obtain ⟨p, f, kept, vv, _, _, _, _, _, h6⟩ := (h.obs n hn).ex
  cases h6 with
  | fields kv a b c d e => exact b
  | array a b => omega
 ·obtain ⟨p, f, kept, vv, _, _, _, _, _, h6⟩ := (h.obs n hn).ex
  cases h6 with
  | fields kv a b c d e => omega
  | array a b => omega
@[simp] theorem cbr80 : callB Tryz.prog 80 = true := by kernel_rfl
@[simp] theorem cbr81 : callB Tryz.prog 81 = true := by kernel_rfl
@[simp] theorem cbr82 : callB Tryz.prog 82 = true := by kernel_rfl
@[simp] theorem cbr115 : callB Tryz.prog 115 = true := by kernel_rfl
@[simp] theorem cbr116 : callB Tryz.prog 116 = true := by kernel_rfl
@[simp] theorem cbr117 : callB Tryz.prog 117 = true := by kernel_rfl
@[simp] theorem cbr118 : callB Tryz.prog 118 = true := by kernel_rfl
@[simp] theorem cbr119 : callB Tryz.prog 119 = true := by kernel_rfl
section
variable {base Rb : Nat} {γ : Lay} {m : MS} {w : World}
structure RowO (w : World) (ov : Value) (kv vv : Int → Value) (m : MS) : Prop where
 is : isSl ov = true
 len : slLen ov = m.objs.length
 cell : ∀ (n : Int) (j : Nat), 1 ≤ n → n ≤ m.objs.length → (hj : j < 7) → w.cell? (slAddr ov ((n.toNat - 1) * 7 + j)) = some ((encO (kv n) (vv n) (m.at n))[j]'(by rw [encO_len]; exact hj))
theorem RowO.of {ov : Value} {kv vv : Int → Value} (h : Own base 145 7 w ov (cellsO kv vv m.objs)) : RowO w ov kv vv m := by
 have hc := own_cells h
 have hl := hc.len
 rw [cellsO_len] at hl
 refine ⟨hc.is, by omega, fun n j h1 h2 hj => ?_⟩
 have hi : n.toNat - 1 < m.objs.length := by omega
 have hlt : (n.toNat - 1) * 7 + j < (cellsO kv vv m.objs).length := by
  rw [cellsO_len]
  have : (n.toNat - 1 + 1) * 7 ≤ m.objs.length * 7 := Nat.mul_le_mul_right _ hi
  omega
 rw [hc.cell _ hlt]
 have hg := cellsO_get (kv := kv) (vv := vv) (objs := m.objs) hi hj
 rw [List.getElem?_eq_getElem hlt] at hg
 have e : ((n.toNat - 1 : Nat) : Int) + 1 = n := by omega
 have e2 : n.toNat - 1 = (n - 1).toNat := by omega
 rw [e] at hg
 rw [hg, e2]
 show (encO (kv n) (vv n) (m.at n))[j]? = _
 rw [List.getElem?_eq_getElem (by rw [encO_len]; exact hj)]
theorem RowO.row {ov : Value} {kv vv : Int → Value} (h : RowO w ov kv vv m) {n : Int} (h1 : 1 ≤ n) (h2 : n ≤ m.objs.length) : Eng.rowAt w (slAddr ov ((n.toNat - 1) * 7)) 0 7 = some (encO (kv n) (vv n) (m.at n)) := by
 have := rowAt_of (w := w) (a := slAddr ov ((n.toNat - 1) * 7)) (l := encO (kv n) (vv n) (m.at n)) (i := 0) fun j hj => by
  rw [slAddr_add]
  simpa using h.cell n j h1 h2 (by rw [encO_len] at hj; exact hj)
 exact this
theorem RowO.c {ov : Value} {kv vv : Int → Value} (h : RowO w ov kv vv m) {n : Int} (h1 : 1 ≤ n) (h2 : n ≤ m.objs.length) :
  w.cell? (slAddr ov ((n.toNat - 1) * 7)) = some (.bool (m.at n).there) ∧ w.cell? (slAddr ov ((n.toNat - 1) * 7 + 1)) = some (.int .i64 (m.at n).tag) ∧ w.cell? (slAddr ov ((n.toNat - 1) * 7 + 2)) = some (.int .u8 ((m.at n).elem : Int)) ∧
  w.cell? (slAddr ov ((n.toNat - 1) * 7 + 3)) = some (kv n) ∧ w.cell? (slAddr ov ((n.toNat - 1) * 7 + 4)) = some (vv n) ∧ w.cell? (slAddr ov ((n.toNat - 1) * 7 + 5)) = some (.int .i64 ((m.at n).age : Int)) ∧ w.cell? (slAddr ov ((n.toNat - 1) * 7 + 6)) = some (.bool (m.at n).watched) :=
 ⟨h.cell n 0 h1 h2 (by omega), h.cell n 1 h1 h2 (by omega), h.cell n 2 h1 h2 (by omega), h.cell n 3 h1 h2 (by omega), h.cell n 4 h1 h2 (by omega), h.cell n 5 h1 h2 (by omega), h.cell n 6 h1 h2 (by omega)⟩
theorem r_There (h : RAt base w Rb γ m) (hl : m.objs.length ≤ 100000000) (n : Int) : Calls Tryz.prog 81 #[ptr Rb, .int .i64 n] w fun e w' => e = .returned (.bool (m.there n)) ∧ w' = w := by
 obtain ⟨ov, dv, tv, kv, vv, hb, ho, hob, hdm, htl, hobs⟩ := h.hd
 have hr := RowO.of ho
 refine ir81_calls fun ρ r0 r1 => ?_
 by_cases hn : 1 ≤ n ∧ n ≤ m.objs.length
 ·obtain ⟨c0, _⟩ := hr.c hn.1 hn.2
  have hw : IntKind.i64.wrap (n - 1) = n - 1 := i64w (by omega)
  have h1 : (0 : Int) ≤ n - 1 := by omega
  have h2 : n - 1 < (m.objs.length : Int) := by omega
  simp [ir81, r0, r1, ptr, hb.cell, hr.is, hr.len, hn.1, hn.2, hw, h1, h2, c0, MS.there]
 ·by_cases h1 : 1 ≤ n
  ·have h2 : ¬ n ≤ (m.objs.length : Int) := fun h2 => hn ⟨h1, h2⟩
   simp [ir81, r0, r1, ptr, hb.cell, hr.is, hr.len, h1, h2, MS.there]
  ·simp [ir81, r0, r1, ptr, hb.cell, hr.is, hr.len, h1, MS.there]
theorem r_asked (h : RAt base w Rb γ m) (hl : m.objs.length ≤ 100000000) (n : Int) : Calls Tryz.prog 118 #[ptr Rb, .int .i64 n] w fun e w' => e = .returned (.int .i64 (if m.there n then 0 else 171)) ∧ w' = w := by
 refine ir118_calls fun ρ r0 r1 => ?_
 simp [ir118, r0, r1]
 refine (r_There h hl n).mono ?_
 rintro _ _ ⟨rfl, rfl⟩
 cases m.there n <;> simp [ir118_k0]
theorem r_value (h : RAt base w Rb γ m) (hl : m.objs.length ≤ 100000000) (k : Nat) (v : Int) : Calls Tryz.prog 115 #[ptr Rb, encU k, .int .i64 v] w fun e w' => e = .returned (.int .i64 (m.value k v)) ∧ w' = w := by
 refine ir115_calls fun ρ r0 r1 r2 => ?_
 by_cases h1 : k = 1
 ·subst h1
  by_cases hv : v < -1000000000
  ·simp [ir115, r0, r1, r2, encU, hv, MS.value]
  ·by_cases hv2 : 1000000000 < v
   ·simp [ir115, r0, r1, r2, encU, hv, hv2, MS.value]
   ·simp [ir115, r0, r1, r2, encU, hv, hv2, MS.value, ir115_k1, ir115_k0]
 ·have h1' : ¬ (k : Int) = 1 := by omega
  by_cases h2 : k = 2
  ·subst h2
   by_cases hv : v = 0
   ·simp [ir115, r0, r1, r2, encU, hv, MS.value, ir115_k1, ir115_k0]
   ·simp [ir115, r0, r1, r2, encU, hv, MS.value, ir115_k1]
    refine (r_asked h hl v).mono ?_
    rintro _ _ ⟨rfl, rfl⟩
    cases m.there v <;> simp
  ·have h2' : ¬ (k : Int) = 2 := by omega
   simp [ir115, r0, r1, r2, encU, h1', h2', h1, h2, MS.value, ir115_k1, ir115_k0]
end
end Go.L17
namespace Go.L17
open Go Go.Eng Go.RowKit
open Go.Proofs hiding encI
set_option maxRecDepth 100000
set_option maxHeartbeats 2000000
section
variable {base Rb : Nat} {γ : Lay} {m : MS} {w : World}
theorem RowO.k {ov : Value} {kv vv : Int → Value} (h : RowO w ov kv vv m) {k : Nat} (hk : k < m.objs.length) :
  w.cell? (slAddr ov (k * 7)) = some (.bool m.objs[k].there) ∧ w.cell? (slAddr ov (k * 7 + 4)) = some (vv ((k : Int) + 1)) := by
 have hn : ((k : Int) + 1).toNat - 1 = k := by omega
 have h1 := h.c (n := (k : Int) + 1) (by omega) (by omega)
 rw [hn, need_at hk] at h1
 exact ⟨h1.1, h1.2.2.2.2.1⟩
theorem sum_take {l : List MO} {k : Nat} (hk : k < l.length) : ((l.take (k + 1)).map MO.need).sum = ((l.take k).map MO.need).sum + l[k].need := by
 rw [List.take_add_one, List.map_append, List.sum_append, List.getElem?_eq_getElem hk]; simp
theorem need_le (hg : MG m) {k : Nat} (hk : k < m.objs.length) : m.objs[k].need ≤ 202 := by
 unfold MO.need
 split
 ·rename_i ht
  have := hg.small ((k : Int) + 1) (by rw [there_at hk]; exact ht)
  rw [need_at hk] at this
  omega
 ·omega
theorem sum_bd (hg : MG m) : ∀ k : Nat, k ≤ m.objs.length → 0 ≤ ((m.objs.take k).map MO.need).sum ∧ ((m.objs.take k).map MO.need).sum ≤ 202 * k
 | 0, _ => by simp
 | k + 1, h => by
  have ih := sum_bd hg k (by omega)
  have := need_le hg (k := k) (by omega)
  have := need_nonneg (m.objs[k]'(by omega))
  rw [sum_take (by omega)]
  omega
theorem r_Used (h : RAt base w Rb γ m) (hg : MG m) : Calls Tryz.prog 80 #[ptr Rb] w fun e w' => e = .returned (.int .i64 m.used) ∧ w' = w := by
 obtain ⟨ov, dv, tv, kv, vv, hb, ho, hob, hdm, htl, hobs⟩ := h.hd
 have hr := RowO.of ho
 have hl := hg.len
 refine ir80_calls fun ρ r0 => ?_
 simp -implicitDefEqProofs [-wps_asg, -wps_eff, wa2, we2, ir80]
 refine loopC 4 m.objs.length (fun k ρ' w' => w' = w ∧ ρ' 0 = ptr Rb ∧ ρ' 3 = .int .i64 ((m.objs.take k).map MO.need).sum) (by simp) ⟨rfl, by simp [r0], by simp⟩ ?_
 rintro k ρ' w' hk h4 ⟨rfl, s0, s3⟩
 by_cases hlt : k < m.objs.length
 ·obtain ⟨c0, c4⟩ := hr.k hlt
  have hsum := sum_take hlt
  have hbd := sum_bd hg k (by omega)
  have hn := need_le hg hlt
  have hn0 := need_nonneg m.objs[k]
  obtain ⟨S, hS⟩ : ∃ S, S = ((m.objs.take k).map MO.need).sum := ⟨_, rfl⟩
  rw [← hS] at s3 hsum hbd
  have hsum2 := hsum
  rw [List.map_take] at hsum2
  cases ht : m.objs[k].there with
  | false =>
   rw [ht] at c0
   have hnd : m.objs[k].need = 0 := by unfold MO.need; simp [ht]
   rw [hnd] at hsum2
   simp -implicitDefEqProofs [-wps_asg, -wps_eff, wa2, we2, ir80_l2, h4, s0, ptr, hb.cell, hr.is, hr.len, hlt, ir80_k1, c0, ir80_k0, s3, i64w (n := (k : Int) + 1) (by omega), hsum2]
  | true =>
   rw [ht] at c0
   have hnd : m.objs[k].need = 2 + m.objs[k].vals.length := need_there ht
   have hthk : m.there ((k : Int) + 1) = true := by rw [there_at hlt]; exact ht
   have hsm := hg.small _ hthk
   rw [need_at hlt] at hsm
   have hv := ((hobs ((k : Int) + 1) (by omega) (by omega)).2)
   rw [need_at hlt] at hv
   have hvs := hv.sl (enc := encI) (by omega)
   rw [hnd] at hsum2
   have e1 : IntKind.i64.wrap (S + 2) = S + 2 := i64w (by omega)
   have e2 : IntKind.i64.wrap (S + 2 + (m.objs[k].vals.length : Int)) = S + (2 + (m.objs[k].vals.length : Int)) := by rw [i64w (by omega)]; omega
   simp -implicitDefEqProofs [-wps_asg, -wps_eff, wa2, we2, ir80_l2, h4, s0, ptr, hb.cell, hr.is, hr.len, hlt, ir80_k1, c0, c4, ir80_k0, s3, hvs.is, hvs.len, e1, e2, i64w (n := (k : Int) + 1) (by omega), hsum2]
 ·have hk' : k = m.objs.length := by omega
  subst hk'
  rw [List.take_length] at s3
  simp -implicitDefEqProofs [-wps_asg, -wps_eff, wa2, we2, ir80_l2, h4, s0, ptr, hb.cell, hr.is, hr.len, ir80_k3, s3]
  rfl
theorem r_Young (h : RAt base w Rb γ m) (hl : m.objs.length ≤ 100000000) (n : Int) : Calls Tryz.prog 82 #[ptr Rb, .int .i64 n] w fun e w' => e = .returned (.bool (m.young n)) ∧ w' = w := by
 obtain ⟨ov, dv, tv, kv, vv, hb, ho, hob, hdm, htl, hobs⟩ := h.hd
 have hr := RowO.of ho
 refine ir82_calls fun ρ r0 r1 => ?_
 simp -implicitDefEqProofs [-wps_asg, -wps_eff, wa2, we2, ir82, r0, r1]
 refine (r_There h hl n).mono ?_
 rintro _ _ ⟨rfl, rfl⟩
 cases ht : m.there n with
 | false => simp -implicitDefEqProofs [-wps_asg, -wps_eff, wa2, we2, ht, MS.young]
 | true =>
  have hn := there_le ht
  obtain ⟨_, _, _, _, _, c5, _⟩ := hr.c hn.1 hn.2
  have hw : IntKind.i64.wrap (n - 1) = n - 1 := i64w (by omega)
  have h1 : (0 : Int) ≤ n - 1 := by omega
  have h2 : n - 1 < (m.objs.length : Int) := by omega
  simp -implicitDefEqProofs [-wps_asg, -wps_eff, wa2, we2, r0, r1, ptr, hb.cell, hr.is, hr.len, hw, h1, h2, hn.1, c5, MS.young, ht]
  omega
theorem r_array (h : RAt base w Rb γ m) (hl : m.objs.length ≤ 100000000) (n : Int) : Calls Tryz.prog 119 #[ptr Rb, .int .i64 n] w fun e w' => e = .returned (.int .i64 (m.arrayE n)) ∧ w' = w := by
 obtain ⟨ov, dv, tv, kv, vv, hb, ho, hob, hdm, htl, hobs⟩ := h.hd
 have hr := RowO.of ho
 refine ir119_calls fun ρ r0 r1 => ?_
 simp -implicitDefEqProofs [-wps_asg, -wps_eff, wa2, we2, ir119, r0, r1]
 refine (r_asked h hl n).mono ?_
 rintro _ _ ⟨rfl, rfl⟩
 cases ht : m.there n with
 | false => simp -implicitDefEqProofs [-wps_asg, -wps_eff, wa2, we2, MS.arrayE, ht, ir119_k0]
 | true =>
  have hn := there_le ht
  obtain ⟨_, _, c2, _, _, _, _⟩ := hr.c hn.1 hn.2
  have hw : IntKind.i64.wrap (n - 1) = n - 1 := i64w (by omega)
  have h1 : (0 : Int) ≤ n - 1 := by omega
  have h2 : n - 1 < (m.objs.length : Int) := by omega
  by_cases he : (m.at n).elem = 0
  ·simp -implicitDefEqProofs [-wps_asg, -wps_eff, wa2, we2, r0, r1, ptr, hb.cell, hr.is, hr.len, hw, h1, h2, hn.1, c2, MS.arrayE, ht, he, ir119_k0]
  ·simp -implicitDefEqProofs [-wps_asg, -wps_eff, wa2, we2, r0, r1, ptr, hb.cell, hr.is, hr.len, hw, h1, h2, hn.1, c2, MS.arrayE, ht, he, ir119_k0]
theorem r_Tag (h : RAt base w Rb γ m) (hl : m.objs.length ≤ 100000000) (n : Int) : Calls Tryz.prog 66 #[ptr Rb, .int .i64 n] w fun e w' => e = .returned (.tuple #[.int .i64 (m.tag n).1, .int .i64 (m.tag n).2]) ∧ w' = w := by
 obtain ⟨ov, dv, tv, kv, vv, hb, ho, hob, hdm, htl, hobs⟩ := h.hd
 have hr := RowO.of ho
 refine ir66_calls fun ρ r0 r1 => ?_
 simp -implicitDefEqProofs [-wps_asg, -wps_eff, wa2, we2, ir66, r0, r1]
 refine (r_asked h hl n).mono ?_
 rintro _ _ ⟨rfl, rfl⟩
 cases ht : m.there n with
 | false => simp -implicitDefEqProofs [-wps_asg, -wps_eff, wa2, we2, MS.tag, ht]
 | true =>
  have hn := there_le ht
  obtain ⟨_, c1, c2, _, _, _, _⟩ := hr.c hn.1 hn.2
  have hw : IntKind.i64.wrap (n - 1) = n - 1 := i64w (by omega)
  have h1 : (0 : Int) ≤ n - 1 := by omega
  have h2 : n - 1 < (m.objs.length : Int) := by omega
  by_cases he : (m.at n).elem = 0
  ·simp -implicitDefEqProofs [-wps_asg, -wps_eff, wa2, we2, r0, r1, ptr, hb.cell, hr.is, hr.len, hw, h1, h2, hn.1, c1, c2, MS.tag, ht, he, ir66_k1, ir66_k0]
  ·simp -implicitDefEqProofs [-wps_asg, -wps_eff, wa2, we2, r0, r1, ptr, hb.cell, hr.is, hr.len, hw, h1, h2, hn.1, c1, c2, MS.tag, ht, he, ir66_k1, ir66_k0]
theorem r_Kind (h : RAt base w Rb γ m) (hl : m.objs.length ≤ 100000000) (n : Int) : Calls Tryz.prog 67 #[ptr Rb, .int .i64 n] w fun e w' => e = .returned (.tuple #[encU (m.kind n).1, .int .i64 (m.kind n).2]) ∧ w' = w := by
 obtain ⟨ov, dv, tv, kv, vv, hb, ho, hob, hdm, htl, hobs⟩ := h.hd
 have hr := RowO.of ho
 refine ir67_calls fun ρ r0 r1 => ?_
 simp -implicitDefEqProofs [-wps_asg, -wps_eff, wa2, we2, ir67, r0, r1]
 refine (r_asked h hl n).mono ?_
 rintro _ _ ⟨rfl, rfl⟩
 cases ht : m.there n with
 | false => simp -implicitDefEqProofs [-wps_asg, -wps_eff, wa2, we2, MS.kind, ht, encU]
 | true =>
  have hn := there_le ht
  obtain ⟨_, c1, c2, _, _, _, _⟩ := hr.c hn.1 hn.2
  have hw : IntKind.i64.wrap (n - 1) = n - 1 := i64w (by omega)
  have h1 : (0 : Int) ≤ n - 1 := by omega
  have h2 : n - 1 < (m.objs.length : Int) := by omega
  simp -implicitDefEqProofs [-wps_asg, -wps_eff, wa2, we2, r0, r1, ptr, hb.cell, hr.is, hr.len, hw, h1, h2, hn.1, c1, c2, MS.kind, ht, ir67_k0, encU]
theorem arrayE_zero' {m : MS} {n : Int} (h : m.arrayE n = 0) : m.there n = true := (arrayE_zero.1 h).1
theorem r_Size (h : RAt base w Rb γ m) (hg : MG m) (n : Int) : Calls Tryz.prog 68 #[ptr Rb, .int .i64 n] w fun e w' => e = .returned (.tuple #[.int .i64 (m.size n).1, .int .i64 (m.size n).2]) ∧ w' = w := by
 obtain ⟨ov, dv, tv, kv, vv, hb, ho, hob, hdm, htl, hobs⟩ := h.hd
 have hl := hg.len
 have hr := RowO.of ho
 refine ir68_calls fun ρ r0 r1 => ?_
 simp -implicitDefEqProofs [-wps_asg, -wps_eff, wa2, we2, ir68, r0, r1]
 refine (r_array h hl n).mono ?_
 rintro _ _ ⟨rfl, rfl⟩
 by_cases hE : m.arrayE n = 0
 ·have ht := arrayE_zero' hE
  have hn := there_le ht
  obtain ⟨_, c1, c2, _, c4, _, _⟩ := hr.c hn.1 hn.2
  have hsm := hg.small n ht
  have hvs := (hobs n hn.1 hn.2).2.sl (enc := encI) (by omega)
  have hw : IntKind.i64.wrap (n - 1) = n - 1 := i64w (by omega)
  have h1 : (0 : Int) ≤ n - 1 := by omega
  have h2 : n - 1 < (m.objs.length : Int) := by omega
  simp -implicitDefEqProofs [-wps_asg, -wps_eff, wa2, we2, r0, r1, ptr, hb.cell, hr.is, hr.len, hw, h1, h2, hn.1, c4, hvs.is, hvs.len, MS.size, hE, ir68_k0]
 ·simp -implicitDefEqProofs [-wps_asg, -wps_eff, wa2, we2, MS.size, hE]
theorem r_Asked (h : RAt base w Rb γ m) (work : Int) : Calls Tryz.prog 123 #[ptr Rb, .int .i64 work] w fun e w' => e = .returned (.int .i64 (m.asked work)) ∧ w' = w := by
 obtain ⟨ov, dv, tv, kv, vv, hb, ho, hob, hdm, htl, hobs⟩ := h.hd
 refine ir123_calls fun ρ r0 r1 => ?_
 by_cases h1 : work < 1
 ·simp -implicitDefEqProofs [-wps_asg, -wps_eff, wa2, we2, ir123, r0, r1, h1, MS.asked]
 ·by_cases h2 : 100000 < work
  ·simp -implicitDefEqProofs [-wps_asg, -wps_eff, wa2, we2, ir123, r0, r1, h1, h2, MS.asked]
  ·cases hon : m.on with
   | true => simp -implicitDefEqProofs [-wps_asg, -wps_eff, wa2, we2, ir123, r0, r1, h1, h2, MS.asked, ir123_k1, ptr, hb.cell, hon, ir123_k0]
   | false => simp -implicitDefEqProofs [-wps_asg, -wps_eff, wa2, we2, ir123, r0, r1, h1, h2, MS.asked, ir123_k1, ptr, hb.cell, hon, ir123_k0]
end
end Go.L17
namespace Go.L17
open Go Go.Eng Go.RowKit
open Go.Proofs hiding encI
set_option maxRecDepth 100000
set_option maxHeartbeats 2000000
theorem z145 : zeroCellsOf Tryz.prog 145 = some #[.bool false, .int .i64 0, .int .u8 0, .slice none 0 0, .slice none 0 0, .int .i64 0, .bool false] := by kernel_rfl
theorem sz145 : sizeIs Tryz.prog 145 7 = true := by kernel_rfl
section
variable {base Rb : Nat} {γ : Lay} {m : MS} {w : World}
theorem eff_copyO {Q : Ks} {K : Env → World → Prop} {ρ : Env} {w : World} {d1 d2 : Nat} {r : List St} {a b : Value} {o : MO} (hne : d1 ≠ d2) (h : ρ d1 = .agg (encO a b o).toArray) (ha : a.oneCell = true) (hb : b.oneCell = true)
  (hk : ∀ B W, w.heap.size ≤ B → Ext w W → Blk W B #[.bool o.there, .int .i64 o.tag, .int .u8 (o.elem : Int), a, b, .int .i64 (o.age : Int), .bool o.watched] 145 → wps Tryz.prog Q r K (upd ρ d2 (.pointer (some ⟨B, 0, none⟩))) W) :
  goE Tryz.prog Q true (some d2) (.alloc 145) 0 (wps Tryz.prog Q (.eff none none (.store 145 (.tmp d2) (.tmp d1)) 0 :: r) K) ρ w := by
 rw [goE, if_pos rfl]
 refine eff_alloc z145 fun B W hB hE hb2 _ => ?_
 simp only [updO_some, wps_eff, gd, if_true]
 have hv : evE (upd ρ d2 (.pointer (some ⟨B, 0, none⟩))) (.tmp d1) = .agg (encO a b o).toArray := by simp [hne, h]
 refine eff_storeN (B := B) (by simp) hb2 (by rw [hv]; rfl) (by rw [hv]; intro v hv2; simp [Value.cells, encO] at hv2; rcases hv2 with rfl | rfl | rfl | rfl | rfl | rfl | rfl <;> first | rfl | assumption) (by simpa using sz145) fun W2 hO hb3 => ?_
 rw [hv] at hb3
 simp only [updO_none]
 exact hk B W2 hB (hO.ext hE hB) hb3
theorem slAt_one {base e : Nat} {w : World} {v : Value} {xs : List Value} {b : Option Nat} (h : SlAt base e w v xs b) : v.oneCell = true := (own_one h.own).2
theorem r_field (h : RAt base w Rb γ m) (hg : MG m) (n i : Int) : Calls Tryz.prog 117 #[ptr Rb, .int .i64 n, .int .i64 i] w fun e w' => e = .returned (.int .i64 (m.fieldE n i)) ∧ Ext w w' := by
 obtain ⟨ov, dv, tv, kv, vv, hb, ho, hob, hdm, htl, hobs⟩ := h.hd
 have hl := hg.len
 have hr := RowO.of ho
 refine ir117_calls fun ρ r0 r1 r2 => ?_
 simp -implicitDefEqProofs [-wps_asg, -wps_eff, wa2, we2, ir117, r0, r1]
 refine (r_asked h hl n).mono ?_
 rintro _ _ ⟨rfl, rfl⟩
 cases ht : m.there n with
 | false =>
  simp -implicitDefEqProofs [-wps_asg, -wps_eff, wa2, we2, MS.fieldE, ht]
  exact ext_refl _
 | true =>
  have hn := there_le ht
  have hrow := hr.row hn.1 hn.2
  have hsm := hg.small n ht
  have hvs := (hobs n hn.1 hn.2).2.sl (enc := encI) (by omega)
  have hw : IntKind.i64.wrap (n - 1) = n - 1 := i64w (by omega)
  have h1 : (0 : Int) ≤ n - 1 := by omega
  have h2 : n - 1 < (m.objs.length : Int) := by omega
  simp -implicitDefEqProofs [-wps_asg, -wps_eff, wa2, we2, r0, r1, ptr, hb.cell, hr.is, hr.len, hw, h1, h2, hn.1, hrow, ir117_k1]
  refine eff_copyO (o := m.at n) (by decide) (by simp) (slAt_one (hobs n hn.1 hn.2).1) (slAt_one (hobs n hn.1 hn.2).2) fun B W hB hE hbl => ?_
  have hvs2 := hvs.ext hE
  by_cases he : (m.at n).elem = 0
  ·by_cases hi : i < 0
   ·simp -implicitDefEqProofs [-wps_asg, -wps_eff, wa2, we2, hbl.cell, r2, hvs2.is, hvs2.len, he, hi, MS.fieldE, ht]
    exact hE
   ·by_cases hi2 : ((m.at n).vals.length : Int) ≤ i
    ·simp -implicitDefEqProofs [-wps_asg, -wps_eff, wa2, we2, hbl.cell, r2, hvs2.is, hvs2.len, he, hi, hi2, MS.fieldE, ht]
     exact hE
    ·simp -implicitDefEqProofs [-wps_asg, -wps_eff, wa2, we2, hbl.cell, r2, hvs2.is, hvs2.len, he, hi, hi2, MS.fieldE, ht, ir117_k0]
     exact hE
  ·simp -implicitDefEqProofs [-wps_asg, -wps_eff, wa2, we2, hbl.cell, r2, hvs2.is, hvs2.len, he, MS.fieldE, ht]
   exact hE
theorem getD_get {α : Type} {l : List α} {i : Nat} {d : α} (h : i < l.length) : l.getD i d = l[i] := by rw [List.getD_eq_getElem?_getD, List.getElem?_eq_getElem h]; rfl
theorem r_Get (h : RAt base w Rb γ m) (hg : MG m) (n i : Int) : Calls Tryz.prog 64 #[ptr Rb, .int .i64 n, .int .i64 i] w fun e w' => e = .returned (.tuple #[encU (m.get n i).1, .int .i64 (m.get n i).2.1, .int .i64 (m.get n i).2.2]) ∧ Ext w w' := by
 have hl := hg.len
 refine ir64_calls fun ρ r0 r1 r2 => ?_
 simp -implicitDefEqProofs [-wps_asg, -wps_eff, wa2, we2, ir64, r0, r1, r2]
 refine (r_field h hg n i).mono ?_
 rintro _ W0 ⟨rfl, hE0⟩
 by_cases hE : m.fieldE n i = 0
 rotate_left
 ·simp -implicitDefEqProofs [-wps_asg, -wps_eff, wa2, we2, hE, MS.get, encU]
  exact hE0
 ·obtain ⟨ov, dv, tv, kv, vv, hb, ho, hob, hdm, htl, hobs⟩ := (h.ext hE0).hd
  have hr := RowO.of ho
  obtain ⟨ht, he, hi0, hi1⟩ := fieldE_zero.1 hE
  have hn := there_le ht
  have hrow := hr.row hn.1 hn.2
  have hsm := hg.small n ht
  have hkl := hg.kinds n ht he
  have hvs := (hobs n hn.1 hn.2).2.sl (enc := encI) (by omega)
  have hks := (hobs n hn.1 hn.2).1.sl (enc := encU) (by omega)
  have hw : IntKind.i64.wrap (n - 1) = n - 1 := i64w (by omega)
  have h1 : (0 : Int) ≤ n - 1 := by omega
  have h2 : n - 1 < (m.objs.length : Int) := by omega
  simp -implicitDefEqProofs [-wps_asg, -wps_eff, wa2, we2, hE, r0, r1, ptr, hb.cell, hr.is, hr.len, hw, h1, h2, hn.1, hrow, ir64_k1]
  refine eff_copyO (o := m.at n) (by decide) (by simp) (slAt_one (hobs n hn.1 hn.2).1) (slAt_one (hobs n hn.1 hn.2).2) fun B W hB hE2 hbl => ?_
  have hvs2 := hvs.ext hE2
  have hks2 := hks.ext hE2
  have hin : i.toNat < (m.at n).vals.length := by omega
  have hik : i.toNat < (m.at n).kinds.length := by omega
  have hi2 : i < ((m.at n).kinds.length : Int) := by omega
  have e1 : (m.at n).kinds[i.toNat]?.getD 0 = (m.at n).kinds[i.toNat] := by rw [List.getElem?_eq_getElem hik]; rfl
  have e2 : (m.at n).vals[i.toNat]?.getD 0 = (m.at n).vals[i.toNat] := by rw [List.getElem?_eq_getElem hin]; rfl
  simp -implicitDefEqProofs [-wps_asg, -wps_eff, wa2, we2, hbl.cell, r2, hvs2.is, hvs2.len, hks2.is, hks2.len, hi0, hi1, hi2, hvs2.cell i.toNat hin, hks2.cell i.toNat hik, MS.get, hE, ir64_k0, encU, encI, e1, e2, -List.getD_eq_getElem?_getD]
  intro w' hw'
  rw [getD_get hik, getD_get hin]
  exact ⟨⟨rfl, rfl⟩, (hE0.trans' hE2).trans' hw'⟩
theorem r_Fetch (h : RAt base w Rb γ m) (hg : MG m) (n i : Int) : Calls Tryz.prog 72 #[ptr Rb, .int .i64 n, .int .i64 i] w fun e w' => e = .returned (.tuple #[.int .i64 (m.fetch n i).1, .int .i64 (m.fetch n i).2]) ∧ Ext w w' := by
 have hl := hg.len
 obtain ⟨ov, dv, tv, kv, vv, hb, ho, hob, hdm, htl, hobs⟩ := h.hd
 have hr := RowO.of ho
 refine ir72_calls fun ρ r0 r1 r2 => ?_
 simp -implicitDefEqProofs [-wps_asg, -wps_eff, wa2, we2, ir72, r0, r1, r2]
 refine (r_array h hl n).mono ?_
 rintro _ _ ⟨rfl, rfl⟩
 by_cases hE : m.arrayE n = 0
 rotate_left
 ·simp -implicitDefEqProofs [-wps_asg, -wps_eff, wa2, we2, hE, MS.fetch, MS.elemE]
  exact ext_refl _
 ·have ht := arrayE_zero' hE
  have hn := there_le ht
  have hrow := hr.row hn.1 hn.2
  have hsm := hg.small n ht
  have hvs := (hobs n hn.1 hn.2).2.sl (enc := encI) (by omega)
  have hw : IntKind.i64.wrap (n - 1) = n - 1 := i64w (by omega)
  have h1 : (0 : Int) ≤ n - 1 := by omega
  have h2 : n - 1 < (m.objs.length : Int) := by omega
  simp -implicitDefEqProofs [-wps_asg, -wps_eff, wa2, we2, hE, r0, r1, ptr, hb.cell, hr.is, hr.len, hw, h1, h2, hn.1, hrow, ir72_k1]
  refine eff_copyO (o := m.at n) (by decide) (by simp) (slAt_one (hobs n hn.1 hn.2).1) (slAt_one (hobs n hn.1 hn.2).2) fun B W hB hE2 hbl => ?_
  have hvs2 := hvs.ext hE2
  by_cases hi : i < 1
  ·have hs : m.fetch n i = (0, 5) := by simp [MS.fetch, MS.elemE, hE, hi]
   simp -implicitDefEqProofs [-wps_asg, -wps_eff, wa2, we2, hbl.cell, r2, hvs2.is, hvs2.len, hi, hs]
   exact hE2
  ·by_cases hi2 : ((m.at n).vals.length : Int) < i
   ·have hs : m.fetch n i = (0, 5) := by simp [MS.fetch, MS.elemE, hE, hi2]
    simp -implicitDefEqProofs [-wps_asg, -wps_eff, wa2, we2, hbl.cell, r2, hvs2.is, hvs2.len, hi, hi2, hs]
    exact hE2
   ·have hin : i.toNat - 1 < (m.at n).vals.length := by omega
    have hs : m.fetch n i = ((m.at n).vals[i.toNat - 1], 0) := by
     have : (i - 1).toNat = i.toNat - 1 := by omega
     have he0 : m.elemE n i = 0 := elemE_zero.2 ⟨arrayE_zero.1 hE, by omega, by omega⟩
     unfold MS.fetch
     rw [if_pos he0, this, getD_get hin]
    have hwi : IntKind.i64.wrap (i - 1) = i - 1 := i64w (by omega)
    have hi3 : i - 1 < ((m.at n).vals.length : Int) := by omega
    have hi4 : (1 : Int) ≤ i := by omega
    simp -implicitDefEqProofs [-wps_asg, -wps_eff, wa2, we2, hbl.cell, r2, hvs2.is, hvs2.len, hi, hi2, hs, ir72_k0, hwi, hi3, hi4, hvs2.cell (i.toNat - 1) hin, encI]
    exact hE2
def RpR (base : Nat) (w : World) (Rb : Nat) (γ : Lay) (v : Value) (m' : MS) : Ending → World → Prop := fun e w' => e = .returned v ∧ ∃ γ', RAt base w' Rb γ' m' ∧ Turn γ w γ' w'
theorem RpR.of {v : Value} {w' : World} (h : RAt base w Rb γ m) (hE : Ext w w') : RpR base w Rb γ v m (.returned v) w' := ⟨rfl, γ, h.ext hE, Turn.of hE⟩
def RoomO (base : Nat) (w : World) (Rb : Nat) (γ : Lay) (v : Value) (m' : MS) : Ending → World → Prop := fun e w' => e = .returned v ∧ RAt base w' Rb γ m' ∧ Fr (fun k => k = Rb) w w'
theorem r_room2 (h : RAt base w Rb γ m) (hg : MG m) (n : Int) (hn : 0 ≤ n ∧ n ≤ 1000) (ho : -1000000000000 ≤ m.owed ∧ m.owed ≤ 1000000000000) : Calls Tryz.prog 116 #[ptr Rb, .int .i64 n] w (RoomO base w Rb γ (.bool (m.fits n)) (if m.fits n then m.paid n else m)) := by
 obtain ⟨R, hR⟩ : ∃ R, R = RoomO base w Rb γ (.bool (m.fits n)) (if m.fits n then m.paid n else m) := ⟨_, rfl⟩
 rw [← hR]
 have hwd := hg.words
 have hu := used_nonneg m
 refine ir116_calls fun ρ r0 r1 => ?_
 obtain ⟨ov0, dv0, tv0, kv0, vv0, hb0, _⟩ := h.hd
 simp -implicitDefEqProofs [-qwps, qwps_eff, qwps_asg, qwps_nil, ir116, r0, r1]
 refine qE_call (.int .i64 m.used) cbr80 (fun w' hw' => ?_) ?_
 ·simp
  refine (r_Used (h.ext hw') hg).mono ?_
  rintro _ _ ⟨rfl, rfl⟩
  exact ⟨rfl, hw'⟩
 have hw1 : IntKind.i64.wrap (m.used + n) = m.used + n := i64w (by omega)
 simp -implicitDefEqProofs [-qwps, qwps_eff, qwps_asg, qwps_nil, r0, r1, ptr, hb0.cell, hw1]
 intro W hE
 by_cases hf : m.words < m.used + n
 ·have hfit : m.fits n = false := by simp [MS.fits]; omega
  rw [hfit] at hR
  simp -implicitDefEqProofs [-wps_asg, -wps_eff, wa2, we2, hf, ir116_k2]
  rw [hR]
  exact ⟨rfl, h.ext hE, Fr.of hE⟩
 ·have hfit : m.fits n = true := by simp [MS.fits]; omega
  rw [hfit] at hR
  obtain ⟨ov, dv, tv, kv, vv, hb, hO, hob, hdm, htl, hobs⟩ := (h.ext hE).hd
  cases hon : m.on with
  | false =>
   have hp : m.paid n = m := by unfold MS.paid; rw [if_neg (by simp [hon])]
   rw [hp] at hR
   rw [hon] at hb
   simp -implicitDefEqProofs [-wps_asg, -wps_eff, wa2, we2, hf, ir116_k2, ir116_k1, r0, ptr, hb.cell, ir116_k0]
   rw [hR]
   exact ⟨rfl, h.ext hE, Fr.of hE⟩
  | true =>
   have hp : m.paid n = { m with owed := m.owed + n } := by simp [MS.paid, hon]
   rw [hp] at hR
   have hon' := hon
   rw [hon] at hb
   have hw2 : IntKind.i64.wrap (m.owed + n) = m.owed + n := i64w (by omega)
   simp -implicitDefEqProofs [-wps_asg, -wps_eff, wa2, we2, hf, ir116_k2, ir116_k1, r0, r1, ptr, hb.cell, hw2]
   refine eff_store1 (B := Rb) (i := 4) (by simp) hb (by simp) rfl rfl sz3' fun W2 hO2 hb2 => ?_
   simp at hb2
   simp -implicitDefEqProofs [-wps_asg, -wps_eff, wa2, we2, ir116_k0]
   rw [hR]
   have hRW := h.ext hE
   have st : ∀ r b, r ≠ .heap → γ r = some b → W2.heap[b]? = W.heap[b]? := fun r b hr hb => hO2.block b fun e => hr (hRW.inj _ _ _ hb (by rw [e]; exact hRW.hb))
   have z2 := hO2.size
   refine ⟨rfl, ⟨h.inj, h.lo, fun r b hr => by have := hRW.hi r b hr; omega, h.hb, ⟨ov, dv, tv, kv, vv, by rw [hon']; exact hb2, Own.same' hO fun k hk => st .map k (by simp) (by rw [← hob]; exact hk), hob, hdm.keep fun k hk => st _ k (by simp) hk, htl.keep fun k hk => st _ k (by simp) hk, fun x a b => ⟨(hobs x a b).1.keep fun k hk => st _ k (by simp) hk, (hobs x a b).2.keep fun k hk => st _ k (by simp) hk⟩⟩, h.free⟩, ?_⟩
   exact (Fr.of hE (S := fun k => k = Rb)).trans (Fr.only hO2 (S := fun k => k = Rb) rfl) fun x h => .inl h
theorem r_room (h : RAt base w Rb γ m) (hg : MG m) (n : Int) (hn : 0 ≤ n ∧ n ≤ 1000) (ho : -1000000000000 ≤ m.owed ∧ m.owed ≤ 1000000000000) : Calls Tryz.prog 116 #[ptr Rb, .int .i64 n] w (RpR base w Rb γ (.bool (m.fits n)) (if m.fits n then m.paid n else m)) :=
 (r_room2 h hg n hn ho).mono fun _ _ ⟨a, b, c⟩ => ⟨a, γ, b, c.mono fun x hx => .inl ⟨.heap, by rw [hx]; exact h.hb⟩, fun _ h => .inl h⟩
end
end Go.L17
namespace Go.L17
open Go Go.Eng Go.RowKit
open Go.Proofs hiding encI
set_option maxRecDepth 100000
set_option maxHeartbeats 2000000
theorem flatMap_congr' {α β : Type} {f g : α → List β} : ∀ {l : List α}, (∀ x ∈ l, f x = g x) → l.flatMap f = l.flatMap g
 | [], _ => rfl
 | x :: l, h => by rw [List.flatMap_cons, List.flatMap_cons, h x (by simp), flatMap_congr' fun y hy => h y (by simp [hy])]
theorem cellsO_same {kv vv : Int → Value} {objs : List MO} {i : Nat} {o : MO} (hi : i < objs.length) (h : ∀ a b, encO a b o = encO a b objs[i]) : cellsO kv vv (objs.set i o) = cellsO kv vv objs := by
 unfold cellsO
 rw [List.length_set]
 apply flatMap_congr'
 intro k hk
 have hk' := List.mem_range.1 hk
 by_cases e : k = i
 ·subst e
  rw [List.getD_eq_getElem?_getD, List.getElem?_set_self hi, List.getD_eq_getElem?_getD, List.getElem?_eq_getElem hi]
  exact h _ _
 ·rw [List.getD_eq_getElem?_getD, List.getElem?_set_ne (by omega), List.getD_eq_getElem?_getD]
theorem cellsO_set {kv vv : Int → Value} {objs : List MO} {i j : Nat} {v : Value} {o : MO} (hi : i < objs.length) (hj : j < 7) (h : ∀ a b, (encO a b objs[i]).set j v = encO a b o) : (cellsO kv vv objs).set (i * 7 + j) v = cellsO kv vv (objs.set i o) := by
 unfold cellsO
 rw [List.length_set]
 refine flat_ext (s := 7) (fun _ => rfl) (by decide) (by rw [List.length_set]; exact cellsO_len kv vv objs) fun k l hk hl => ?_
 have hg := cellsO_get (kv := kv) (vv := vv) (objs := objs) hk hl
 unfold cellsO at hg
 by_cases e : k = i
 ·subst e
  have hs := congrArg (fun (x : List Value) => x[l]?) (h (kv ((k : Int) + 1)) (vv ((k : Int) + 1)))
  rw [List.getD_eq_getElem?_getD, List.getElem?_set_self hi]
  show _ = (encO _ _ o)[l]?
  rw [← hs]
  by_cases el : l = j
  ·subst el
   rw [List.getElem?_set_self (by
    have : (k + 1) * 7 ≤ objs.length * 7 := Nat.mul_le_mul_right _ hk
    have h3 := cellsO_len kv vv objs
    unfold cellsO at h3
    rw [h3]; omega), List.getElem?_set_self (by rw [encO_len]; exact hl)]
  ·rw [List.getElem?_set_ne (by omega), List.getElem?_set_ne (by omega), hg, List.getD_eq_getElem?_getD, List.getElem?_eq_getElem hi]
   rfl
 ·rw [List.getElem?_set_ne (by omega), hg, List.getD_eq_getElem?_getD, List.getD_eq_getElem?_getD, List.getElem?_set_ne (by omega)]
section
variable {P : Program} {Q : Ks} {d : Option Nat} {ty : TypeId} {K : Env → World → Prop} {ρ : Env} {w : World}
theorem eff_storeR {t : TypeId} {p x : Operand} {e sz : Nat} {sv : Value} {xs : List Value} {base i : Nat} (hown : Own base e sz w sv xs) (hi : i < xs.length) (hp : evE ρ p = .pointer (some (slAddr sv i)))
  (hx : (evE ρ x).cells = #[evE ρ x]) (h1 : (evE ρ x).oneCell = true) (hs : sizeIs P t 1 = true) (h : ∀ b W, sv.ownBlock = some b → Only b w W → Own base e sz W sv (xs.set i (evE ρ x)) → K (updO ρ d undef) W) : effW P Q d (.store t p x) ty K ρ w := by
 rcases hown with ⟨rfl, rfl⟩ | ⟨g, off, n, cap, cur, rfl, hb, hg, hn, hnc, hm, hcs, ht⟩
 ·simp at hi
 ·have hmul : n * sz ≤ cap * sz := Nat.mul_le_mul_right _ hnc
  have hb0 : Blk w g cur e := ⟨hg⟩
  simp only [slAddr, add_lit] at hp
  refine eff_store1 (B := g) (i := off + i) hp hb0 (by omega) hx h1 hs fun W hO hB => ?_
  refine h g W rfl hO (.inr ⟨g, off, n, cap, _, rfl, hb, hB.heap, by simpa using hn, hnc, hm, by simpa using hcs, ?_⟩)
  rw [Array.toList_set, ← ht, ← List.set_drop, List.take_set]
theorem storesW_row {base e sz : Nat} {g off n cap i0 : Nat} {K : World → Prop} : ∀ (vs : List Value) (i : Nat) (xs : List Value) {w : World}, Own base e sz w (.slice (some ⟨g, off, none⟩) n cap) xs → i0 + i + vs.length ≤ xs.length → (∀ v ∈ vs, v.oneCell = true) →
  (∀ W, Only g w W → Own base e sz W (.slice (some ⟨g, off, none⟩) n cap) (setN xs (i0 + i) vs) → K W) → storesW ⟨g, off + i0, none⟩ vs i K w
 | [], _, _, w, ho, _, _, h => h w (Only.refl _ _) ho
 | v :: vs, i, xs, w, ho, hl, h1, h => by
  rw [List.length_cons] at hl
  rcases ho with ⟨hv, _⟩ | ⟨g2, off2, n2, cap2, cur, hv, hb, hg, hn, hnc, hm, hcs, ht⟩
  ·cases hv
  ·cases hv
   have hmul : n * sz ≤ cap * sz := Nat.mul_le_mul_right _ hnc
   have hb0 : Blk w g cur e := ⟨hg⟩
   have hlt : off + i0 + i < cur.size := by omega
   refine ⟨⟨cur[off + i0 + i], ?_⟩, ?_, h1 v (by simp), ?_⟩
   ·rw [add_lit, hb0.cell]; simp [hlt]
   ·rw [add_lit, hb0.free]
   ·rw [add_lit]
    refine storesW_row vs (i + 1) (xs.set (i0 + i) v) (.inr ⟨g, off, n, cap, _, rfl, hb, (blk_setCell hb0 _ v).heap, by simpa using hn, hnc, hm, by simpa using hcs, ?_⟩) (by rw [List.length_set]; omega) (fun x hx => h1 x (by simp [hx])) fun W hO2 ho2 => h W ((only_setCell w g _ v).trans hO2) ho2
    rw [Array.toList_setIfInBounds, ← ht, Nat.add_assoc, ← List.set_drop, List.take_set]
theorem eff_storeRN {t : TypeId} {p x : Operand} {e sz : Nat} {sv : Value} {xs vs : List Value} {base i : Nat} (hown : Own base e sz w sv xs) (hi : i + vs.length ≤ xs.length) (hne : vs ≠ []) (hp : evE ρ p = .pointer (some (slAddr sv i)))
  (hx : (evE ρ x).cells.toList = vs) (h1 : ∀ v ∈ vs, v.oneCell = true) (hs : sizeIs P t vs.length = true) (h : ∀ b W, sv.ownBlock = some b → Only b w W → Own base e sz W sv (setN xs i vs) → K (updO ρ d undef) W) : effW P Q d (.store t p x) ty K ρ w := by
 have hpos : 0 < vs.length := List.length_pos_iff.2 hne
 rcases hown with ⟨rfl, rfl⟩ | ⟨g, off, n, cap, cur, rfl, hr⟩
 ·simp at hi; exact absurd hi.2 hne
 ·simp only [slAddr] at hp
  show sizeIs P t (evE ρ x).cells.size = true ∧ ptrK (evE ρ p) _
  rw [hp]
  refine ⟨by rw [← Array.length_toList, hx]; exact hs, ?_⟩
  show storesW ⟨g, off + i, none⟩ _ 0 _ w
  rw [hx]
  exact storesW_row vs 0 xs (.inr ⟨g, off, n, cap, cur, rfl, hr⟩) (by omega) h1 fun W hO ho => h g W rfl hO ho
end
section
variable {base Rb : Nat} {γ γ' : Lay} {m m' : MS} {w w' : World}
theorem RAt.turn (h : RAt base w Rb γ m) {s : Nat} (hs : ∀ r b, γ r = some b → b < s) (hbw : base ≤ s) (hh : γ' .heap = some Rb) (back : ∀ r b, γ' r = some b → (γ r = some b ∨ s ≤ b) ∧ b < w'.heap.size)
  (uniq : ∀ r1 r2 b, γ' r1 = some b → γ' r2 = some b → s ≤ b → r1 = r2)
  (hd : ∃ ov dv tv, ∃ kv vv : Int → Value, Blk w' Rb #[.int .i64 m'.words, ov, .bool m'.on, dv, .int .i64 m'.owed, tv] 43 ∧ Own base 145 7 w' ov (cellsO kv vv m'.objs) ∧ ov.ownBlock = γ' .map ∧ SlAt base 3 w' dv (m'.doomed.map encI) (γ' .gr) ∧ SlAt base 3 w' tv (m'.told.map encI) (γ' .en) ∧
   ∀ n : Int, 1 ≤ n → n ≤ m'.objs.length → SlAt base 5 w' (kv n) ((m'.at n).kinds.map encU) (γ' (.ks n)) ∧ SlAt base 3 w' (vv n) ((m'.at n).vals.map encI) (γ' (.vs n)))
  (free : ∀ n : Int, ¬ (1 ≤ n ∧ n ≤ m'.objs.length) → γ' (.ks n) = none ∧ γ' (.vs n) = none) : RAt base w' Rb γ' m' := by
 refine ⟨fun r1 r2 b h1 h2 => ?_, fun r b hb => ?_, fun r b hb => (back r b hb).2, hh, hd, free⟩
 ·rcases (back r1 b h1).1 with e1 | e1
  ·rcases (back r2 b h2).1 with e2 | e2
   ·exact h.inj _ _ _ e1 e2
   ·exact uniq r1 r2 b h1 h2 e2
  ·exact uniq r1 r2 b h1 h2 e1
 ·rcases (back r b hb).1 with e | e
  ·exact h.lo r b e
  ·omega
end
end Go.L17
namespace Go.L17
open Go Go.Eng Go.RowKit
open Go.Proofs hiding encI
set_option maxRecDepth 100000
set_option maxHeartbeats 2000000
def updR (γ : Lay) (r : Role) (v : Option Nat) : Lay := fun r' => if r' = r then v else γ r'
@[simp] theorem updR_self (γ : Lay) (r : Role) (v : Option Nat) : updR γ r v r = v := by simp [updR]
theorem updR_ne {γ : Lay} {r r' : Role} {v : Option Nat} (h : r' ≠ r) : updR γ r v r' = γ r' := by simp [updR, h]
theorem updR_some {γ : Lay} {r r' : Role} {v : Option Nat} {b : Nat} (h : updR γ r v r' = some b) : (r' = r ∧ v = some b) ∨ (r' ≠ r ∧ γ r' = some b) := by
 unfold updR at h
 split at h
 ·rename_i e; exact .inl ⟨e, h⟩
 ·rename_i e; exact .inr ⟨e, h⟩
structure ROpen (base : Nat) (w : World) (Rb : Nat) (γ : Lay) (m : MS) (ov dv tv : Value) (kv vv : Int → Value) : Prop where
 hd : Blk w Rb #[.int .i64 m.words, ov, .bool m.on, dv, .int .i64 m.owed, tv] 43
 objs : Own base 145 7 w ov (cellsO kv vv m.objs)
 ob : ov.ownBlock = γ .map
 doom : SlAt base 3 w dv (m.doomed.map encI) (γ .gr)
 told : SlAt base 3 w tv (m.told.map encI) (γ .en)
 at' : ∀ n : Int, 1 ≤ n → n ≤ m.objs.length → SlAt base 5 w (kv n) ((m.at n).kinds.map encU) (γ (.ks n)) ∧ SlAt base 3 w (vv n) ((m.at n).vals.map encI) (γ (.vs n))
theorem RAt.opened {base : Nat} {w : World} {Rb : Nat} {γ : Lay} {m : MS} (h : RAt base w Rb γ m) : ∃ ov dv tv kv vv, ROpen base w Rb γ m ov dv tv kv vv := by
 obtain ⟨ov, dv, tv, kv, vv, a, b, c, d, e, f⟩ := h.hd
 exact ⟨ov, dv, tv, kv, vv, a, b, c, d, e, f⟩
section
variable {base Rb : Nat} {γ : Lay} {m : MS} {w w' : World} {ov dv tv : Value} {kv vv : Int → Value}
theorem RAt.ne (h : RAt base w Rb γ m) {r1 r2 : Role} {b1 b2 : Nat} (h1 : γ r1 = some b1) (h2 : γ r2 = some b2) (hne : r1 ≠ r2) : b1 ≠ b2 := fun e => hne (h.inj _ _ _ h1 (by rw [e]; exact h2))
theorem RAt.valsPut (h : RAt base w Rb γ m) (ho : ROpen base w Rb γ m ov dv tv kv vv) {ref : Int} (hr : 1 ≤ ref ∧ ref ≤ m.objs.length) {b : Nat} (hvb : (vv ref).ownBlock = some b) (hO : Only b w w') {vals' : List Int} (hv : Own base 3 1 w' (vv ref) (vals'.map encI)) :
  RAt base w' Rb γ (m.put ref ((m.at ref).withVals vals')) ∧ Turn γ w γ w' := by
 have hγ : γ (.vs ref) = some b := by rw [← (ho.at' ref hr.1 hr.2).2.blk]; exact hvb
 have hz := hO.size
 have st : ∀ r x, r ≠ .vs ref → γ r = some x → w'.heap[x]? = w.heap[x]? := fun r x hr2 hx => hO.block x (h.ne hx hγ hr2)
 have hlen : (m.put ref ((m.at ref).withVals vals')).objs.length = m.objs.length := len_put _ _ _
 have hi : (ref - 1).toNat < m.objs.length := by omega
 refine ⟨⟨h.inj, h.lo, fun r x hx => by have := h.hi r x hx; omega, h.hb, ⟨ov, dv, tv, kv, vv, Blk.keep ho.hd (st _ _ (by simp) h.hb), ?_, ho.ob, ho.doom.keep fun k hk => st _ k (by simp) hk, ho.told.keep fun k hk => st _ k (by simp) hk, fun n h1 h2 => ?_⟩, fun n hn => h.free n (by rw [hlen] at hn; exact hn)⟩, Fr.only hO ⟨_, hγ⟩, fun _ h => .inl h⟩
 ·have e : cellsO kv vv (m.put ref ((m.at ref).withVals vals')).objs = cellsO kv vv m.objs := cellsO_same hi fun a b => by
   have : m.objs[(ref - 1).toNat] = m.at ref := by unfold MS.at; rw [getD_get hi]
   rw [this]; rfl
  rw [e]
  exact Own.same' ho.objs fun k hk => st .map k (by simp) (by rw [← ho.ob]; exact hk)
 ·rw [hlen] at h2
  rw [at_put hr h1]
  obtain ⟨a1, a2⟩ := ho.at' n h1 h2
  by_cases e : n = ref
  ·subst e
   rw [if_pos rfl]
   exact ⟨a1.keep fun k hk => st _ k (by simp) hk, ⟨hv, a2.blk⟩⟩
  ·rw [if_neg e]
   exact ⟨a1.keep fun k hk => st _ k (by simp) hk, a2.keep fun k hk => st _ k (by simpa using e) hk⟩
theorem RAt.rowPut (h : RAt base w Rb γ m) {s : Nat} (hs : ∀ r b, γ r = some b → b < s) (hbw : base ≤ s) (ho : ROpen base w Rb γ m ov dv tv kv vv) {ref : Int} (hr : 1 ≤ ref ∧ ref ≤ m.objs.length) (hF : Fr (fun k => γ .map = some k) w w') {a b : Value} {ka kb : Option Nat} {o : MO}
  (hO : Own base 145 7 w' ov (setN (cellsO kv vv m.objs) ((ref - 1).toNat * 7) (encO a b o))) (ha : SlAt base 5 w' a (o.kinds.map encU) ka) (hb : SlAt base 3 w' b (o.vals.map encI) kb)
  (hka : ∀ x, ka = some x → γ (.ks ref) = some x ∨ s ≤ x) (hkb : ∀ x, kb = some x → γ (.vs ref) = some x ∨ s ≤ x) (hdis : ∀ x, ka = some x → kb = some x → False) :
  RAt base w' Rb (updR (updR γ (.ks ref) ka) (.vs ref) kb) (m.put ref o) ∧ ∀ x, Lay.has (updR (updR γ (.ks ref) ka) (.vs ref) kb) x → γ.has x ∨ s ≤ x := by
 have hz := hF.size
 have hBa := Own.blk ha.own
 have hBb := Own.blk hb.own
 have st : ∀ r x, r ≠ .map → γ r = some x → w'.heap[x]? = w.heap[x]? := fun r x hr2 hx => hF.block x (h.hi r x hx) fun e => h.ne hx e hr2 rfl
 have hlen : (m.put ref o).objs.length = m.objs.length := len_put _ _ _
 have hi : (ref - 1).toNat < m.objs.length := by omega
 have back : ∀ r x, updR (updR γ (.ks ref) ka) (.vs ref) kb r = some x → γ r = some x ∨ (s ≤ x ∧ ((r = .ks ref ∧ ka = some x) ∨ (r = .vs ref ∧ kb = some x))) := by
  intro r x hx
  rcases updR_some hx with ⟨rfl, e⟩ | ⟨h1, hx⟩
  ·rcases hkb x e with e2 | e2
   ·exact .inl e2
   ·exact .inr ⟨e2, .inr ⟨rfl, e⟩⟩
  ·rcases updR_some hx with ⟨rfl, e⟩ | ⟨h2, hx⟩
   ·rcases hka x e with e2 | e2
    ·exact .inl e2
    ·exact .inr ⟨e2, .inl ⟨rfl, e⟩⟩
   ·exact .inl hx
 have oth : ∀ r, r ≠ .ks ref → r ≠ .vs ref → updR (updR γ (.ks ref) ka) (.vs ref) kb r = γ r := fun r h1 h2 => by rw [updR_ne h2, updR_ne h1]
 refine ⟨h.turn hs hbw (by rw [oth _ (by simp) (by simp)]; exact h.hb) (fun r x hx => ?_) (fun r1 r2 x h1 h2 hx => ?_) ⟨ov, dv, tv, (fun n => if n = ((ref - 1).toNat : Int) + 1 then a else kv n), (fun n => if n = ((ref - 1).toNat : Int) + 1 then b else vv n), ?_, ?_, ?_, ?_, ?_, fun n h1 h2 => ?_⟩ fun n hn => ?_, fun x hx => ?_⟩
 ·rcases back r x hx with e | ⟨e, ⟨rfl, e2⟩ | ⟨rfl, e2⟩⟩
  ·exact ⟨.inl e, by have := h.hi r x e; omega⟩
  ·exact ⟨.inr e, (hBa x (by rw [ha.blk]; exact e2)).2⟩
  ·exact ⟨.inr e, (hBb x (by rw [hb.blk]; exact e2)).2⟩
 ·rcases back r1 x h1 with e1 | ⟨_, e1⟩
  ·have := hs r1 x e1; omega
  ·rcases back r2 x h2 with e2 | ⟨_, e2⟩
   ·have := hs r2 x e2; omega
   ·rcases e1 with ⟨rfl, e1⟩ | ⟨rfl, e1⟩ <;> rcases e2 with ⟨rfl, e2⟩ | ⟨rfl, e2⟩
    ·rfl
    ·exact absurd e2 fun e => hdis x e1 e
    ·exact absurd e1 fun e => hdis x e2 e
    ·rfl
 ·exact Blk.keep ho.hd (st _ _ (by simp) h.hb)
 ·rw [cellsO_setN hi] at hO
  exact hO
 ·rw [oth _ (by simp) (by simp)]; exact ho.ob
 ·rw [oth _ (by simp) (by simp)]; exact ho.doom.keep fun k hk => st _ k (by simp) hk
 ·rw [oth _ (by simp) (by simp)]; exact ho.told.keep fun k hk => st _ k (by simp) hk
 ·rw [hlen] at h2
  rw [at_put hr h1]
  dsimp only
  have e0 : (((ref - 1).toNat : Nat) : Int) + 1 = ref := by omega
  by_cases e : n = ref
  ·rw [if_pos e, if_pos (by omega), if_pos (by omega), e, updR_self, updR_ne (by simp), updR_self]
   exact ⟨ha, hb⟩
  ·obtain ⟨a1, a2⟩ := ho.at' n h1 h2
   rw [if_neg e, if_neg (by omega), if_neg (by omega), oth _ (by simpa using e) (by simp), oth _ (by simp) (by simpa using e)]
   exact ⟨a1.keep fun k hk => st _ k (by simp) hk, a2.keep fun k hk => st _ k (by simp) hk⟩
 ·rw [hlen] at hn
  have e : n ≠ ref := fun e => hn (by rw [e]; exact hr)
  rw [oth _ (by simpa using e) (by simp), oth _ (by simp) (by simpa using e)]
  exact h.free n hn
 ·obtain ⟨r, hr2⟩ := hx
  rcases back r x hr2 with e | ⟨e, _⟩
  ·exact .inl ⟨r, e⟩
  ·exact .inr e
theorem RAt.cellPut (h : RAt base w Rb γ m) (ho : ROpen base w Rb γ m ov dv tv kv vv) {ref : Int} (hr : 1 ≤ ref ∧ ref ≤ m.objs.length) {g : Nat} (hg : ov.ownBlock = some g) (hOn : Only g w w') {o : MO} {j : Nat} {v : Value} (hj : j < 7) (hs : ∀ a b, (encO a b (m.at ref)).set j v = encO a b o)
  (hO : Own base 145 7 w' ov ((cellsO kv vv m.objs).set ((ref - 1).toNat * 7 + j) v)) (hks : o.kinds = (m.at ref).kinds) (hvs : o.vals = (m.at ref).vals) :
  RAt base w' Rb γ (m.put ref o) ∧ Turn γ w γ w' := by
 have hγ : γ .map = some g := by rw [← ho.ob]; exact hg
 have hz := hOn.size
 have st : ∀ r x, r ≠ .map → γ r = some x → w'.heap[x]? = w.heap[x]? := fun r x hr2 hx => hOn.block x (h.ne hx hγ hr2)
 have hlen : (m.put ref o).objs.length = m.objs.length := len_put _ _ _
 have hi : (ref - 1).toNat < m.objs.length := by omega
 refine ⟨⟨h.inj, h.lo, fun r x hx => by have := h.hi r x hx; omega, h.hb, ⟨ov, dv, tv, kv, vv, Blk.keep ho.hd (st _ _ (by simp) h.hb), ?_, ho.ob, ho.doom.keep fun k hk => st _ k (by simp) hk, ho.told.keep fun k hk => st _ k (by simp) hk, fun n h1 h2 => ?_⟩, fun n hn => h.free n (by rw [hlen] at hn; exact hn)⟩, Fr.only hOn ⟨_, hγ⟩, fun _ h => .inl h⟩
 ·rw [cellsO_set (o := o) hi hj (by
   have : m.objs[(ref - 1).toNat] = m.at ref := by unfold MS.at; rw [getD_get hi]
   rw [this]; exact hs)] at hO
  exact hO
 ·rw [hlen] at h2
  rw [at_put hr h1]
  obtain ⟨a1, a2⟩ := ho.at' n h1 h2
  by_cases e : n = ref
  ·rw [e] at a1 a2
   rw [if_pos e, hks, hvs, e]
   exact ⟨a1.keep fun k hk => st _ k (by simp) hk, a2.keep fun k hk => st _ k (by simp) hk⟩
  ·rw [if_neg e]
   exact ⟨a1.keep fun k hk => st _ k (by simp) hk, a2.keep fun k hk => st _ k (by simp) hk⟩
theorem RpR.of' {v : Value} {m' : MS} {γ' : Lay} {w1 w2 : World} (hE : Ext w w1) (h : RAt base w2 Rb γ' m' ∧ Turn γ w1 γ' w2) : RpR base w Rb γ v m' (.returned v) w2 := ⟨rfl, γ', h.1, (Turn.of hE).trans h.2⟩
theorem r_Set (h : RAt base w Rb γ m) (hg : MG m) (n i v : Int) : Calls Tryz.prog 65 #[ptr Rb, .int .i64 n, .int .i64 i, .int .i64 v] w (RpR base w Rb γ (.int .i64 (m.set n i v).1) (m.set n i v).2) := by
 have hl := hg.len
 obtain ⟨R, hR⟩ : ∃ R, R = RpR base w Rb γ (.int .i64 (m.set n i v).1) (m.set n i v).2 := ⟨_, rfl⟩
 rw [← hR]
 refine ir65_calls fun ρ r0 r1 r2 r3 => ?_
 simp -implicitDefEqProofs [-wps_asg, -wps_eff, wa2, we2, ir65, r0, r1, r2]
 refine (r_field h hg n i).mono ?_
 rintro _ W0 ⟨rfl, hE0⟩
 by_cases hE : m.fieldE n i = 0
 rotate_left
 ·have hs : m.set n i v = (m.fieldE n i, m) := by simp [MS.set, MS.setE, hE]
  simp -implicitDefEqProofs [-wps_asg, -wps_eff, wa2, we2, hE]
  rw [hR, hs]
  exact RpR.of h hE0
 ·have h0 := h.ext hE0
  obtain ⟨ov, dv, tv, kv, vv, ho⟩ := h0.opened
  have hr := RowO.of ho.objs
  obtain ⟨ht, he, hi0, hi1⟩ := fieldE_zero.1 hE
  have hn := there_le ht
  have hrow := hr.row hn.1 hn.2
  have hsm := hg.small n ht
  have hkl := hg.kinds n ht he
  obtain ⟨a1, a2⟩ := ho.at' n hn.1 hn.2
  have hvs := a2.sl (enc := encI) (by omega)
  have hks := a1.sl (enc := encU) (by omega)
  have hw : IntKind.i64.wrap (n - 1) = n - 1 := i64w (by omega)
  have h1 : (0 : Int) ≤ n - 1 := by omega
  have h2 : n - 1 < (m.objs.length : Int) := by omega
  simp -implicitDefEqProofs [-wps_asg, -wps_eff, wa2, we2, hE, r0, r1, ptr, ho.hd.cell, hr.is, hr.len, hw, h1, h2, hn.1, hrow, ir65_k1]
  refine eff_copyO (o := m.at n) (by decide) (by simp) (slAt_one a1) (slAt_one a2) fun B W hB hE2 hbl => ?_
  have hks2 := hks.ext hE2
  have hin : i.toNat < (m.at n).vals.length := by omega
  have hik : i.toNat < (m.at n).kinds.length := by omega
  have hi2 : i < ((m.at n).kinds.length : Int) := by omega
  simp -implicitDefEqProofs [-wps_asg, -wps_eff, wa2, we2, hbl.cell, r2, hks2.is, hks2.len, hi0, hi1, hi2, hks2.cell i.toNat hik, r3, r0, ptr]
  have h2W := h0.ext hE2
  refine (r_value h2W hl (m.at n).kinds[i.toNat] v).mono ?_
  rintro _ _ ⟨rfl, rfl⟩
  have hkd : (m.at n).kinds.getD i.toNat 0 = (m.at n).kinds[i.toNat] := getD_get hik
  by_cases hv : m.value (m.at n).kinds[i.toNat] v = 0
  rotate_left
  ·have hs : m.set n i v = (m.value (m.at n).kinds[i.toNat] v, m) := by simp only [MS.set, MS.setE, hE]; rw [hkd]; simp [hv]
   simp -implicitDefEqProofs [-wps_asg, -wps_eff, wa2, we2, hv]
   rw [hR, hs]
   exact RpR.of h (hE0.trans' hE2)
  ·have hs : m.set n i v = (0, m.put n ((m.at n).withVals ((m.at n).vals.set i.toNat v))) := by simp only [MS.set, MS.setE, hE]; rw [hkd]; simp [hv]
   have ho2 := a2.own.ext hE2
   have hvs2 := hvs.ext hE2
   simp -implicitDefEqProofs [-wps_asg, -wps_eff, wa2, we2, hv, ir65_k0, hbl.cell, r2, r3, hvs2.is, hvs2.len, hi0, hi1]
   refine eff_storeR (base := base) (i := i.toNat) ho2 (by simpa using hin) (by simp) (by simp [Value.cells]) (by simp) sz3' fun b W3 hvb hO3 ho3 => ?_
   simp -implicitDefEqProofs [-wps_asg, -wps_eff, wa2, we2]
   rw [hR, hs]
   have ho2' : ROpen base _ Rb γ m ov dv tv kv vv := ⟨ho.hd.ext hE2, ho.objs.ext hE2, ho.ob, ho.doom.keep fun k hk => hE2.block k (h0.hi _ k hk), ho.told.keep fun k hk => hE2.block k (h0.hi _ k hk), fun x y z => ⟨(ho.at' x y z).1.keep fun k hk => hE2.block k (h0.hi _ k hk), (ho.at' x y z).2.keep fun k hk => hE2.block k (h0.hi _ k hk)⟩⟩
   refine RpR.of' (hE0.trans' hE2) (h2W.valsPut ho2' hn hvb hO3 ?_)
   rw [← map_set_enc]
   simpa using ho3
theorem r_Store (h : RAt base w Rb γ m) (hg : MG m) (n i v : Int) : Calls Tryz.prog 69 #[ptr Rb, .int .i64 n, .int .i64 i, .int .i64 v] w (RpR base w Rb γ (.int .i64 (m.store n i v).1) (m.store n i v).2) := by
 have hl := hg.len
 obtain ⟨R, hR⟩ : ∃ R, R = RpR base w Rb γ (.int .i64 (m.store n i v).1) (m.store n i v).2 := ⟨_, rfl⟩
 rw [← hR]
 obtain ⟨ov, dv, tv, kv, vv, ho⟩ := h.opened
 have hr := RowO.of ho.objs
 refine ir69_calls fun ρ r0 r1 r2 r3 => ?_
 simp -implicitDefEqProofs [-wps_asg, -wps_eff, wa2, we2, ir69, r0, r1, r2]
 refine (r_array h hl n).mono ?_
 rintro _ _ ⟨rfl, rfl⟩
 by_cases hE : m.arrayE n = 0
 rotate_left
 ·have hs : m.store n i v = (m.arrayE n, m) := by simp [MS.store, MS.storeE, MS.elemE, hE]
  simp -implicitDefEqProofs [-wps_asg, -wps_eff, wa2, we2, hE]
  rw [hR, hs]
  exact RpR.of h (ext_refl _)
 ·have ht := arrayE_zero' hE
  have hn := there_le ht
  have hrow := hr.row hn.1 hn.2
  have hsm := hg.small n ht
  obtain ⟨a1, a2⟩ := ho.at' n hn.1 hn.2
  have hvs := a2.sl (enc := encI) (by omega)
  have hw : IntKind.i64.wrap (n - 1) = n - 1 := i64w (by omega)
  have h1 : (0 : Int) ≤ n - 1 := by omega
  have h2 : n - 1 < (m.objs.length : Int) := by omega
  simp -implicitDefEqProofs [-wps_asg, -wps_eff, wa2, we2, hE, r0, r1, ptr, ho.hd.cell, hr.is, hr.len, hw, h1, h2, hn.1, hrow, ir69_k2]
  refine eff_copyO (o := m.at n) (by decide) (by simp) (slAt_one a1) (slAt_one a2) fun B W hB hE2 hbl => ?_
  have hvs2 := hvs.ext hE2
  have h2W := h.ext hE2
  by_cases hi : i < 1
  ·have hs : m.store n i v = (5, m) := by simp [MS.store, MS.storeE, MS.elemE, hE, hi]
   simp -implicitDefEqProofs [-wps_asg, -wps_eff, wa2, we2, hbl.cell, r2, hvs2.is, hvs2.len, hi]
   rw [hR, hs]
   exact RpR.of h hE2
  ·by_cases hi2 : ((m.at n).vals.length : Int) < i
   ·have hs : m.store n i v = (5, m) := by simp [MS.store, MS.storeE, MS.elemE, hE, hi2]
    simp -implicitDefEqProofs [-wps_asg, -wps_eff, wa2, we2, hbl.cell, r2, hvs2.is, hvs2.len, hi, hi2]
    rw [hR, hs]
    exact RpR.of h hE2
   ·have hin : i.toNat - 1 < (m.at n).vals.length := by omega
    have he0 : m.elemE n i = 0 := elemE_zero.2 ⟨arrayE_zero.1 hE, by omega, by omega⟩
    simp -implicitDefEqProofs [-wps_asg, -wps_eff, wa2, we2, hbl.cell, r2, hvs2.is, hvs2.len, hi, hi2, ir69_k1, r0, r3, ptr]
    refine (r_value h2W hl (m.at n).elem v).mono ?_
    rintro _ _ ⟨rfl, rfl⟩
    by_cases hv : m.value (m.at n).elem v = 0
    rotate_left
    ·have hs : m.store n i v = (m.value (m.at n).elem v, m) := by simp [MS.store, MS.storeE, he0, hv]
     simp -implicitDefEqProofs [-wps_asg, -wps_eff, wa2, we2, hv]
     rw [hR, hs]
     exact RpR.of h hE2
    ·have hs : m.store n i v = (0, m.put n ((m.at n).withVals ((m.at n).vals.set (i.toNat - 1) v))) := by
      have : (i - 1).toNat = i.toNat - 1 := by omega
      simp [MS.store, MS.storeE, he0, hv]
     have ho2 := a2.own.ext hE2
     have hwi : IntKind.i64.wrap (i - 1) = i - 1 := i64w (by omega)
     have hi3 : i - 1 < ((m.at n).vals.length : Int) := by omega
     have hi4 : (1 : Int) ≤ i := by omega
     simp -implicitDefEqProofs [-wps_asg, -wps_eff, wa2, we2, hv, ir69_k0, hbl.cell, r2, r3, hvs2.is, hvs2.len, hwi, hi3, hi4]
     refine eff_storeR (base := base) (i := i.toNat - 1) ho2 (by simpa using hin) (by simp) (by simp [Value.cells]) (by simp) sz3' fun b W3 hvb hO3 ho3 => ?_
     simp -implicitDefEqProofs [-wps_asg, -wps_eff, wa2, we2]
     rw [hR, hs]
     have ho2' : ROpen base _ Rb γ m ov dv tv kv vv := ⟨ho.hd.ext hE2, ho.objs.ext hE2, ho.ob, ho.doom.keep fun k hk => hE2.block k (h.hi _ k hk), ho.told.keep fun k hk => hE2.block k (h.hi _ k hk), fun x y z => ⟨(ho.at' x y z).1.keep fun k hk => hE2.block k (h.hi _ k hk), (ho.at' x y z).2.keep fun k hk => hE2.block k (h.hi _ k hk)⟩⟩
     refine RpR.of' hE2 (h2W.valsPut ho2' hn hvb hO3 ?_)
     rw [← map_set_enc]
     simpa using ho3
theorem r_Watch (h : RAt base w Rb γ m) (hg : MG m) (n : Int) : Calls Tryz.prog 74 #[ptr Rb, .int .i64 n] w (RpR base w Rb γ (.int .i64 (m.watch n).1) (m.watch n).2) := by
 have hl := hg.len
 obtain ⟨R, hR⟩ : ∃ R, R = RpR base w Rb γ (.int .i64 (m.watch n).1) (m.watch n).2 := ⟨_, rfl⟩
 rw [← hR]
 obtain ⟨ov, dv, tv, kv, vv, ho⟩ := h.opened
 have hr := RowO.of ho.objs
 refine ir74_calls fun ρ r0 r1 => ?_
 simp -implicitDefEqProofs [-wps_asg, -wps_eff, wa2, we2, ir74, r0, r1]
 refine (r_asked h hl n).mono ?_
 rintro _ _ ⟨rfl, rfl⟩
 cases ht : m.there n with
 | false =>
  have hs : m.watch n = (171, m) := by simp [MS.watch, ht]
  simp -implicitDefEqProofs [-wps_asg, -wps_eff, wa2, we2]
  rw [hR, hs]
  exact RpR.of h (ext_refl _)
 | true =>
  have hn := there_le ht
  obtain ⟨_, _, _, _, _, _, c6⟩ := hr.c hn.1 hn.2
  have hw : IntKind.i64.wrap (n - 1) = n - 1 := i64w (by omega)
  have h1 : (0 : Int) ≤ n - 1 := by omega
  have h2 : n - 1 < (m.objs.length : Int) := by omega
  cases hwt : (m.at n).watched with
  | true =>
   have hs : m.watch n = (6, m) := by simp [MS.watch, ht, hwt]
   simp -implicitDefEqProofs [-wps_asg, -wps_eff, wa2, we2, r0, r1, ptr, ho.hd.cell, hr.is, hr.len, hw, h1, h2, hn.1, c6, hwt, ir74_k1]
   rw [hR, hs]
   exact RpR.of h (ext_refl _)
  | false =>
   have hs : m.watch n = (0, m.put n { m.at n with watched := true }) := by simp [MS.watch, ht, hwt]
   have hlt : (n - 1).toNat * 7 + 6 < (cellsO kv vv m.objs).length := by
    rw [cellsO_len]
    have : ((n - 1).toNat + 1) * 7 ≤ m.objs.length * 7 := Nat.mul_le_mul_right _ (by omega)
    omega
   have e0 : n.toNat - 1 = (n - 1).toNat := by omega
   simp -implicitDefEqProofs [-wps_asg, -wps_eff, wa2, we2, r0, r1, ptr, ho.hd.cell, hr.is, hr.len, hw, h1, h2, hn.1, c6, hwt, ir74_k1, ir74_k0]
   refine eff_storeR (base := base) (i := (n - 1).toNat * 7 + 6) ho.objs hlt (by simp) (by simp [Value.cells]) (by simp) sz4 fun b W3 hvb hO3 ho3 => ?_
   simp -implicitDefEqProofs [-wps_asg, -wps_eff, wa2, we2]
   rw [hR, hs]
   exact RpR.of' (ext_refl _) (h.cellPut ho hn hvb hO3 (j := 6) (v := .bool true) (by decide) (fun a b => rfl) (by simpa using ho3) rfl rfl)
end
end Go.L17
namespace Go.L17
open Go Go.Eng Go.RowKit
open Go.Proofs hiding encI
set_option maxRecDepth 100000
set_option maxHeartbeats 2000000
theorem ri41 : rowInfo Tryz.prog 41 = some (145, 7, 88) := by kernel_rfl
theorem si41 : sliceInfo Tryz.prog 41 = some (145, 7) := by kernel_rfl
@[simp] theorem sz41 : sizeIs Tryz.prog 41 1 = true := by kernel_rfl
theorem bu145a (k : Nat) : Tryz.prog.built 145 [(0, .bool true), (2, .int .u8 (k : Int))] = some #[.bool true, .int .i64 0, .int .u8 (k : Int), .slice none 0 0, .slice none 0 0, .int .i64 0, .bool false] := by kernel_rfl
theorem bu145b (t : Int) (pa pb : Option Addr) (na ca nb cb : Nat) : Tryz.prog.built 145 [(0, .bool true), (1, .int .i64 t), (3, .slice pa na ca), (4, .slice pb nb cb)] = some #[.bool true, .int .i64 t, .int .u8 0, .slice pa na ca, .slice pb nb cb, .int .i64 0, .bool false] := by kernel_rfl
theorem at_last {m : MS} {o : MO} : (m.push o).at (m.objs.length + 1) = o := by
 simp only [MS.at, MS.push, List.getD_eq_getElem?_getD]
 have : (((m.objs.length : Nat) : Int) + 1 - 1).toNat = m.objs.length := by omega
 rw [this, List.getElem?_append_right (by omega)]; simp
section
variable {base Rb : Nat} {γ : Lay} {m : MS} {w w' : World} {ov dv tv : Value} {kv vv : Int → Value}
theorem ROpen.ext {w' : World} (h : RAt base w Rb γ m) (ho : ROpen base w Rb γ m ov dv tv kv vv) (hE : Ext w w') : ROpen base w' Rb γ m ov dv tv kv vv :=
 ⟨ho.hd.ext hE, ho.objs.ext hE, ho.ob, ho.doom.keep fun k hk => hE.block k (h.hi _ k hk), ho.told.keep fun k hk => hE.block k (h.hi _ k hk), fun x y z => ⟨(ho.at' x y z).1.keep fun k hk => hE.block k (h.hi _ k hk), (ho.at' x y z).2.keep fun k hk => hE.block k (h.hi _ k hk)⟩⟩
theorem RAt.pushO (h : RAt base w Rb γ m) (hbw : base ≤ w.heap.size) (ho : ROpen base w Rb γ m ov dv tv kv vv) {ov' a b : Value} {ka kb : Option Nat} {o : MO} (hF : Fr (fun k => k = Rb ∨ γ .map = some k) w w') (hd : Blk w' Rb #[.int .i64 m.words, ov', .bool m.on, dv, .int .i64 m.owed, tv] 43)
  (hO : Own base 145 7 w' ov' (cellsO kv vv m.objs ++ encO a b o)) (hov : ∀ x, ov'.ownBlock = some x → γ .map = some x ∨ w.heap.size ≤ x) (ha : SlAt base 5 w' a (o.kinds.map encU) ka) (hb : SlAt base 3 w' b (o.vals.map encI) kb)
  (hka : ∀ x, ka = some x → w.heap.size ≤ x) (hkb : ∀ x, kb = some x → w.heap.size ≤ x) (hdis : ∀ x, (ka = some x → kb ≠ some x) ∧ (ov'.ownBlock = some x → ka ≠ some x ∧ kb ≠ some x)) :
  ∃ γ', RAt base w' Rb γ' (m.push o) ∧ Turn γ w γ' w' := by
 have hz := hF.size
 have hBa := Own.blk ha.own
 have hBb := Own.blk hb.own
 have hBo := Own.blk hO
 obtain ⟨N, hN⟩ : ∃ N : Int, N = m.objs.length + 1 := ⟨_, rfl⟩
 have hNf := h.free N (by omega)
 have st : ∀ r x, r ≠ .map → r ≠ .heap → γ r = some x → w'.heap[x]? = w.heap[x]? := fun r x h1 h2 hx => hF.block x (h.hi r x hx) fun e => by
  rcases e with e | e
  ·exact h.ne hx h.hb h2 e
  ·exact h.ne hx e h1 rfl
 have hlen : (m.push o).objs.length = m.objs.length + 1 := by simp [MS.push]
 obtain ⟨γ', hγ⟩ : ∃ γ', γ' = updR (updR (updR γ .map ov'.ownBlock) (.ks N) ka) (.vs N) kb := ⟨_, rfl⟩
 have back : ∀ r x, γ' r = some x → (γ r = some x ∧ r ≠ .ks N ∧ r ≠ .vs N) ∨ (w.heap.size ≤ x ∧ ((r = .ks N ∧ ka = some x) ∨ (r = .vs N ∧ kb = some x) ∨ (r = .map ∧ ov'.ownBlock = some x))) := by
  intro r x hx
  rw [hγ] at hx
  rcases updR_some hx with ⟨rfl, e⟩ | ⟨h1, hx⟩
  ·exact .inr ⟨hkb x e, .inr (.inl ⟨rfl, e⟩)⟩
  ·rcases updR_some hx with ⟨rfl, e⟩ | ⟨h2, hx⟩
   ·exact .inr ⟨hka x e, .inl ⟨rfl, e⟩⟩
   ·rcases updR_some hx with ⟨rfl, e⟩ | ⟨h3, hx⟩
    ·rcases hov x e with e2 | e2
     ·exact .inl ⟨e2, h2, h1⟩
     ·exact .inr ⟨e2, .inr (.inr ⟨rfl, e⟩)⟩
    ·exact .inl ⟨hx, h2, h1⟩
 have oth : ∀ r, r ≠ .ks N → r ≠ .vs N → r ≠ .map → γ' r = γ r := fun r h1 h2 h3 => by rw [hγ, updR_ne h2, updR_ne h1, updR_ne h3]
 refine ⟨γ', h.turn h.hi hbw (by rw [oth _ (by simp) (by simp) (by simp)]; exact h.hb) (fun r x hx => ?_) (fun r1 r2 x h1 h2 hx => ?_) ⟨ov', dv, tv, (fun n => if n = (m.objs.length : Int) + 1 then a else kv n), (fun n => if n = (m.objs.length : Int) + 1 then b else vv n), hd, ?_, ?_, ?_, ?_, fun n h1 h2 => ?_⟩ fun n hn => ?_, hF.mono fun x hx => ?_, fun x hx => ?_⟩
 ·rcases back r x hx with ⟨e, _⟩ | ⟨e, ⟨rfl, e2⟩ | ⟨rfl, e2⟩ | ⟨rfl, e2⟩⟩
  ·exact ⟨.inl e, by have := h.hi r x e; omega⟩
  ·exact ⟨.inr e, (hBa x (by rw [ha.blk]; exact e2)).2⟩
  ·exact ⟨.inr e, (hBb x (by rw [hb.blk]; exact e2)).2⟩
  ·exact ⟨.inr e, (hBo x e2).2⟩
 ·rcases back r1 x h1 with ⟨e1, _⟩ | ⟨_, e1⟩
  ·have := h.hi r1 x e1; omega
  ·rcases back r2 x h2 with ⟨e2, _⟩ | ⟨_, e2⟩
   ·have := h.hi r2 x e2; omega
   ·obtain ⟨d1, d2⟩ := hdis x
    rcases e1 with ⟨rfl, e1⟩ | ⟨rfl, e1⟩ | ⟨rfl, e1⟩ <;> rcases e2 with ⟨rfl, e2⟩ | ⟨rfl, e2⟩ | ⟨rfl, e2⟩
    ·rfl
    ·exact absurd e2 (d1 e1)
    ·exact absurd e1 (d2 e2).1
    ·exact absurd e1 (d1 e2)
    ·rfl
    ·exact absurd e1 (d2 e2).2
    ·exact absurd e2 (d2 e1).1
    ·exact absurd e2 (d2 e1).2
    ·rfl
 ·rw [cellsO_push] at hO; exact hO
 ·rw [hγ, updR_ne (by simp), updR_ne (by simp), updR_self]
 ·rw [oth _ (by simp) (by simp) (by simp)]; exact ho.doom.keep fun k hk => st _ k (by simp) (by simp) hk
 ·rw [oth _ (by simp) (by simp) (by simp)]; exact ho.told.keep fun k hk => st _ k (by simp) (by simp) hk
 ·rw [hlen] at h2
  dsimp only
  by_cases e : n = N
  ·subst e
   rw [if_pos hN, if_pos hN, hγ, updR_self, updR_ne (by simp), updR_self]
   have : (m.push o).at n = o := by rw [hN]; exact at_last
   rw [this]
   exact ⟨ha, hb⟩
  ·rw [if_neg (by omega), if_neg (by omega), at_push (by omega) h1, oth _ (by simpa using e) (by simp) (by simp), oth _ (by simp) (by simpa using e) (by simp)]
   obtain ⟨a1, a2⟩ := ho.at' n h1 (by omega)
   exact ⟨a1.keep fun k hk => st _ k (by simp) (by simp) hk, a2.keep fun k hk => st _ k (by simp) (by simp) hk⟩
 ·rw [hlen] at hn
  have e : n ≠ N := fun e => hn (by omega)
  rw [oth _ (by simpa using e) (by simp) (by simp), oth _ (by simp) (by simpa using e) (by simp)]
  exact h.free n (by omega)
 ·rcases hx with rfl | hx
  ·exact .inl ⟨_, h.hb⟩
  ·exact .inl ⟨_, hx⟩
 ·obtain ⟨r, hr2⟩ := hx
  rcases back r x hr2 with ⟨e, _⟩ | ⟨e, _⟩
  ·exact .inl ⟨r, e⟩
  ·exact .inr e
theorem push_end {w0 w : World} (h : RAt base w0 Rb γ m) (hl : m.objs.length ≤ 100000000) (hbw : base ≤ w0.heap.size) (hE : Ext w0 w) (ho : ROpen base w0 Rb γ m ov dv tv kv vv) {a b : Value} {o : MO} (ha : Own w0.heap.size 5 1 w a (o.kinds.map encU)) (hb : Own w0.heap.size 3 1 w b (o.vals.map encI)) (hdis : ∀ x, a.ownBlock = some x → b.ownBlock ≠ some x)
  {xv : Value} {B : Nat} (hx : xv = .slice (some ⟨B, 0, none⟩) 1 1) (hB : w.heap.size ≤ B) {W : World} (hEW : Ext w W) (hbl : Blk W B (encO a b o).toArray 145) {s x : Operand} {ρ : Env} {d : Option Nat} {ty : TypeId} {Q : Ks} {K : Env → World → Prop} (hs : evE ρ s = ov) (hxv : evE ρ x = xv)
  (hk : ∀ ov' W2, Own base 145 7 W2 ov' (cellsO kv vv m.objs ++ encO a b o) → Blk W2 Rb #[.int .i64 m.words, ov, .bool m.on, dv, .int .i64 m.owed, tv] 43 → (∀ W3, Only Rb W2 W3 → Blk W3 Rb #[.int .i64 m.words, ov', .bool m.on, dv, .int .i64 m.owed, tv] 43 → ∃ γ', RAt base W3 Rb γ' (m.push o) ∧ Turn γ w0 γ' W3) → K (updO ρ d ov') W2) :
  effW Tryz.prog Q d (.call { callee := .builtin .append, args := #[s, x], argTypes := #[41, 41] }) ty K ρ W := by
 subst hx
 have zE := hE.size
 have zW := hEW.size
 have hE0W := hE.trans' hEW
 have hcl : (cellsO kv vv m.objs).length = m.objs.length * 7 := cellsO_len _ _ _
 have hOn : Own w0.heap.size 145 7 W (.slice (some ⟨B, 0, none⟩) 1 1) (encO a b o) := Own.lit hbl rfl (by omega) (by decide)
 have ha1 := own_one ha
 have hb1 := own_one hb
 have hone : ∀ u ∈ encO a b o, u.oneCell' = true := by
  intro u hu
  simp [encO] at hu
  have hoc : ∀ {e : Nat} {xs : List Value} {v : Value} {w : World}, Own w0.heap.size e 1 w v xs → v.oneCell' = true := by
   intro e xs v w hv
   rcases hv with ⟨rfl, _⟩ | ⟨g, off, n, cap, cur, rfl, _⟩ <;> rfl
  rcases hu with rfl | rfl | rfl | rfl | rfl | rfl | rfl
  ·rfl
  ·rfl
  ·rfl
  ·exact hoc ha
  ·exact hoc hb
  ·rfl
  ·rfl
 refine eff_appendG ri41 (base := base) (by omega) hs hxv (ho.objs.ext hE0W) (own_cells hOn) hone (by rw [hcl, encO_len]; omega) (by rw [hcl, encO_len]; omega) fun ov' W2 ho2 hg2 hf2 => ?_
 have z2 := hg2.size
 have hRl := h.hi _ _ h.hb
 have hov : ∀ x, ov.ownBlock = some x → γ .map = some x := fun x hx => by rw [← ho.ob]; exact hx
 have hRb2 : Blk W2 Rb #[.int .i64 m.words, ov, .bool m.on, dv, .int .i64 m.owed, tv] 43 := ⟨(hg2.block Rb (by omega) fun e => h.ne h.hb (hov Rb e.symm) (by simp) rfl).trans (ho.hd.ext hE0W).heap⟩
 refine hk ov' W2 ho2 hRb2 fun W3 hO3 hb3 => ?_
 have hF : Fr (fun k => k = Rb ∨ γ .map = some k) w0 W3 := ((Fr.of hE0W (S := fun k => k = Rb ∨ γ .map = some k)).trans ((Fr.grown hg2).mono (S' := fun k => k = Rb ∨ γ .map = some k) fun y hy => .inl (.inr (hov y hy))) fun y h => .inl h).trans (Fr.only hO3 (S := fun k => k = Rb ∨ γ .map = some k) (.inl rfl)) fun y h => .inl h
 have hlb : ∀ x, ov'.ownBlock = some x → γ .map = some x ∨ W.heap.size ≤ x := fun x hx => by
  rcases hf2 with e | e
  ·rw [e] at hx; exact .inl (hov x hx)
  ·rw [e] at hx; cases hx; exact .inr (Nat.le_refl _)
 have keep3 : ∀ k, k < W.heap.size → w0.heap.size ≤ k → W3.heap[k]? = W.heap[k]? := fun k hk1 hk2 => (hO3.block k (by omega)).trans (hg2.block k hk1 fun e => by
  have := h.hi _ _ (hov k e.symm); omega)
 have ha3 : Own w0.heap.size 5 1 W3 a (o.kinds.map encU) := Own.same' (ha.ext hEW) fun k hk => keep3 k (by have := (Own.blk ha k hk).2; omega) (Own.blk ha k hk).1
 have hb3' : Own w0.heap.size 3 1 W3 b (o.vals.map encI) := Own.same' (hb.ext hEW) fun k hk => keep3 k (by have := (Own.blk hb k hk).2; omega) (Own.blk hb k hk).1
 have ho3 : Own base 145 7 W3 ov' (cellsO kv vv m.objs ++ encO a b o) := Own.same' ho2 fun y hy => hO3.block y fun e => by
  subst e
  rcases hlb y hy with e | e
  ·exact h.ne h.hb e (by simp) rfl
  ·omega
 refine h.pushO hbw ho hF hb3 ho3 (fun x hx => ?_) ⟨Own.low ha3 hbw, rfl⟩ ⟨Own.low hb3' hbw, rfl⟩ (fun x hx => (Own.blk ha x hx).1) (fun x hx => (Own.blk hb x hx).1) fun x => ⟨hdis x, fun hx => ⟨fun e => ?_, fun e => ?_⟩⟩
 ·rcases hlb x hx with e | e
  ·exact .inl e
  ·exact .inr (by omega)
 ·rcases hlb x hx with e2 | e2
  ·have := h.hi _ _ e2; have := (Own.blk ha x e).1; omega
  ·have := (Own.blk ha x e).2; omega
 ·rcases hlb x hx with e2 | e2
  ·have := h.hi _ _ e2; have := (Own.blk hb x e).1; omega
  ·have := (Own.blk hb x e).2; omega
theorem r_Array (h : RAt base w Rb γ m) (hg : MG m) (hbw : base ≤ w.heap.size) (how : -1000000000000 ≤ m.owed ∧ m.owed ≤ 1000000000000) (k : Nat) : Calls Tryz.prog 63 #[ptr Rb, encU k] w (RpR base w Rb γ (.tuple #[.int .i64 (m.array k).1, .int .i64 (m.array k).2.1]) (m.array k).2.2) := by
 have hl := hg.len
 obtain ⟨R, hR⟩ : ∃ R, R = RpR base w Rb γ (.tuple #[.int .i64 (m.array k).1, .int .i64 (m.array k).2.1]) (m.array k).2.2 := ⟨_, rfl⟩
 rw [← hR]
 refine ir63_calls fun ρ r0 r1 => ?_
 have r1' : ρ 1 = .int .u8 (k : Int) := r1
 by_cases hk : isKind k = true
 rotate_left
 ·have hs : m.array k = (0, 1, m) := by simp [MS.array, hk]
  have h1 : ¬ (k : Int) = 1 := fun e => hk (by unfold isKind; have : k = 1 := (by omega); simp [this])
  have h2 : ¬ (k : Int) = 2 := fun e => hk (by unfold isKind; have : k = 2 := (by omega); simp [this])
  simp -implicitDefEqProofs [-wps_asg, -wps_eff, wa2, we2, ir63, r0, r1', h1, h2]
  rw [hR, hs]
  exact RpR.of h (ext_refl _)
 ·have hk0 : k ≠ 0 := fun e => by subst e; simp [isKind] at hk
  have hc : (k : Int) = 1 ∨ (k : Int) = 2 := by
   unfold isKind at hk
   simp at hk
   omega
  have key : ir63_k1.wp ⟨Tryz.prog, 31, ir63_V, []⟩ (retK [.tmp 4, .tmp 5] R) (ksOf [.tmp 4, .tmp 5] R) (upd (upd (upd ρ 4 (.int .i64 0)) 5 (.int .i64 0)) 11 (.bool false)) w := by
   simp -implicitDefEqProofs [-wps_asg, -wps_eff, wa2, we2, ir63_k1, r0]
   refine (r_room h hg 2 (by omega) how).mono ?_
   rintro _ W0 ⟨rfl, γ0, h0, hT0⟩
   cases hf : m.fits 2 with
   | false =>
    have hs : m.array k = (0, 170, m) := by simp [MS.array, hk, hf]
    rw [hf] at h0
    simp -implicitDefEqProofs [-wps_asg, -wps_eff, wa2, we2]
    rw [hR, hs]
    exact ⟨rfl, γ0, h0, hT0⟩
   | true =>
    have hs : m.array k = ((m.objs.length : Int) + 1, 0, (m.paid 2).push ⟨true, 0, k, [], [], 0, false⟩) := by simp [MS.array, hk, hf]
    rw [hf] at h0
    simp only [if_true] at h0
    obtain ⟨ov, dv, tv, kv, vv, ho⟩ := h0.opened
    have z0 := hT0.1.size
    have hpo : (m.paid 2).objs = m.objs := rfl
    simp -implicitDefEqProofs [-wps_asg, -wps_eff, wa2, we2, ir63_k0, r0, r1', ptr, ho.hd.cell, bu145a]
    refine eff_lit si41 (by decide) (by decide) (by simp [Value.cells]) fun B W1 hB hE1 hb1 _ => ?_
    simp [Value.cells] at hb1
    simp -implicitDefEqProofs [-wps_asg, -wps_eff, wa2, we2]
    refine push_end (o := ⟨true, 0, k, [], [], 0, false⟩) (a := .slice none 0 0) (b := .slice none 0 0) h0 (by rw [hpo]; exact hl) (by omega) (ext_refl W0) ho (Own.nil _ _ _ _) (Own.nil _ _ _ _) (by simp [Value.ownBlock]) rfl hB hE1 hb1 (by simp) (by simp) fun ov' W2 ho2 hb2 hfin => ?_
    simp -implicitDefEqProofs [-wps_asg, -wps_eff, wa2, we2, r0, ptr]
    have hone := own_one ho2
    refine eff_store1 (B := Rb) (i := 1) (by simp) hb2 (by simp) (by simpa using hone.1) (by simpa using hone.2) sz41 fun W3 hO3 hb3 => ?_
    simp at hb3
    obtain ⟨γ', hR3, hT3⟩ := hfin W3 hO3 hb3
    obtain ⟨ov3, dv3, tv3, kv3, vv3, ho3⟩ := hR3.opened
    have hr3 := RowO.of ho3.objs
    have hlen3 : ((m.paid 2).push ⟨true, 0, k, [], [], 0, false⟩).objs.length = m.objs.length + 1 := by simp [MS.push, hpo]
    have hlr := hr3.len
    rw [hlen3] at hlr
    simp -implicitDefEqProofs [-wps_asg, -wps_eff, wa2, we2, r0, ptr, ho3.hd.cell, hr3.is, hlr]
    rw [hR, hs]
    exact ⟨by simp, γ', hR3, hT0.trans hT3⟩
  rcases hc with h1 | h1
  ·simp -implicitDefEqProofs [-wps_asg, -wps_eff, wa2, we2, ir63, r0, r1', h1]
   exact key
  ·simp -implicitDefEqProofs [-wps_asg, -wps_eff, wa2, we2, ir63, r0, r1', h1]
   exact key
end
end Go.L17
namespace Go.L17
open Go Go.Eng Go.RowKit
open Go.Proofs hiding encI
set_option maxRecDepth 100000
set_option maxHeartbeats 2000000
noncomputable def sfx62 : OT :=
   .step (.eff none (some 90) (.build 145 #[(0, (.const (.bool true))), (1, (.tmp 83)), (3, (.tmp 86)), (4, (.tmp 89))]) 145) true <|
   .step (.eff none (some 91) (.buildSlice 41 1 #[(0, (.tmp 90))]) 41) true <|
   .step (.eff none (some 92) (.call { callee := .builtin .append, args := #[(.tmp 82), (.tmp 91)], argTypes := #[41, 41] }) 41) true <|
   .step (.asg none 93 (.op1 .nilc (.var 78))) false <|
   .step (.asg none 94 (.op1 (.fadr 1) (.var 93))) false <|
   .step (.eff none none (.store 41 (.tmp 94) (.tmp 92)) 0) false <|
   .done
section
variable {base Rb : Nat} {γ : Lay} {m : MS} {w : World} {ov dv tv : Value} {kv vv : Int → Value}
theorem sfx_wp {w0 w : World} (h : RAt base w0 Rb γ m) (hl : m.objs.length ≤ 100000000) (hbw : base ≤ w0.heap.size) (hE : Ext w0 w) (ho : ROpen base w0 Rb γ m ov dv tv kv vv) {a b : Value} {tag : Int} {kinds : List Nat} {vals : List Int} (ha : Own w0.heap.size 5 1 w a (kinds.map encU)) (hb : Own w0.heap.size 3 1 w b (vals.map encI)) (hdis : ∀ x, a.ownBlock = some x → b.ownBlock ≠ some x)
  {Q : Ks} {K : Env → World → Prop} {ρ : Env} (s78 : ρ 78 = .pointer (some ⟨Rb, 0, none⟩)) (s82 : ρ 82 = ov) (s83 : ρ 83 = .int .i64 tag) (s86 : ρ 86 = a) (s89 : ρ 89 = b) (s0 : ρ 0 = .pointer (some ⟨Rb, 0, none⟩))
  (hk : ∀ W3 γ' ρ', RAt base W3 Rb γ' (m.push ⟨true, tag, 0, kinds, vals, 0, false⟩) → Turn γ w0 γ' W3 → ρ' 0 = .pointer (some ⟨Rb, 0, none⟩) → K ρ' W3) : OT.wp Tryz.prog Q (fun W => Blk W Rb #[.int .i64 m.words, ov, .bool m.on, dv, .int .i64 m.owed, tv] 43) K sfx62 ρ w := by
 have hS : ∀ W, Ext w0 W → Blk W Rb #[.int .i64 m.words, ov, .bool m.on, dv, .int .i64 m.owed, tv] 43 := fun W hW => ho.hd.ext hW
 obtain ⟨pa, na, ca, rfl⟩ := Own.slice ha
 obtain ⟨pb, nb, cb, rfl⟩ := Own.slice hb
 simp -implicitDefEqProofs [sfx62, s83, s86, s89, bu145b, hS w hE]
 refine eff_lit si41 (by decide) (by decide) (by simp [Value.cells]) fun B W1 hB hE1 hb1 _ => ?_
 simp [Value.cells] at hb1
 simp -implicitDefEqProofs [hS W1 (hE.trans' hE1)]
 refine push_end (o := ⟨true, tag, 0, kinds, vals, 0, false⟩) h hl hbw hE ho ha hb hdis rfl hB hE1 hb1 (by simpa using s82) (by simp) fun ov' W2 ho2 hb2 hfin => ?_
 simp -implicitDefEqProofs [s78, hb2]
 have hone := own_one ho2
 refine eff_store1 (B := Rb) (i := 1) (by simp) hb2 (by simp) (by simpa using hone.1) (by simpa using hone.2) sz41 fun W3 hO3 hb3 => ?_
 simp at hb3
 obtain ⟨γ', hR3, hT3⟩ := hfin W3 hO3 hb3
 simp -implicitDefEqProofs
 exact hk W3 γ' _ hR3 hT3 (by simp [s0])
theorem ot_e {P : Program} {Q : Ks} {S : World → Prop} {K : Env → World → Prop} {ρ : Env} {w : World} {b : Bool} {d : Option Nat} {op : Op} {ty : TypeId} {t : OT} : OT.wp P Q S K (.step (.eff none d op ty) b t) ρ w = effW P Q d op ty (fun ρ' w' => (b = true → S w') ∧ t.wp P Q S K ρ' w') ρ w := rfl
theorem eff_copyI {Q : Ks} {K : Env → World → Prop} {ρ : Env} {w w0 : World} {d : Option Nat} {ty : TypeId} {s x : Operand} {B : Nat} {v : Value} {l : List Int} (hs : evE ρ s = .slice (some ⟨B, 0, none⟩) 0 0) (hb : Blk w B #[] 3) (hB : w0.heap.size ≤ B) (hE : Ext w0 w) (hx : evE ρ x = v) (hl : Sl encI w v l) (hlen : l.length ≤ 1000000000)
  (h : ∀ y W, Own w0.heap.size 3 1 W y (l.map encI) → Ext w0 W → w.heap.size ≤ W.heap.size → (∀ k, k < w.heap.size → k ≠ B → W.heap[k]? = w.heap[k]?) → (y.ownBlock = some B ∨ y.ownBlock = some w.heap.size) → K (updO ρ d y) W) :
  effW Tryz.prog Q d (.call { callee := .builtin .append, args := #[s, x], argTypes := #[35, 35] }) ty K ρ w := by
 have z := hE.size
 have hO : Own w0.heap.size 3 1 w (.slice (some ⟨B, 0, none⟩) 0 0) [] := Own.lit (n := 0) hb rfl hB (by decide)
 refine eff_appendG ri35 (base := w0.heap.size) z hs hx hO hl.cells (one_map (fun _ => rfl) _) (by simp; omega) (by simp; omega) fun y W hy hg hf => ?_
 refine h y W (by simpa using hy) ((Fr.grown hg).ext hE fun k hk => by simp [Value.ownBlock] at hk; omega) hg.size (fun k hk hne => hg.block k hk fun e => hne (by simpa [Value.ownBlock] using e)) (by simpa [Value.ownBlock] using hf)
theorem eff_copyU {Q : Ks} {K : Env → World → Prop} {ρ : Env} {w w0 : World} {d : Option Nat} {ty : TypeId} {s x : Operand} {B : Nat} {v : Value} {l : List Nat} (hs : evE ρ s = .slice (some ⟨B, 0, none⟩) 0 0) (hb : Blk w B #[] 5) (hB : w0.heap.size ≤ B) (hE : Ext w0 w) (hx : evE ρ x = v) (hl : Sl encU w v l) (hlen : l.length ≤ 1000000000)
  (h : ∀ y W, Own w0.heap.size 5 1 W y (l.map encU) → Ext w0 W → w.heap.size ≤ W.heap.size → (∀ k, k < w.heap.size → k ≠ B → W.heap[k]? = w.heap[k]?) → (y.ownBlock = some B ∨ y.ownBlock = some w.heap.size) → K (updO ρ d y) W) :
  effW Tryz.prog Q d (.call { callee := .builtin .append, args := #[s, x], argTypes := #[34, 34] }) ty K ρ w := by
 have z := hE.size
 have hO : Own w0.heap.size 5 1 w (.slice (some ⟨B, 0, none⟩) 0 0) [] := Own.lit (n := 0) hb rfl hB (by decide)
 refine eff_appendG ri34 (base := w0.heap.size) z hs hx hO hl.cells (one_map (fun _ => rfl) _) (by simp; omega) (by simp; omega) fun y W hy hg hf => ?_
 refine h y W (by simpa using hy) ((Fr.grown hg).ext hE fun k hk => by simp [Value.ownBlock] at hk; omega) hg.size (fun k hk hne => hg.block k hk fun e => hne (by simpa [Value.ownBlock] using e)) (by simpa [Value.ownBlock] using hf)
theorem make_k7 {w0 : World} (h : RAt base w0 Rb γ m) (hl : m.objs.length ≤ 100000000) (hbw : base ≤ w0.heap.size) {tag : Int} {kinds : List Nat} {vals : List Int} {kvv vvv : Value} (hks : Sl encU w0 kvv kinds) (hvs : Sl encI w0 vvv vals) (hkl : kinds.length ≤ 1000) (hvl : vals.length ≤ 1000)
  {R : Ending → World → Prop} {ρ : Env} (r0 : ρ 0 = ptr Rb) (r1 : ρ 1 = .int .i64 tag) (r2 : ρ 2 = kvv) (r3 : ρ 3 = vvv)
  (hk : ∀ W3 γ', RAt base W3 Rb γ' (m.push ⟨true, tag, 0, kinds, vals, 0, false⟩) → Turn γ w0 γ' W3 → R (.returned (.tuple #[.int .i64 (m.objs.length + 1), .int .i64 0])) W3) :
  ir62_k7.wp ⟨Tryz.prog, 100, ir62_V, []⟩ (retK [.tmp 8, .tmp 9] R) (ksOf [.tmp 8, .tmp 9] R) ρ w0 := by
 obtain ⟨ov, dv, tv, kv, vv, ho⟩ := h.opened
 have r0' : ρ 0 = .pointer (some ⟨Rb, 0, none⟩) := r0
 have hfin : ∀ W3 γ' ρ', RAt base W3 Rb γ' (m.push ⟨true, tag, 0, kinds, vals, 0, false⟩) → Turn γ w0 γ' W3 → ρ' 0 = .pointer (some ⟨Rb, 0, none⟩) → ir62_k6.wp ⟨Tryz.prog, 100, ir62_V, []⟩ (retK [.tmp 8, .tmp 9] R) (ksOf [.tmp 8, .tmp 9] R) ρ' W3 := by
  intro W3 γ' ρ' hR3 hT3 s0
  obtain ⟨ov3, dv3, tv3, kv3, vv3, ho3⟩ := hR3.opened
  have hr3 := RowO.of ho3.objs
  have hlen3 : (m.push ⟨true, tag, 0, kinds, vals, 0, false⟩).objs.length = m.objs.length + 1 := by simp [MS.push]
  have hlr := hr3.len
  rw [hlen3] at hlr
  simp -implicitDefEqProofs [-wps_asg, -wps_eff, wa2, we2, ir62_k6, s0, ho3.hd.cell, hr3.is, hlr]
  exact hk W3 γ' hR3 hT3
 have hS : ∀ W, Ext w0 W → Blk W Rb #[.int .i64 m.words, ov, .bool m.on, dv, .int .i64 m.owed, tv] 43 := fun W hW => ho.hd.ext hW
 simp -implicitDefEqProofs [-wps_asg, -wps_eff, wa2, we2, ir62_k7]
 refine raw_ord ir62_o17_ok (fun W => Blk W Rb #[.int .i64 m.words, ov, .bool m.on, dv, .int .i64 m.owed, tv] 43) fun W hE0 _ => ⟨hS W hE0, ?_⟩
 have c1 : ∀ W5, Blk W5 Rb #[.int .i64 m.words, ov, .bool m.on, dv, .int .i64 m.owed, tv] 43 → ∀ i, W5.cell? ⟨Rb, i, none⟩ = #[.int .i64 m.words, ov, .bool m.on, dv, .int .i64 m.owed, tv][i]? := fun W5 h5 => h5.cell
 have zz := hE0.size
 rw [ir62_o17]
 simp +contextual -implicitDefEqProofs [-ot_eff, -ot_asg, -ot_both, c1, hS W hE0, r0', r1, r2, r3]
 rw [ot_both]
 refine ⟨?_, ?_⟩
 ·rw [ot_e]
  refine eff_lit si34 (by decide) (by decide) (by simp) fun B1 W1 hB1 hE1 hb1 hs1 => ?_
  simp at hb1
  have e1 := hE0.trans' hE1
  refine ⟨fun _ => hS _ e1, ?_⟩
  rw [ot_both]
  refine ⟨?_, ?_⟩
  ·rw [ot_e]
   refine eff_copyU (w0 := w0) (B := B1) (v := kvv) (l := kinds) (by simp) hb1 (by omega) e1 (by simp) (hks.ext e1) (by omega) fun a W2 ha e2 z2 hk2 hf2 => ?_
   refine ⟨fun _ => hS _ e2, ?_⟩
   rw [ot_e]
   refine eff_lit si35 (by decide) (by decide) (by simp) fun B3 W3 hB3 hE3 hb3 hs3 => ?_
   simp at hb3
   have e3 := e2.trans' hE3
   refine ⟨fun _ => hS _ e3, ?_⟩
   rw [ot_e]
   have hkA := Own.blk ha
   have z3 := hE3.size
   refine eff_copyI (w0 := w0) (B := B3) (v := vvv) (l := vals) (by simp) hb3 (by omega) e3 (by simp) (hvs.ext e3) (by omega) fun b W4 hb e4 z4 hk4 hf4 => ?_
   refine ⟨fun _ => hS _ e4, ?_⟩
   refine sfx_wp h hl hbw e4 ho (Own.same' (ha.ext hE3) fun k hk => hk4 k (by have := (hkA k hk).2; omega) (by have := (hkA k hk).2; omega)) hb (fun x hx1 hx2 => ?_) (by simp) (by simp) (by simp) (by simp) (by simp) (by simp [r0']) hfin
   have := (hkA x hx1).2
   rcases hf4 with e | e <;> rw [e] at hx2 <;> cases hx2 <;> omega
  ·rw [ot_e]
   refine eff_lit si35 (by decide) (by decide) (by simp) fun B3 W3 hB3 hE3 hb3 hs3 => ?_
   simp at hb3
   have e3 := e1.trans' hE3
   have z3 := hE3.size
   have lb1 := hb1.lt
   refine ⟨fun _ => hS _ e3, ?_⟩
   rw [ot_e]
   refine eff_copyU (w0 := w0) (B := B1) (v := kvv) (l := kinds) (by simp) (hb1.ext hE3) (by omega) e3 (by simp) (hks.ext e3) (by omega) fun a W2 ha e2 z2 hk2 hf2 => ?_
   refine ⟨fun _ => hS _ e2, ?_⟩
   rw [ot_e]
   have hkA := Own.blk ha
   have lb3 := hb3.lt
   refine eff_copyI (w0 := w0) (B := B3) (v := vvv) (l := vals) (by simp) (Blk.keep hb3 (hk2 B3 lb3 (by omega))) (by omega) e2 (by simp) (hvs.ext e2) (by omega) fun b W4 hb e4 z4 hk4 hf4 => ?_
   refine ⟨fun _ => hS _ e4, ?_⟩
   have hne : ∀ k, a.ownBlock = some k → k ≠ B3 := fun k hk => by
    rcases hf2 with e | e <;> rw [e] at hk <;> cases hk <;> omega
   refine sfx_wp h hl hbw e4 ho (Own.same' ha fun k hk => hk4 k (hkA k hk).2 (hne k hk)) hb (fun x hx1 hx2 => ?_) (by simp) (by simp) (by simp) (by simp) (by simp) (by simp [r0']) hfin
   have h1 := (hkA x hx1).2
   have h2 := hne x hx1
   rcases hf4 with e | e <;> rw [e] at hx2 <;> cases hx2 <;> omega
 ·rw [ot_e]
  refine eff_lit si35 (by decide) (by decide) (by simp) fun B3 W3 hB3 hE3 hb3 hs3 => ?_
  simp at hb3
  have e3 := hE0.trans' hE3
  have z3 := hE3.size
  have lb3 := hb3.lt
  refine ⟨fun _ => hS _ e3, ?_⟩
  rw [ot_e]
  refine eff_lit si34 (by decide) (by decide) (by simp) fun B1 W1 hB1 hE1 hb1 hs1 => ?_
  simp at hb1
  have e1 := e3.trans' hE1
  have z1 := hE1.size
  have lb1 := hb1.lt
  refine ⟨fun _ => hS _ e1, ?_⟩
  rw [ot_e]
  refine eff_copyU (w0 := w0) (B := B1) (v := kvv) (l := kinds) (by simp) hb1 (by omega) e1 (by simp) (hks.ext e1) (by omega) fun a W2 ha e2 z2 hk2 hf2 => ?_
  refine ⟨fun _ => hS _ e2, ?_⟩
  rw [ot_e]
  have hkA := Own.blk ha
  refine eff_copyI (w0 := w0) (B := B3) (v := vvv) (l := vals) (by simp) (Blk.keep (hb3.ext hE1) (hk2 B3 (by omega) (by omega))) (by omega) e2 (by simp) (hvs.ext e2) (by omega) fun b W4 hb e4 z4 hk4 hf4 => ?_
  refine ⟨fun _ => hS _ e4, ?_⟩
  have hne : ∀ k, a.ownBlock = some k → k ≠ B3 := fun k hk => by
   rcases hf2 with e | e <;> rw [e] at hk <;> cases hk <;> omega
  refine sfx_wp h hl hbw e4 ho (Own.same' ha fun k hk => hk4 k (hkA k hk).2 (hne k hk)) hb (fun x hx1 hx2 => ?_) (by simp) (by simp) (by simp) (by simp) (by simp) (by simp [r0']) hfin
  have h1 := (hkA x hx1).2
  have h2 := hne x hx1
  rcases hf4 with e | e <;> rw [e] at hx2 <;> cases hx2 <;> omega
end
end Go.L17
namespace Go.L17
open Go Go.Eng Go.RowKit
open Go.Proofs hiding encI
set_option maxRecDepth 100000
set_option maxHeartbeats 2000000
section
variable {base Rb : Nat} {γ : Lay} {m : MS} {w : World} {ov dv tv : Value} {kv vv : Int → Value}
theorem zip_take_any {α β : Type} (f : α × β → Bool) (l : List α) (r : List β) (k : Nat) (a : α) (b : β) (ha : l[k]? = some a) (hb : r[k]? = some b) : ((l.zip r).take (k + 1)).any f = (((l.zip r).take k).any f || f (a, b)) := by
 have hz : (l.zip r)[k]? = some (a, b) := by rw [List.getElem?_zip_eq_some]; exact ⟨ha, hb⟩
 rw [List.take_add_one, hz, List.any_append]
 simp
theorem r_Make (h : RAt base w Rb γ m) (hg : MG m) (hbw : base ≤ w.heap.size) (how : -1000000000000 ≤ m.owed ∧ m.owed ≤ 1000000000000) {tag : Int} {kinds : List Nat} {vals : List Int} {kvv vvv : Value} (hksK : ∀ W, (∀ b, b < w.heap.size → ¬ γ.has b → W.heap[b]? = w.heap[b]?) → Sl encU W kvv kinds) (hvsK : ∀ W, (∀ b, b < w.heap.size → ¬ γ.has b → W.heap[b]? = w.heap[b]?) → Sl encI W vvv vals) :
  Calls Tryz.prog 62 #[ptr Rb, .int .i64 tag, kvv, vvv] w (RpR base w Rb γ (.tuple #[.int .i64 (m.make tag kinds vals).1, .int .i64 (m.make tag kinds vals).2.1]) (m.make tag kinds vals).2.2) := by
 have hl := hg.len
 have hks := hksK w fun _ _ _ => rfl
 have hvs := hvsK w fun _ _ _ => rfl
 obtain ⟨R, hR⟩ : ∃ R, R = RpR base w Rb γ (.tuple #[.int .i64 (m.make tag kinds vals).1, .int .i64 (m.make tag kinds vals).2.1]) (m.make tag kinds vals).2.2 := ⟨_, rfl⟩
 rw [← hR]
 have bad : ∀ {w' : World} (e : Int), e ≠ 0 → m.makeE tag kinds vals = e → Ext w w' → R (.returned (.tuple #[.int .i64 0, .int .i64 e])) w' := by
  intro w' e he hm hE
  have hs : m.make tag kinds vals = (0, e, m) := by unfold MS.make; rw [hm, if_neg he]
  rw [hR, hs]
  exact RpR.of h hE
 refine ir62_calls fun ρ r0 r1 r2 r3 => ?_
 simp -implicitDefEqProofs [-wps_asg, -wps_eff, wa2, we2, ir62, r1, r2, r3, hks.is, hks.len, hvs.is, hvs.len]
 split
 ·rename_i hsh
  exact bad 1 (by decide) (by unfold MS.makeE; rw [if_pos (by omega)]) (ext_refl _)
 rename_i hsh
 have hmE : m.makeE tag kinds vals = if ((kinds.zip vals).any fun p => !isKind p.1 || decide (m.value p.1 p.2 = 1)) then 1
  else if ((kinds.zip vals).any fun p => decide (m.value p.1 p.2 ≠ 0)) then 171 else if m.fits (2 + vals.length) then 0 else 170 := by
  unfold MS.makeE; rw [if_neg (by omega)]
 have hkl : kinds.length ≤ 6 := by omega
 have hvl : vals.length = kinds.length := by omega
 simp -implicitDefEqProofs [-wps_asg, -wps_eff, wa2, we2, ir62_k10]
 refine loopC 11 kinds.length (fun k ρ' W => Ext w W ∧ ρ' 0 = ptr Rb ∧ ρ' 1 = .int .i64 tag ∧ ρ' 2 = kvv ∧ ρ' 3 = vvv ∧ ρ' 10 = .bool (((kinds.zip vals).take k).any fun p => decide (m.value p.1 p.2 ≠ 0)) ∧ (((kinds.zip vals).take k).any fun p => !isKind p.1 || decide (m.value p.1 p.2 = 1)) = false) (by simp)
  ⟨ext_refl _, by simp [r0], by simp [r1], by simp [r2], by simp [r3], by simp, by simp⟩ ?_
 rintro k ρ' W hk h11 ⟨hE, s0, s1, s2, s3, s10, hnb⟩
 have hksW := hks.ext hE
 have hvsW := hvs.ext hE
 by_cases hlt : k < kinds.length
 ·have hlv : k < vals.length := by omega
  have hlvI : (k : Int) < (vals.length : Int) := by omega
  have ha := List.getElem?_eq_getElem hlt
  have hb := List.getElem?_eq_getElem hlv
  have hz1 := zip_take_any (fun p => !isKind p.1 || decide (m.value p.1 p.2 = 1)) kinds vals k _ _ ha hb
  have hz2 := zip_take_any (fun p => decide (m.value p.1 p.2 ≠ 0)) kinds vals k _ _ ha hb
  have hmem : (kinds[k], vals[k]) ∈ kinds.zip vals := List.mem_of_getElem? (by rw [List.getElem?_zip_eq_some]; exact ⟨ha, hb⟩ : (kinds.zip vals)[k]? = some (kinds[k], vals[k]))
  have cK := hksW.cell k hlt
  have cV := hvsW.cell k hlv
  by_cases hik : isKind kinds[k] = true
  rotate_left
  ·have h1 : ¬ (kinds[k] : Int) = 1 := fun e => hik (by unfold isKind; have : kinds[k] = 1 := (by omega); simp [this])
   have h2 : ¬ (kinds[k] : Int) = 2 := fun e => hik (by unfold isKind; have : kinds[k] = 2 := (by omega); simp [this])
   simp -implicitDefEqProofs [-wps_asg, -wps_eff, wa2, we2, ir62_l5, h11, s2, hksW.is, hksW.len, hlt, ir62_k4, cK, encU, h1, h2]
   refine bad 1 (by decide) ?_ hE
   rw [hmE, if_pos]
   rw [List.any_eq_true]
   exact ⟨_, hmem, by simp [hik]⟩
  have hgo : ∀ (ρ2 : Env), ρ2 11 = .int .i64 k → ρ2 2 = kvv → ρ2 3 = vvv → ρ2 0 = ptr Rb → ρ2 1 = .int .i64 tag → ρ2 10 = .bool (((kinds.zip vals).take k).any fun p => decide (m.value p.1 p.2 ≠ 0)) → ∀ (K : Env → World → Prop) (Q : Ks), Q.rt = retK [.tmp 8, .tmp 9] R → (∀ ρ3 W3, Ext w W3 → ρ3 11 = .int .i64 k → ρ3 2 = kvv → ρ3 3 = vvv → ρ3 0 = ptr Rb → ρ3 1 = .int .i64 tag → ρ3 10 = .bool (((kinds.zip vals).take (k + 1)).any fun p => decide (m.value p.1 p.2 ≠ 0)) → (((kinds.zip vals).take (k + 1)).any fun p => !isKind p.1 || decide (m.value p.1 p.2 = 1)) = false → K ρ3 W3) →
    ir62_k2.wp ⟨Tryz.prog, 100, ir62_V, []⟩ K Q ρ2 W := by
   intro ρ2 u11 u2 u3 u0 u1 u10 K Q hQ hK
   simp -implicitDefEqProofs [-qwps, qwps_eff, qwps_asg, qwps_nil, ir62_k2, u11, u2, u3, u0, hksW.is, hksW.len, hvsW.is, hvsW.len, hlt, hlv, hlvI, cK, cV]
   refine qE_call (.int .i64 (m.value kinds[k] vals[k])) cbr115 (fun w' hw' => ?_) ?_
   ·simp [encI]
    refine (r_value ((h.ext hE).ext hw') hl kinds[k] vals[k]).mono ?_
    rintro _ _ ⟨rfl, rfl⟩
    exact ⟨rfl, hw'⟩
   simp -implicitDefEqProofs [-qwps, qwps_eff, qwps_asg, qwps_nil]
   intro W3 hE3
   have hE03 := hE.trans' hE3
   by_cases hv1 : m.value kinds[k] vals[k] = 1
   ·simp -implicitDefEqProofs [-wps_asg, -wps_eff, wa2, we2, ir62_k1, hv1]
    rw [hQ]
    simp
    refine bad 1 (by decide) ?_ hE03
    rw [hmE, if_pos]
    rw [List.any_eq_true]
    exact ⟨_, hmem, by simp [hv1]⟩
   ·have hd : ((((kinds.zip vals).take k).any fun p => decide (m.value p.1 p.2 ≠ 0)) || !decide (m.value kinds[k] vals[k] = 0)) = ((kinds.zip vals).take (k + 1)).any fun p => decide (m.value p.1 p.2 ≠ 0) := by
     rw [hz2]; simp
    have hnb2 : (((kinds.zip vals).take (k + 1)).any fun p => !isKind p.1 || decide (m.value p.1 p.2 = 1)) = false := by
     rw [hz1, hnb]; simp [hik, hv1]
    have hd' : ∀ b : Bool, (if b = true then some (Value.bool true) else some (.bool (!decide (m.value kinds[k] vals[k] = 0)))) = some (.bool (b || !decide (m.value kinds[k] vals[k] = 0))) := fun b => by cases b <;> rfl
    generalize hB : (((kinds.zip vals).take k).any fun p => decide (m.value p.1 p.2 ≠ 0)) = B at u10 hd
    simp -implicitDefEqProofs [-wps_asg, -wps_eff, wa2, we2, ir62_k1, hv1, ir62_k0, u10]
    refine hK _ W3 hE03 ?_ ?_ ?_ ?_ ?_ ?_ hnb2
    ·simp [u11]
    ·simp [u2]
    ·simp [u3]
    ·simp [u0]
    ·simp [u1]
    ·rw [← hd]; simp
     cases B <;> simp <;> rfl
  have hc : (kinds[k] : Int) = 1 ∨ (kinds[k] : Int) = 2 := by
   unfold isKind at hik
   simp at hik
   omega
  have hne : ((kinds[k] : Int) != 1 && (kinds[k] : Int) != 2) = false := by rcases hc with h1 | h1 <;> simp [h1]
  obtain ⟨Z, hZ⟩ : ∃ Z : Env → World → Prop, Z = fun ρ'' w'' => k < kinds.length ∧ ρ'' 11 = .int .i64 ((k : Int) + 1) ∧ (Ext w w'' ∧ ρ'' 0 = ptr Rb ∧ ρ'' 1 = .int .i64 tag ∧ ρ'' 2 = kvv ∧ ρ'' 3 = vvv ∧ ρ'' 10 = .bool (((kinds.zip vals).take (k + 1)).any fun p => decide (m.value p.1 p.2 ≠ 0)) ∧ (((kinds.zip vals).take (k + 1)).any fun p => !isKind p.1 || decide (m.value p.1 p.2 = 1)) = false) := ⟨_, rfl⟩
  rw [← hZ]
  have hstep : ∀ ρ3 W3, Ext w W3 → ρ3 11 = .int .i64 k → ρ3 2 = kvv → ρ3 3 = vvv → ρ3 0 = ptr Rb → ρ3 1 = .int .i64 tag → ρ3 10 = .bool (((kinds.zip vals).take (k + 1)).any fun p => decide (m.value p.1 p.2 ≠ 0)) → (((kinds.zip vals).take (k + 1)).any fun p => !isKind p.1 || decide (m.value p.1 p.2 = 1)) = false → ∀ Q : Ks, ir62_k3.wp ⟨Tryz.prog, 100, ir62_V, []⟩ Z Q ρ3 W3 := by
   intro ρ3 W3 e3 v11 v2 v3 v0 v1 v10 hn2 Q
   generalize hB : (((kinds.zip vals).take (k + 1)).any fun p => decide (m.value p.1 p.2 ≠ 0)) = B at v10 hZ
   simp -implicitDefEqProofs [-wps_asg, -wps_eff, wa2, we2, ir62_k3, v11, i64w (n := (k : Int) + 1) (by omega)]
   rw [hZ]
   exact ⟨hlt, by simp, e3, by simp [v0], by simp [v1], by simp [v2], by simp [v3], by simp [v10], hn2⟩
  rcases hc with h1 | h1
  ·simp -implicitDefEqProofs [-wps_asg, -wps_eff, wa2, we2, ir62_l5, h11, s2, hksW.is, hksW.len, hlt, ir62_k4, cK, encU, h1]
   exact hgo _ (by simp [h11]) (by simp [s2]) (by simp [s3]) (by simp [s0]) (by simp [s1]) (by simp [s10]) _ _ rfl fun ρ3 W3 e3 v11 v2 v3 v0 v1 v10 hn2 => hstep ρ3 W3 e3 v11 v2 v3 v0 v1 v10 hn2 _
  ·simp -implicitDefEqProofs [-wps_asg, -wps_eff, wa2, we2, ir62_l5, h11, s2, hksW.is, hksW.len, hlt, ir62_k4, cK, encU, h1]
   exact hgo _ (by simp [h11]) (by simp [s2]) (by simp [s3]) (by simp [s0]) (by simp [s1]) (by simp [s10]) _ _ rfl fun ρ3 W3 e3 v11 v2 v3 v0 v1 v10 hn2 => hstep ρ3 W3 e3 v11 v2 v3 v0 v1 v10 hn2 _
 ·have hk' : k = kinds.length := by omega
  subst hk'
  have hzl : (kinds.zip vals).length = kinds.length := by rw [List.length_zip]; omega
  have htake : (kinds.zip vals).take kinds.length = kinds.zip vals := by rw [← hzl, List.take_length]
  rw [htake] at s10 hnb
  rw [hnb] at hmE
  simp only [Bool.false_eq_true, if_false] at hmE
  generalize hB : ((kinds.zip vals).any fun p => decide (m.value p.1 p.2 ≠ 0)) = B at s10 hmE
  simp -implicitDefEqProofs [-wps_asg, -wps_eff, wa2, we2, ir62_l5, h11, s2, hksW.is, hksW.len, ir62_k9, s10]
  cases B with
  | true =>
   simp
   exact bad 171 (by decide) (by rw [hmE]; rfl) hE
  | false =>
   simp only [Bool.false_eq_true, if_false] at hmE ⊢
   have z := hE.size
   have hw : IntKind.i64.wrap (2 + (vals.length : Int)) = 2 + (vals.length : Int) := i64w (by omega)
   simp -implicitDefEqProofs [-wps_asg, -wps_eff, wa2, we2, ir62_k8, s0, s3, hvsW.is, hvsW.len, hw]
   refine (r_room (h.ext hE) hg (2 + vals.length) (by omega) how).mono ?_
   rintro _ W1 ⟨rfl, γ1, h1, hT1⟩
   cases hf : m.fits (2 + vals.length) with
   | false =>
    rw [hf] at h1 hmE
    have hs : m.make tag kinds vals = (0, 170, m) := by unfold MS.make; rw [hmE]; rfl
    simp -implicitDefEqProofs [-wps_asg, -wps_eff, wa2, we2]
    rw [hR, hs]
    exact ⟨rfl, γ1, h1, (Turn.of hE).trans hT1⟩
   | true =>
    rw [hf] at h1 hmE
    have hs : m.make tag kinds vals = ((m.objs.length : Int) + 1, 0, (m.paid (2 + vals.length)).push ⟨true, tag, 0, kinds, vals, 0, false⟩) := by unfold MS.make; rw [hmE]; rfl
    simp only [if_true] at h1
    simp -implicitDefEqProofs [-wps_asg, -wps_eff, wa2, we2]
    have z1 := hT1.1.size
    have hpo : (m.paid (2 + vals.length)).objs = m.objs := rfl
    have st1 : ∀ b, b < w.heap.size → ¬ γ.has b → W1.heap[b]? = w.heap[b]? := fun b hb hn => (hT1.1.block b (by omega) hn).trans (hE.block b hb)
    refine make_k7 (tag := tag) h1 (by rw [hpo]; exact hl) (by omega) (hksK W1 st1) (hvsK W1 st1) (by omega) (by omega) (by simp [s0]) (by simp [s1]) (by simp [s2]) (by simp [s3]) fun W3 γ' hR3 hT3 => ?_
    rw [hR, hs]
    exact ⟨by rw [hpo], γ', hR3, ((Turn.of hE).trans hT1).trans hT3⟩
end
end Go.L17
namespace Go.L17
open Go Go.Eng Go.RowKit
open Go.Proofs hiding encI
set_option maxRecDepth 100000
set_option maxHeartbeats 2000000
section
variable {base Rb : Nat} {γ : Lay} {m : MS} {w : World} {ov dv tv : Value} {kv vv : Int → Value}
theorem row_end {w0 w : World} (h : RAt base w0 Rb γ m) (hl : m.objs.length ≤ 100000000) {s : Nat} (hs : ∀ r b, γ r = some b → b < s) (hbw : base ≤ s) (hE : Ext w0 w) (ho : ROpen base w0 Rb γ m ov dv tv kv vv) {n : Int} (hn : 1 ≤ n ∧ n ≤ m.objs.length) {a b : Value} {o : MO} (hks : o.kinds = (m.at n).kinds)
  (ha : SlAt base 5 w0 a (o.kinds.map encU) (γ (.ks n))) (hb : Own s 3 1 w b (o.vals.map encI)) {p x : Operand} {d : Option Nat} {ty : TypeId} {Q : Ks} {K : Env → World → Prop} {ρ : Env} (hp : evE ρ p = .pointer (some (slAddr ov ((n.toNat - 1) * 7)))) (hx : evE ρ x = .agg (encO a b o).toArray)
  (hk : ∀ W γ', RAt base W Rb γ' (m.put n o) → Fr (fun k => γ .map = some k) w0 W → (∀ x, γ'.has x → γ.has x ∨ s ≤ x) → K (updO ρ d undef) W) : effW Tryz.prog Q d (.store 145 p x) ty K ρ w := by
 have z := hE.size
 have hone : ∀ u ∈ encO a b o, u.oneCell = true := by
  intro u hu
  simp [encO] at hu
  rcases hu with rfl | rfl | rfl | rfl | rfl | rfl | rfl
  ·rfl
  ·rfl
  ·rfl
  ·exact slAt_one ha
  ·exact (own_one hb).2
  ·rfl
  ·rfl
 have hlt : (n.toNat - 1) * 7 + 7 ≤ (cellsO kv vv m.objs).length := by
  rw [cellsO_len]
  have : (n.toNat - 1 + 1) * 7 ≤ m.objs.length * 7 := Nat.mul_le_mul_right _ (by omega)
  omega
 refine eff_storeRN (base := base) (xs := cellsO kv vv m.objs) (vs := encO a b o) (i := (n.toNat - 1) * 7) (ho.objs.ext hE) (by rw [encO_len]; exact hlt) (by simp [encO]) hp (by rw [hx]; simp [Value.cells]) hone sz145 fun g W hg hO hrow => ?_
 have hγ : γ .map = some g := by rw [← ho.ob]; exact hg
 have hF : Fr (fun k => γ .map = some k) w0 W := (Fr.of hE (S := fun k => γ .map = some k)).trans (Fr.only hO (S := fun k => γ .map = some k) hγ) fun x h => .inl h
 have e0 : n.toNat - 1 = (n - 1).toNat := by omega
 rw [e0] at hrow
 have hb' : Own base 3 1 W b (o.vals.map encI) := Own.low (Own.same' hb fun k hk => hO.block k fun e => by
  subst e
  have := hs _ _ hγ
  have := (Own.blk hb k hk).1
  omega) hbw
 obtain ⟨h1, h2⟩ := h.rowPut hs hbw ho hn hF hrow (ka := γ (.ks n)) (kb := b.ownBlock) (ha.keep fun k hk => hF.block k (h.hi _ k hk) fun e => h.ne hk e (by simp) rfl) ⟨hb', rfl⟩ (fun x hx => .inl hx) (fun x hx => .inr (Own.blk hb x hx).1) fun x hx1 hx2 => by
  have := hs _ _ hx1
  have := (Own.blk hb x hx2).1
  omega
 exact hk W _ h1 hF h2
theorem r_Addh (h : RAt base w Rb γ m) (hg : MG m) (hbw : base ≤ w.heap.size) (how : -1000000000000 ≤ m.owed ∧ m.owed ≤ 1000000000000) (n v : Int) : Calls Tryz.prog 70 #[ptr Rb, .int .i64 n, .int .i64 v] w (RpR base w Rb γ (.int .i64 (m.add n v).1) (m.add n v).2) := by
 have hl := hg.len
 obtain ⟨R, hR⟩ : ∃ R, R = RpR base w Rb γ (.int .i64 (m.add n v).1) (m.add n v).2 := ⟨_, rfl⟩
 rw [← hR]
 obtain ⟨ov, dv, tv, kv, vv, ho⟩ := h.opened
 have hr := RowO.of ho.objs
 refine ir70_calls fun ρ r0 r1 r2 => ?_
 simp -implicitDefEqProofs [-wps_asg, -wps_eff, wa2, we2, ir70, r0, r1, r2]
 refine (r_array h hl n).mono ?_
 rintro _ w1 ⟨rfl, rfl⟩
 by_cases hE : m.arrayE n = 0
 rotate_left
 ·have hs : m.add n v = (m.arrayE n, m) := by simp [MS.add, MS.addE, hE]
  simp -implicitDefEqProofs [-wps_asg, -wps_eff, wa2, we2, hE]
  rw [hR, hs]
  exact RpR.of h (ext_refl _)
 have ht := arrayE_zero' hE
 have hn := there_le ht
 have hrow := hr.row hn.1 hn.2
 have hsm := hg.small n ht
 obtain ⟨a1, a2⟩ := ho.at' n hn.1 hn.2
 have hvs := a2.sl (enc := encI) (by omega)
 have hw : IntKind.i64.wrap (n - 1) = n - 1 := i64w (by omega)
 have h1 : (0 : Int) ≤ n - 1 := by omega
 have h2 : n - 1 < (m.objs.length : Int) := by omega
 simp -implicitDefEqProofs [-wps_asg, -wps_eff, wa2, we2, hE, r0, r1, ptr, ho.hd.cell, hr.is, hr.len, hw, h1, h2, hn.1, hrow, ir70_k4]
 refine eff_copyO (o := m.at n) (by decide) (by simp) (slAt_one a1) (slAt_one a2) fun B W hB hE2 hbl => ?_
 have h2W := h.ext hE2
 simp -implicitDefEqProofs [-wps_asg, -wps_eff, wa2, we2, hbl.cell, r2, r0, ptr]
 refine (r_value h2W hl (m.at n).elem v).mono ?_
 rintro _ W' ⟨rfl, rfl⟩
 by_cases hv : m.value (m.at n).elem v = 0
 rotate_left
 ·have hs : m.add n v = (m.value (m.at n).elem v, m) := by simp [MS.add, MS.addE, hE, hv]
  simp -implicitDefEqProofs [-wps_asg, -wps_eff, wa2, we2, hv]
  rw [hR, hs]
  exact RpR.of h hE2
 have hvs2 := hvs.ext hE2
 by_cases hlim : 200 ≤ (m.at n).vals.length
 ·have hs : m.add n v = (2, m) := by simp [MS.add, MS.addE, hE, hv, hlim]
  have hlimI : (200 : Int) ≤ ((m.at n).vals.length : Int) := by omega
  simp -implicitDefEqProofs [-wps_asg, -wps_eff, wa2, we2, hv, ir70_k3, hbl.cell, hvs2.is, hvs2.len, hlimI, hlim]
  rw [hR, hs]
  exact RpR.of h hE2
 have hlimI : ¬ (200 : Int) ≤ ((m.at n).vals.length : Int) := by omega
 simp -implicitDefEqProofs [-wps_asg, -wps_eff, wa2, we2, hv, ir70_k3, hbl.cell, hvs2.is, hvs2.len, hlimI, hlim, ir70_k2, r0]
 refine (r_room2 h2W hg 1 (by omega) how).mono ?_
 rintro _ W1 ⟨rfl, h1W, hF1⟩
 have zW := hE2.size
 have z1 := hF1.size
 have hTF : Turn γ w1 γ W1 := (Turn.of hE2).trans ⟨hF1.mono fun x hx => .inl ⟨.heap, by rw [hx]; exact h.hb⟩, fun _ h => .inl h⟩
 cases hf : m.fits 1 with
 | false =>
  have hs : m.add n v = (170, m) := by simp [MS.add, MS.addE, hE, hv, hlim, hf]
  rw [hf] at h1W
  simp -implicitDefEqProofs [-wps_asg, -wps_eff, wa2, we2]
  rw [hR, hs]
  exact ⟨rfl, γ, h1W, hTF⟩
 | true =>
 have hs : m.add n v = (0, (m.paid 1).put n ((m.at n).withVals ((m.at n).vals ++ [v]))) := by simp [MS.add, MS.addE, hE, hv, hlim, hf]
 rw [hf] at h1W
 simp only [if_true] at h1W
 obtain ⟨ov1, dv1, tv1, kv1, vv1, ho1⟩ := h1W.opened
 have hRl := h.hi _ _ h.hb
 have hbl1 : Blk W1 B _ 145 := hF1.blk hbl (by omega)
 have hbl1' := hbl1.lt
 have hstay : ∀ r b, r ≠ .heap → γ r = some b → W1.heap[b]? = w1.heap[b]? := fun r b hr hb => (hF1.block b (by have := h.hi r b hb; omega) (h.ne hb h.hb hr)).trans (hE2.block b (h.hi r b hb))
 have hvs1 : Sl encI W1 (vv n) (m.at n).vals := (a2.keep fun k hk => hstay _ k (by simp) hk).sl (by omega)
 have ha1 := a1.keep (w' := W1) fun k hk => hstay _ k (by simp) hk
 simp -implicitDefEqProofs [-wps_asg, -wps_eff, wa2, we2, ir70_k1]
 refine eff_lit si35 (by decide) (by decide) (by simp) fun B3 W3 hB3 hE3 hb3 hs3 => ?_
 simp at hb3
 have hblx : Blk W3 B #[.bool (m.at n).there, .int .i64 (m.at n).tag, .int .u8 ((m.at n).elem : Int), kv n, vv n, .int .i64 ((m.at n).age : Int), .bool (m.at n).watched] 145 := hbl1.ext hE3
 simp -implicitDefEqProofs [-wps_asg, -wps_eff, wa2, we2, hblx.cell]
 refine eff_copyI (w0 := W1) (B := B3) (v := vv n) (l := (m.at n).vals) (by simp) hb3 hB3 hE3 (by simp) (hvs1.ext hE3) (by omega) fun y W4 hy e4 z4 hk4 hf4 => ?_
 simp -implicitDefEqProofs [-wps_asg, -wps_eff, wa2, we2, r2]
 refine eff_lit si35 (by decide) (by decide) (by simp [Value.cells]) fun B5 W5 hB5 hE5 hb5 hs5 => ?_
 simp [Value.cells] at hb5
 have z5 := hE5.size
 have z3 := hE3.size
 have z04 := e4.size
 have hO5 : Own W1.heap.size 3 1 W5 (.slice (some ⟨B5, 0, none⟩) 1 1) [.int .i64 v] := Own.lit hb5 rfl (by omega) (by decide)
 have hy5 := hy.ext hE5
 simp -implicitDefEqProofs [-wps_asg, -wps_eff, wa2, we2]
 refine eff_appendG ri35 (base := W1.heap.size) (by omega) (by simp) (by simp) hy5 (own_cells hO5) (by simp; rfl) (by simp; omega) (by simp; omega) fun y2 W6 hy6 hg6 hf6 => ?_
 have e6 : Ext W1 W6 := (Fr.grown hg6).ext (e4.trans' hE5) fun k hk => (Own.blk hy k hk).1
 have hbl6 : Blk W6 B #[.bool (m.at n).there, .int .i64 (m.at n).tag, .int .u8 ((m.at n).elem : Int), kv n, vv n, .int .i64 ((m.at n).age : Int), .bool (m.at n).watched] 145 := hbl1.ext e6
 have hone := own_one hy6
 simp -implicitDefEqProofs [-wps_asg, -wps_eff, wa2, we2]
 refine eff_store1 (B := B) (i := 4) (by simp) hbl6 (by simp) (by simpa using hone.1) (by simpa using hone.2) sz35 fun W7 hO7 hb7 => ?_
 simp at hb7
 have z6 := e6.size
 have hBw : B < W1.heap.size := hbl1'
 have hblkO := Own.blk hy6
 have hy7 : Own W1.heap.size 3 1 W7 y2 (((m.at n).vals ++ [v]).map encI) := by
  have := Own.same' hy6 (w' := W7) fun k hk => hO7.block k (by have := (hblkO k hk).1; omega)
  simpa [encI] using this
 have hB0 : w1.heap.size ≤ B := hB
 have stB : ∀ r b, γ r = some b → W7.heap[b]? = W1.heap[b]? := fun r b hb => (hO7.block b (by have := h.hi r b hb; omega)).trans (e6.block b (by have := h.hi r b hb; omega))
 have h7 : RAt base W7 Rb γ (m.paid 1) := h1W.keep stB
 have ho7 : ROpen base W7 Rb γ (m.paid 1) ov1 dv1 tv1 kv1 vv1 := ⟨Blk.keep ho1.hd (stB _ _ h.hb), Own.same' ho1.objs fun k hk => stB .map k (by rw [← ho1.ob]; exact hk), ho1.ob, ho1.doom.keep fun k hk => stB _ k hk, ho1.told.keep fun k hk => stB _ k hk, fun x y z => ⟨(ho1.at' x y z).1.keep fun k hk => stB _ k hk, (ho1.at' x y z).2.keep fun k hk => stB _ k hk⟩⟩
 simp -implicitDefEqProofs [-wps_asg, -wps_eff, wa2, we2]
 refine raw_ord ir70_o13_ok (Ext W7) fun W8 hE8 _ => ⟨hE8, ?_⟩
 have hr7 := RowO.of ho7.objs
 have hpl : (m.paid 1).objs.length = m.objs.length := rfl
 have c1 : ∀ W5, Ext W7 W5 → ∀ i, W5.cell? ⟨Rb, i, none⟩ = #[.int .i64 (m.paid 1).words, ov1, .bool (m.paid 1).on, dv1, .int .i64 (m.paid 1).owed, tv1][i]? := fun W5 h5 => (ho7.hd.ext h5).cell
 have hrowB : ∀ W5, Ext W7 W5 → Eng.rowAt W5 ⟨B, 0, none⟩ 0 7 = some (encO (kv n) y2 ((m.at n).withVals ((m.at n).vals ++ [v]))) := fun W5 h5 => by
  have := row_blk (hb7.ext h5)
  exact this
 simp +contextual -implicitDefEqProofs [ir70_o13, r0, r1, ptr, c1, hrowB, hE8, hw, hr7.is, hr7.len, hpl, hn.1, h1, h2]
 refine row_end (o := (m.at n).withVals ((m.at n).vals ++ [v])) (a := kv n) (b := y2) (s := w1.heap.size) h7 (by rw [hpl]; exact hl) h.hi hbw hE8 ho7 (by rw [hpl]; exact hn) rfl (ha1.keep fun k hk => stB _ k hk) (Own.low (hy7.ext hE8) (by omega)) (by simp) (by simp) fun W9 γ' hR9 hF9 hh9 => ?_
 simp -implicitDefEqProofs [-wps_asg, -wps_eff, wa2, we2, ir70_k0]
 rw [hR, hs]
 have hFt : Fr γ.has w1 W9 := ((hTF.1.trans (Fr.of e6 (S := γ.has)) fun x h => .inl h).trans ((Fr.only hO7 (S := fun k => k = B) rfl)) fun x hx => .inr (by rw [hx]; exact hB0)).trans hF9 fun x hx => .inl ⟨_, hx⟩
 exact ⟨rfl, γ', hR9, hFt, hh9⟩
theorem r_Remh (h : RAt base w Rb γ m) (hg : MG m) (hbw : base ≤ w.heap.size) (n : Int) : Calls Tryz.prog 71 #[ptr Rb, .int .i64 n] w (RpR base w Rb γ (.tuple #[.int .i64 (m.rem n).1, .int .i64 (m.rem n).2.1]) (m.rem n).2.2) := by
 have hl := hg.len
 obtain ⟨R, hR⟩ : ∃ R, R = RpR base w Rb γ (.tuple #[.int .i64 (m.rem n).1, .int .i64 (m.rem n).2.1]) (m.rem n).2.2 := ⟨_, rfl⟩
 rw [← hR]
 obtain ⟨ov, dv, tv, kv, vv, ho⟩ := h.opened
 have hr := RowO.of ho.objs
 refine ir71_calls fun ρ r0 r1 => ?_
 simp -implicitDefEqProofs [-wps_asg, -wps_eff, wa2, we2, ir71, r0, r1]
 refine (r_array h hl n).mono ?_
 rintro _ w1 ⟨rfl, rfl⟩
 by_cases hE : m.arrayE n = 0
 rotate_left
 ·have hs : m.rem n = (0, m.arrayE n, m) := by simp [MS.rem, MS.remE, hE]
  simp -implicitDefEqProofs [-wps_asg, -wps_eff, wa2, we2, hE]
  rw [hR, hs]
  exact RpR.of h (ext_refl _)
 have ht := arrayE_zero' hE
 have hn := there_le ht
 have hrow := hr.row hn.1 hn.2
 have hsm := hg.small n ht
 obtain ⟨a1, a2⟩ := ho.at' n hn.1 hn.2
 have hvs := a2.sl (enc := encI) (by omega)
 have hw : IntKind.i64.wrap (n - 1) = n - 1 := i64w (by omega)
 have h1 : (0 : Int) ≤ n - 1 := by omega
 have h2 : n - 1 < (m.objs.length : Int) := by omega
 simp -implicitDefEqProofs [-wps_asg, -wps_eff, wa2, we2, hE, r0, r1, ptr, ho.hd.cell, hr.is, hr.len, hw, h1, h2, hn.1, hrow, ir71_k2]
 refine eff_copyO (o := m.at n) (by decide) (by simp) (slAt_one a1) (slAt_one a2) fun B W hB hE2 hbl => ?_
 have hvs2 := hvs.ext hE2
 by_cases hv0 : (m.at n).vals = []
 ·have hs : m.rem n = (0, 5, m) := by simp [MS.rem, MS.remE, hE, hv0]
  have hlen0 : (m.at n).vals.length = 0 := by rw [hv0]; rfl
  have hsl0 : slLen (vv n) = 0 := by rw [hvs2.len, hlen0]
  simp -implicitDefEqProofs [-wps_asg, -wps_eff, wa2, we2, hbl.cell, hvs2.is, hsl0]
  rw [hR, hs]
  exact RpR.of h hE2
 have hpos : 0 < (m.at n).vals.length := List.length_pos_iff.2 hv0
 have hs : m.rem n = ((m.at n).vals.getLastD 0, 0, m.put n ((m.at n).withVals (m.at n).vals.dropLast)) := by simp [MS.rem, MS.remE, hE, hv0]
 have hw1 : IntKind.i64.wrap (((m.at n).vals.length : Int) - 1) = ((m.at n).vals.length : Int) - 1 := i64w (by omega)
 have hge : 0 ≤ ((m.at n).vals.length : Int) - 1 := by omega
 have hll : ((m.at n).vals.length : Int) - 1 < (m.at n).vals.length := by omega
 have h1l : (1 : Int) ≤ ((m.at n).vals.length : Int) := by omega
 have hcell := hvs2.cell ((m.at n).vals.length - 1) (by omega)
 have hlast : (m.at n).vals[(m.at n).vals.length - 1]'(by omega) = (m.at n).vals.getLastD 0 := by
  rw [List.getLastD_eq_getLast?, List.getLast?_eq_getElem?, List.getElem?_eq_getElem (by omega)]; rfl
 have hcap : (m.at n).vals.length ≤ slCap (vv n) := by have := isSl_len_cap hvs2.is; have := hvs2.len; omega
 have hcapI : ((m.at n).vals.length : Int) - 1 ≤ (slCap (vv n) : Int) := by omega
 simp -implicitDefEqProofs [-wps_asg, -wps_eff, wa2, we2, hbl.cell, hvs2.is, hvs2.len, hv0, ir71_k1, hw1, hge, hll, h1l, hcell, hlast, encI]
 refine eff_lit si35 (by decide) (by decide) (by simp) fun B3 W3 hB3 hE3 hb3 hs3 => ?_
 simp at hb3
 have hbl3 := hbl.ext hE3
 have hvs3 := hvs2.ext hE3
 have hsub : Sl encI W3 (slSub (vv n) 1 0 ((m.at n).vals.length - 1) (slCap (vv n))) (m.at n).vals.dropLast := by
  have := hvs3.sub (l := 0) (r := (m.at n).vals.length - 1) (m := slCap (vv n)) (by omega) (by omega) (by omega) (Nat.le_refl _)
  rw [List.drop_zero, ← List.dropLast_eq_take] at this
  simpa using this
 simp -implicitDefEqProofs [-wps_asg, -wps_eff, wa2, we2, hbl3.cell, hvs3.is, hvs3.len, hw1, hge, hll, h1l, hcapI]
 refine eff_copyI (w0 := w1) (B := B3) (l := (m.at n).vals.dropLast) (by simp) hb3 (by have := hE2.size; omega) (hE2.trans' hE3) (by simp) hsub (by simp <;> omega) fun y W4 hy e4 z4 hk4 hf4 => ?_
 have lbl := hbl.lt
 have hbl4 : Blk W4 B _ 145 := Blk.keep hbl3 (hk4 B (by have := hE3.size; omega) (by omega))
 have hone := own_one hy
 simp -implicitDefEqProofs [-wps_asg, -wps_eff, wa2, we2]
 refine eff_store1 (B := B) (i := 4) (by simp) hbl4 (by simp) (by simpa using hone.1) (by simpa using hone.2) sz35 fun W7 hO7 hb7 => ?_
 simp at hb7
 have hblkO := Own.blk hy
 have z3 := hE3.size
 have hyB : ∀ k, y.ownBlock = some k → k ≠ B := fun k hk => by
  rcases hf4 with e | e <;> rw [e] at hk <;> cases hk <;> omega
 have hy7 : Own w1.heap.size 3 1 W7 y ((m.at n).vals.dropLast.map encI) := Own.same' hy fun k hk => hO7.block k (hyB k hk)
 have e7 : Ext w1 W7 := hO7.ext e4 hB
 have h7 := h.ext e7
 have ho7 := ho.ext h e7
 have hr7 := RowO.of ho7.objs
 simp -implicitDefEqProofs [-wps_asg, -wps_eff, wa2, we2]
 refine raw_ord ir71_o10_ok (Ext W7) fun W8 hE8 _ => ⟨hE8, ?_⟩
 have c1 : ∀ W5, Ext W7 W5 → ∀ i, W5.cell? ⟨Rb, i, none⟩ = #[.int .i64 m.words, ov, .bool m.on, dv, .int .i64 m.owed, tv][i]? := fun W5 h5 => (ho7.hd.ext h5).cell
 have hrowB : ∀ W5, Ext W7 W5 → Eng.rowAt W5 ⟨B, 0, none⟩ 0 7 = some (encO (kv n) y ((m.at n).withVals (m.at n).vals.dropLast)) := fun W5 h5 => by
  have := row_blk (hb7.ext h5)
  exact this
 simp +contextual -implicitDefEqProofs [ir71_o10, r0, r1, ptr, c1, hrowB, hE8, hw, hr7.is, hr7.len, hn.1, h1, h2]
 refine row_end (o := (m.at n).withVals (m.at n).vals.dropLast) (a := kv n) (b := y) (s := w1.heap.size) h7 hl h.hi hbw hE8 ho7 hn rfl (a1.keep fun k hk => e7.block k (h.hi _ k hk)) (hy7.ext hE8) (by simp) (by simp) fun W9 γ' hR9 hF9 hh9 => ?_
 simp -implicitDefEqProofs [-wps_asg, -wps_eff, wa2, we2, ir71_k0]
 rw [hR, hs]
 exact ⟨by simp, γ', hR9, (Fr.of e7 (S := γ.has)).trans hF9 fun x hx => .inl ⟨_, hx⟩, hh9⟩
end
end Go.L17
namespace Go.L17
open Go Go.Eng Go.RowKit
open Go.Proofs hiding encI
set_option maxRecDepth 100000
set_option maxHeartbeats 2000000
@[simp] theorem cbr120 : callB Tryz.prog 120 = true := by kernel_rfl
@[simp] theorem cbr121 : callB Tryz.prog 121 = true := by kernel_rfl
@[simp] theorem cbr122 : callB Tryz.prog 122 = true := by kernel_rfl
theorem bu145z : Tryz.prog.built 145 [] = some #[.bool false, .int .i64 0, .int .u8 0, .slice none 0 0, .slice none 0 0, .int .i64 0, .bool false] := by kernel_rfl
section
variable {base Rb : Nat} {γ : Lay} {m : MS} {w : World} {ov dv tv : Value} {kv vv : Int → Value}
theorem r_rooted (h : RAt base w Rb γ m) (hl : m.objs.length ≤ 100000000) {v : Value} {l : List Int} (hs : Sl encI w v l) : Calls Tryz.prog 120 #[ptr Rb, v] w fun e w' => e = .returned (.int .i64 (m.rootE l)) ∧ w' = w := by
 have hbd := hs.bd
 refine ir120_calls fun ρ r0 r1 => ?_
 by_cases hlen : 10000 < l.length
 ·have hI : (10000 : Int) < (l.length : Int) := by omega
  simp -implicitDefEqProofs [-wps_asg, -wps_eff, wa2, we2, ir120, r1, hs.is, hs.len, hI, MS.rootE, hlen]
 ·have hI : ¬ (10000 : Int) < (l.length : Int) := by omega
  have hrE : m.rootE l = if (l.any fun r => decide (r ≠ 0) && !m.there r) then 171 else 0 := by unfold MS.rootE; rw [if_neg hlen]
  obtain ⟨A, hA⟩ : ∃ A : Nat → Bool, A = fun k => (l.take k).any fun r => decide (r ≠ 0) && !m.there r := ⟨_, rfl⟩
  have hA0 : A 0 = false := by rw [hA]; rfl
  simp -implicitDefEqProofs [-wps_asg, -wps_eff, wa2, we2, ir120, r1, hs.is, hs.len, hI, ir120_k4]
  refine loopC 5 l.length (fun k ρ' w' => w' = w ∧ ρ' 0 = ptr Rb ∧ ρ' 1 = v ∧ A k = false) (by simp) ⟨rfl, by simp [r0], by simp [r1], hA0⟩ ?_
  rintro k ρ' w' hk h5 ⟨rfl, s0, s1, hany⟩
  by_cases hlt : k < l.length
  ·have hgo : A (k + 1) = (decide (l[k] ≠ 0) && !m.there l[k]) := by
    rw [hA] at hany ⊢
    dsimp only at hany ⊢
    rw [List.take_add_one, List.getElem?_eq_getElem hlt, List.any_append, hany]; simp
   by_cases h0 : l[k] = 0
   ·simp -implicitDefEqProofs [-wps_asg, -wps_eff, wa2, we2, ir120_l2, h5, s1, hs.is, hs.len, hlt, ir120_k1, hs.cell k hlt, encI, h0, ir120_k0, i64w (n := (k : Int) + 1) (by omega), s0]
    rw [hgo]; simp [h0]
   ·have hb0 : (l[k] != 0) = true := by simp [h0]
    simp -implicitDefEqProofs [-wps_asg, -wps_eff, wa2, we2, ir120_l2, h5, s1, hs.is, hs.len, hlt, ir120_k1, hs.cell k hlt, encI, h0, s0, hb0]
    refine (r_There h hl l[k]).mono ?_
    rintro _ w2 ⟨rfl, rfl⟩
    cases ht : m.there l[k] with
    | false =>
     have hall : (l.any fun r => decide (r ≠ 0) && !m.there r) = true := by
      rw [List.any_eq_true]
      exact ⟨l[k], List.getElem_mem hlt, by simp [h0, ht]⟩
     simp -implicitDefEqProofs [-wps_asg, -wps_eff, wa2, we2]
     rw [hrE, if_pos hall]
    | true =>
     simp -implicitDefEqProofs [-wps_asg, -wps_eff, wa2, we2, ir120_k0, h5, i64w (n := (k : Int) + 1) (by omega), s0, s1]
     rw [hgo, ht]; simp
  ·have hk' : k = l.length := by omega
   subst hk'
   rw [hA] at hany
   dsimp only at hany
   rw [List.take_length] at hany
   simp -implicitDefEqProofs [-wps_asg, -wps_eff, wa2, we2, ir120_l2, h5, s1, hs.is, hs.len, ir120_k3]
   rw [hrE, hany]; rfl
theorem RAt.tellO (h : RAt base w Rb γ m) (ho : ROpen base w Rb γ m ov dv tv kv vv) {n : Int} {w' : World} {tv' : Value} (hF : Fr (fun k => k = Rb ∨ γ .en = some k) w w') (hd : Blk w' Rb #[.int .i64 m.words, ov, .bool m.on, dv, .int .i64 m.owed, tv'] 43) (ht : Own base 3 1 w' tv' ((m.told ++ [n]).map encI))
  (hb : ∀ x, tv'.ownBlock = some x → γ .en = some x ∨ w.heap.size ≤ x) (hbw : base ≤ w.heap.size) : RAt base w' Rb (updR γ .en tv'.ownBlock) (m.tell n) ∧ Turn γ w (updR γ .en tv'.ownBlock) w' ∧ ROpen base w' Rb (updR γ .en tv'.ownBlock) (m.tell n) ov dv tv' kv vv := by
 have hz := hF.size
 have hBt := Own.blk ht
 have st : ∀ r x, r ≠ .heap → r ≠ .en → γ r = some x → w'.heap[x]? = w.heap[x]? := fun r x h1 h2 hx => hF.block x (h.hi r x hx) fun e => by
  rcases e with e | e
  ·exact h.ne hx h.hb h1 e
  ·exact h.ne hx e h2 rfl
 have oth : ∀ r, r ≠ .en → updR γ .en tv'.ownBlock r = γ r := fun r hr => updR_ne hr
 have back : ∀ r x, updR γ .en tv'.ownBlock r = some x → γ r = some x ∨ (w.heap.size ≤ x ∧ r = .en ∧ tv'.ownBlock = some x) := by
  intro r x hx
  rcases updR_some hx with ⟨rfl, e⟩ | ⟨_, hx⟩
  ·rcases hb x e with e2 | e2
   ·exact .inl e2
   ·exact .inr ⟨e2, rfl, e⟩
  ·exact .inl hx
 have hop : ROpen base w' Rb (updR γ .en tv'.ownBlock) (m.tell n) ov dv tv' kv vv := by
  refine ⟨hd, Own.same' ho.objs fun k hk => st .map k (by simp) (by simp) (by rw [← ho.ob]; exact hk), by rw [oth _ (by simp)]; exact ho.ob, by rw [oth _ (by simp)]; exact ho.doom.keep fun k hk => st _ k (by simp) (by simp) hk, ⟨ht, by simp⟩, fun x h1 h2 => ?_⟩
  rw [oth _ (by simp), oth _ (by simp)]
  obtain ⟨a1, a2⟩ := ho.at' x h1 h2
  exact ⟨a1.keep fun k hk => st _ k (by simp) (by simp) hk, a2.keep fun k hk => st _ k (by simp) (by simp) hk⟩
 refine ⟨h.turn h.hi hbw (by rw [oth _ (by simp)]; exact h.hb) (fun r x hx => ?_) (fun r1 r2 x h1 h2 hx => ?_) ⟨ov, dv, tv', kv, vv, hop.hd, hop.objs, hop.ob, hop.doom, hop.told, hop.at'⟩ fun x hx => ?_, ⟨hF.mono fun x hx => ?_, fun x hx => ?_⟩, hop⟩
 ·rcases back r x hx with e | ⟨e, _, e2⟩
  ·exact ⟨.inl e, by have := h.hi r x e; omega⟩
  ·exact ⟨.inr e, (hBt x e2).2⟩
 ·rcases back r1 x h1 with e1 | ⟨_, e1, _⟩
  ·have := h.hi r1 x e1; omega
  ·rcases back r2 x h2 with e2 | ⟨_, e2, _⟩
   ·have := h.hi r2 x e2; omega
   ·rw [e1, e2]
 ·rw [oth _ (by simp), oth _ (by simp)]; exact h.free x hx
 ·rcases hx with rfl | hx
  ·exact .inl ⟨_, h.hb⟩
  ·exact .inl ⟨_, hx⟩
 ·obtain ⟨r, hr⟩ := hx
  rcases back r x hr with e | ⟨e, _⟩
  ·exact .inl ⟨r, e⟩
  ·exact .inr e
def MS.drop (m : MS) (n : Int) : MS := (if (m.at n).watched then m.tell n else m).put n noMO
theorem free_end {w0 : World} (h : RAt base w0 Rb γ m) (hl : m.objs.length ≤ 100000000) (hbw : base ≤ w0.heap.size) (ho : ROpen base w0 Rb γ m ov dv tv kv vv) {n : Int} (hn : 1 ≤ n ∧ n ≤ m.objs.length) {R : Ending → World → Prop} {ρ : Env} (s0 : ρ 0 = ptr Rb) (s1 : ρ 1 = .int .i64 n)
  (hk : ∀ W γ', RAt base W Rb γ' (m.put n noMO) → Turn γ w0 γ' W → R (.returned (.tuple #[])) W) : ir122_k0.wp ⟨Tryz.prog, 33, ir122_V, []⟩ (retK [] R) (ksOf [] R) ρ w0 := by
 have hr := RowO.of ho.objs
 have hw : IntKind.i64.wrap (n - 1) = n - 1 := i64w (by omega)
 have h1 : (0 : Int) ≤ n - 1 := by omega
 have h2 : n - 1 < (m.objs.length : Int) := by omega
 have hlt : (n.toNat - 1) * 7 + 7 ≤ (cellsO kv vv m.objs).length := by
  rw [cellsO_len]
  have : (n.toNat - 1 + 1) * 7 ≤ m.objs.length * 7 := Nat.mul_le_mul_right _ (by omega)
  omega
 simp -implicitDefEqProofs [-wps_asg, -wps_eff, wa2, we2, ir122_k0, s0, s1, ptr, ho.hd.cell, hw, bu145z, hr.is, hr.len, h1, h2, hn.1]
 refine eff_storeRN (base := base) (xs := cellsO kv vv m.objs) (vs := encO (.slice none 0 0) (.slice none 0 0) noMO) (i := (n.toNat - 1) * 7) ho.objs (by rw [encO_len]; exact hlt) (by simp [encO]) (by simp) (by simp [Value.cells]; rfl) (by intro u hu; simp [encO] at hu; rcases hu with rfl | rfl | rfl | rfl | rfl | rfl | rfl <;> rfl) sz145 fun g W hg hO hrow => ?_
 have hγ : γ .map = some g := by rw [← ho.ob]; exact hg
 have hF : Fr (fun k => γ .map = some k) w0 W := Fr.only hO (S := fun k => γ .map = some k) hγ
 have e0 : n.toNat - 1 = (n - 1).toNat := by omega
 rw [e0] at hrow
 obtain ⟨a, b⟩ := h.rowPut h.hi hbw ho hn hF hrow (ka := none) (kb := none) ⟨Own.nil _ _ _ _, rfl⟩ ⟨Own.nil _ _ _ _, rfl⟩ (by simp) (by simp) (by simp)
 simp
 exact hk W _ a ⟨hF.mono fun x hx => .inl ⟨_, hx⟩, b⟩
theorem r_free (h : RAt base w Rb γ m) (hl : m.objs.length ≤ 100000000) (hbw : base ≤ w.heap.size) (htl : m.told.length ≤ 1000000000000) {n : Int} (hn : 1 ≤ n ∧ n ≤ m.objs.length) : Calls Tryz.prog 122 #[ptr Rb, .int .i64 n] w (RpR base w Rb γ (.tuple #[]) (m.drop n)) := by
 obtain ⟨R, hR⟩ : ∃ R, R = RpR base w Rb γ (.tuple #[]) (m.drop n) := ⟨_, rfl⟩
 rw [← hR]
 obtain ⟨ov, dv, tv, kv, vv, ho⟩ := h.opened
 have hr := RowO.of ho.objs
 have hrow := hr.row hn.1 hn.2
 obtain ⟨a1, a2⟩ := ho.at' n hn.1 hn.2
 have hw : IntKind.i64.wrap (n - 1) = n - 1 := i64w (by omega)
 have h1 : (0 : Int) ≤ n - 1 := by omega
 have h2 : n - 1 < (m.objs.length : Int) := by omega
 refine ir122_calls fun ρ r0 r1 => ?_
 simp -implicitDefEqProofs [-wps_asg, -wps_eff, wa2, we2, ir122, r0, r1, ptr, ho.hd.cell, hw, hr.is, hr.len, h1, h2, hn.1, hrow]
 refine eff_copyO (o := m.at n) (by decide) (by simp) (slAt_one a1) (slAt_one a2) fun B W hB hE2 hbl => ?_
 have h2W := h.ext hE2
 have ho2 := ho.ext h hE2
 have zW := hE2.size
 cases hwt : (m.at n).watched with
 | false =>
  have hs : m.drop n = m.put n noMO := by unfold MS.drop; rw [hwt]; rfl
  simp -implicitDefEqProofs [-wps_asg, -wps_eff, wa2, we2, hbl.cell, hwt]
  refine free_end h2W hl (by omega) ho2 hn (by simp [r0]) (by simp [r1]) fun W' γ' hR' hT' => ?_
  rw [hR, hs]
  exact ⟨rfl, γ', hR', (Turn.of hE2).trans hT'⟩
 | true =>
  have hs : m.drop n = (m.tell n).put n noMO := by unfold MS.drop; rw [hwt]; rfl
  have hRl := h.hi _ _ h.hb
  simp -implicitDefEqProofs [-wps_asg, -wps_eff, wa2, we2, hbl.cell, hwt, r0, r1, ptr, ho2.hd.cell]
  refine eff_lit si35 (by decide) (by decide) (by simp [Value.cells]) fun B9 W3 hB9 hE3 hb9 _ => ?_
  simp [Value.cells] at hb9
  have z3 := hE3.size
  have h03 := hE2.trans' hE3
  have ho3 := ho.ext h h03
  have hO9 : Own w.heap.size 3 1 W3 (.slice (some ⟨B9, 0, none⟩) 1 1) [.int .i64 n] := Own.lit hb9 rfl (by omega) (by decide)
  simp -implicitDefEqProofs [-wps_asg, -wps_eff, wa2, we2]
  refine eff_appendG ri35 (base := base) (by omega) (by simp) (by simp) ho3.told.own (own_cells hO9) (by simp; rfl) (by simp; omega) (by simp; omega) fun tv' W4 ho4 hg4 hf4 => ?_
  have hone := own_one ho4
  have hten : ∀ x, tv.ownBlock = some x → γ .en = some x := fun x hx => by rw [← ho.told.blk]; exact hx
  have hhd4 : Blk W4 Rb _ 43 := ⟨(hg4.block Rb (by omega) fun e => h.ne h.hb (hten Rb e.symm) (by simp) rfl).trans (ho3.hd).heap⟩
  simp -implicitDefEqProofs [-wps_asg, -wps_eff, wa2, we2, r0, ptr]
  refine eff_store1 (B := Rb) (i := 5) (by simp) hhd4 (by simp) (by simpa using hone.1) (by simpa using hone.2) sz35 fun W5 hO5 hb5 => ?_
  simp at hb5
  have z4 := hg4.size
  have h3W := h.ext h03
  have hF : Fr (fun k => k = Rb ∨ γ .en = some k) W3 W5 := ((Fr.grown hg4).mono (S' := fun k => k = Rb ∨ γ .en = some k) fun y hy => .inl (.inr (hten y hy))).trans (Fr.only hO5 (S := fun k => k = Rb ∨ γ .en = some k) (.inl rfl)) fun y h => .inl h
  have hlb : ∀ x, tv'.ownBlock = some x → γ .en = some x ∨ W3.heap.size ≤ x := fun x hx => by
   rcases hf4 with e | e
   ·rw [e] at hx; exact .inl (hten x hx)
   ·rw [e] at hx; cases hx; exact .inr (Nat.le_refl _)
  have ht5 : Own base 3 1 W5 tv' ((m.told ++ [n]).map encI) := by
   have := Own.same' ho4 (w' := W5) fun k hk => hO5.block k fun e => by
    subst e
    rcases hlb k hk with e | e
    ·exact h.ne h.hb e (by simp) rfl
    ·omega
   simpa [encI] using this
  obtain ⟨hR5, hT5, ho5⟩ := h3W.tellO ho3 hF hb5 ht5 hlb (by omega)
  have z5 := hT5.1.size
  simp -implicitDefEqProofs [-wps_asg, -wps_eff, wa2, we2]
  refine free_end hR5 hl (by omega) ho5 hn (by simp [r0]) (by simp [r1]) fun W' γ' hR' hT' => ?_
  rw [hR, hs]
  exact ⟨rfl, γ', hR', ((Turn.of h03).trans hT5).trans hT'⟩
end
end Go.L17
namespace Go.L17
open Go Go.Eng Go.RowKit
open Go.Proofs hiding encI
set_option maxRecDepth 100000
set_option maxHeartbeats 2000000
theorem mi143 : makeInfo Tryz.prog 143 = some (4, .bool false, 1) := by kernel_rfl
theorem mz4 : ∀ i z, Tryz.prog.info? 4 = some i → i.zero = some z → z.cells.size = 1 := by
 intro i z hi hz
 have h2 : (Tryz.prog.info? 4).bind (fun i => i.zero) = some (.bool false) := by kernel_rfl
 rw [hi] at h2
 simp only [Option.bind_some] at h2
 rw [hz] at h2
 cases h2; rfl
def outL (N : Nat) (ks : List Int) : List Value := (List.range (N + 1)).map fun i : Nat => .bool (decide ((i : Int) ∈ ks))
theorem outL_len (N : Nat) (ks : List Int) : (outL N ks).length = N + 1 := by simp [outL]
theorem outL_nil (N : Nat) : List.replicate (N + 1) (Value.bool false) = outL N [] := by
 unfold outL
 apply List.ext_getElem
 ·simp
 ·intro i h1 h2; simp
theorem outL_set {N : Nat} {ks : List Int} {n : Int} (h : 0 ≤ n) : (outL N ks).set n.toNat (.bool true) = outL N (ks ++ [n]) := by
 unfold outL
 apply List.ext_getElem
 ·simp
 ·intro i h1 h2
  rw [List.getElem_set]
  by_cases e : n.toNat = i
  ·have e2 : (i : Int) = n := by omega
   rw [if_pos e]; simp [e2]
  ·have e2 : ¬ (i : Int) = n := by omega
   rw [if_neg e]; simp [e2]
theorem outL_get {N : Nat} {ks : List Int} {i : Nat} (h : i < N + 1) : (outL N ks)[i]'(by rw [outL_len]; exact h) = .bool (decide ((i : Int) ∈ ks)) := by simp [outL]
def MO.raw (o : MO) (i : Nat) : List Int := if o.elem = 0 then (((o.kinds.zip o.vals).take i).filter fun p => decide (p.1 = 2)).map (·.2) else if o.elem = 2 then o.vals.take i else []
theorem raw_zero (o : MO) : o.raw 0 = [] := by unfold MO.raw; split <;> simp
theorem raw_all {o : MO} (hk : o.elem = 0 → o.kinds.length = o.vals.length) : (o.raw o.vals.length).filter (fun a => !decide (a = 0)) = o.refs := by
 unfold MO.raw MO.refs
 by_cases h0 : o.elem = 0
 ·rw [if_pos h0, if_pos h0]
  have : (o.kinds.zip o.vals).take o.vals.length = o.kinds.zip o.vals := List.take_of_length_le (by rw [List.length_zip]; omega)
  rw [this, List.filter_map, List.filter_filter]
  congr 1
  apply List.filter_congr
  intro p _
  simp [Bool.and_comm]
 ·rw [if_neg h0, if_neg h0]
  by_cases h2 : o.elem = 2
  ·rw [if_pos h2, if_pos h2, List.take_length]
   apply List.filter_congr
   intro p _
   simp
  ·rw [if_neg h2, if_neg h2]; rfl
theorem raw_succ {o : MO} {i : Nat} (hk : o.elem = 0 → o.kinds.length = o.vals.length) (hi : i < o.vals.length) : o.raw (i + 1) = o.raw i ++ (if o.elem = 2 ∨ (o.elem = 0 ∧ o.kinds.getD i 0 = 2) then [o.vals[i]] else []) := by
 unfold MO.raw
 by_cases h0 : o.elem = 0
 ·have hik : i < o.kinds.length := by have := hk h0; omega
  have hz : (o.kinds.zip o.vals)[i]? = some (o.kinds[i], o.vals[i]) := by rw [List.getElem?_zip_eq_some]; exact ⟨List.getElem?_eq_getElem hik, List.getElem?_eq_getElem hi⟩
  rw [if_pos h0, if_pos h0, List.take_add_one, hz, List.filter_append, List.map_append, getD_get hik]
  congr 1
  by_cases h : o.kinds[i] = 2
  ·rw [if_pos (.inr ⟨h0, h⟩)]; simp [h]
  ·rw [if_neg (by rintro (h2 | h2); omega; exact h h2.2)]; simp [h]
 ·rw [if_neg h0, if_neg h0]
  by_cases h2 : o.elem = 2
  ·rw [if_pos h2, if_pos h2, if_pos (.inl h2), List.take_add_one, List.getElem?_eq_getElem hi]; rfl
  ·rw [if_neg h2, if_neg h2, if_neg (by rintro (h | h); exact h2 h; exact h0 h.1)]; rfl
theorem raw_len (o : MO) (i : Nat) : (o.raw i).length ≤ i := by
 unfold MO.raw
 split
 ·rw [List.length_map]
  exact Nat.le_trans (List.length_filter_le _ _) (by rw [List.length_take]; omega)
 ·split
  ·rw [List.length_take]; omega
  ·simp
def ReachO (w : World) (m : MS) (roots : List Int) : Ending → World → Prop := fun e w' => ∃ x ks, e = .returned x ∧ Own w.heap.size 4 1 w' x (outL m.objs.length ks) ∧ (∀ n, n ∈ ks ↔ m.met roots n = true) ∧ Ext w w'
section
variable {base Rb : Nat} {γ : Lay} {m : MS} {w : World} {ov dv tv : Value} {kv vv : Int → Value}
theorem r_reached (h : RAt base w Rb γ m) (hg : MG m) {v : Value} {roots : List Int} (hsl : Sl encI w v roots) (hlen : roots.length ≤ 1000000) (hroots : ∀ n ∈ roots, n ≠ 0 → m.there n = true) : Calls Tryz.prog 121 #[ptr Rb, v] w (ReachO w m roots) := by
 obtain ⟨R, hR⟩ : ∃ R, R = ReachO w m roots := ⟨_, rfl⟩
 rw [← hR]
 have hl := hg.len
 have hcnt := count_used m
 have hwd := hg.words
 obtain ⟨ov, dv, tv, kv, vv, ho⟩ := h.opened
 have hr := RowO.of ho.objs
 refine ir121_calls fun ρ r0 r1 => ?_
 have r0' : ρ 0 = .pointer (some ⟨Rb, 0, none⟩) := r0
 simp -implicitDefEqProofs [-wps_asg, -wps_eff, wa2, we2, ir121, r0', ho.hd.cell, hr.is, hr.len, i64w (n := (m.objs.length : Int) + 1) (by omega)]
 refine eff_make (n := m.objs.length + 1) mi143 (by simp; rfl) (by simp; rfl) (by omega) (by omega) mz4 fun B W1 hB hE1 hb1 => ?_
 rw [outL_nil] at hb1
 simp -implicitDefEqProofs [-wps_asg, -wps_eff, wa2, we2]
 refine eff_lit si35 (by decide) (by decide) (by simp) fun B3 W2 hB3 hE2 hb3 _ => ?_
 simp at hb3
 have hE02 := hE1.trans' hE2
 simp -implicitDefEqProofs [-wps_asg, -wps_eff, wa2, we2, r1]
 refine eff_copyI (w0 := w) (B := B3) (v := v) (l := roots) (by simp) hb3 (by have := hE1.size; omega) hE02 (by simp) (hsl.ext hE02) (by omega) fun y W3 hy e3 z3 hk3 hf3 => ?_
 have z1 := hE1.size
 have z2 := hE2.size
 have lb1 := hb1.lt
 obtain ⟨xv, hxv⟩ : ∃ xv, xv = Value.slice (some ⟨B, 0, none⟩) (m.objs.length + 1) (m.objs.length + 1) := ⟨_, rfl⟩
 have hxb : xv.ownBlock = some B := by rw [hxv]; rfl
 have hx3 : Own w.heap.size 4 1 W3 xv (outL m.objs.length []) := by
  rw [hxv]
  exact Own.lit (Blk.keep (hb1.ext hE2) (hk3 B (by omega) (by omega))) (by rw [outL_len]; omega) hB (by simp only [maxLen]; omega)
 rw [← hxv]
 have hyB : ∀ k, y.ownBlock = some k → k ≠ B := fun k hk => by
  rcases hf3 with e | e <;> rw [e] at hk <;> cases hk <;> omega
 simp -implicitDefEqProofs [-wps_asg, -wps_eff, wa2, we2]
 obtain ⟨I, hI⟩ : ∃ I : Nat → Env → World → Prop, ∀ n ρ' W, I n ρ' W ↔ (ρ' 0 = .pointer (some ⟨Rb, 0, none⟩) ∧ ρ' 5 = xv ∧ Ext w W ∧ ∃ (ks op : List Int) (lv : Value), ρ' 6 = lv ∧ Own w.heap.size 4 1 W xv (outL m.objs.length ks) ∧ Own w.heap.size 3 1 W lv (op.map encI) ∧ (∀ k, lv.ownBlock = some k → k ≠ B) ∧
  RP m roots ks (op.filter fun a => !decide (a = 0)) ∧ n = 201 * m.un ks + op.length ∧ n ≤ 201 * m.thereL.length + roots.length) := ⟨_, fun _ _ _ => Iff.rfl⟩
 refine loopN I (201 * m.un [] + roots.length) ((hI _ _ _).2 ⟨by simp [r0'], by simp, e3, [], roots, y, by simp, hx3, hy, hyB, RP.start m roots, rfl, by rw [un_nil]; omega⟩) ?_
 intro n ρ' W hi
 obtain ⟨s0, s5, hE, ks, op, lv, s6, hx, hop, hne, hP, hn, hnb⟩ := (hI _ _ _).1 hi
 have hws := hop.sl (enc := encI) (by omega)
 by_cases hop0 : op = []
 ·subst hop0
  have hsl0 : slLen lv = 0 := hws.len
  simp -implicitDefEqProofs [-wps_asg, -wps_eff, wa2, we2, ir121_l5, s6, hws.is, hsl0, ir121_k6, s5]
  rw [hR]
  exact ⟨xv, ks, rfl, hx, hP.done, hE⟩
 have hpos : 0 < op.length := List.length_pos_iff.2 hop0
 obtain ⟨hlast, hsp⟩ := last_mem hop0
 obtain ⟨ref, href⟩ : ∃ ref, ref = op.getLastD 0 := ⟨_, rfl⟩
 rw [← href] at hlast hsp
 have hlI : (0 : Int) < op.length := by omega
 have hw1 : IntKind.i64.wrap ((op.length : Int) - 1) = (op.length : Int) - 1 := i64w (by omega)
 have hge : 0 ≤ (op.length : Int) - 1 := by omega
 have hll : (op.length : Int) - 1 < op.length := by omega
 have h1l : (1 : Int) ≤ (op.length : Int) := by omega
 have hcell := hws.cell (op.length - 1) (by omega)
 have hwl : op[op.length - 1]'(by omega) = ref := by
  rw [href, List.getLastD_eq_getLast?, List.getLast?_eq_getElem?, List.getElem?_eq_getElem (by omega)]; rfl
 rw [hwl] at hcell
 have hcap : op.length ≤ slCap lv := by have := isSl_len_cap hws.is; have := hws.len; omega
 have hcapI : (op.length : Int) - 1 ≤ (slCap lv : Int) := by omega
 have hdl : op.dropLast.length = op.length - 1 := List.length_dropLast
 obtain ⟨Z, hZ⟩ : ∃ Z : Env → World → Prop, Z = fun ρ'' w'' => ∃ m_1, m_1 < n ∧ I m_1 ρ'' w'' := ⟨_, rfl⟩
 rw [← hZ]
 simp -implicitDefEqProofs [-wps_asg, -wps_eff, wa2, we2, ir121_l5, s6, hws.is, hws.len, hlI, hpos, ir121_k4, hw1, hge, hll, h1l, hcell, encI]
 refine eff_lit si35 (by decide) (by decide) (by simp) fun B5 W5 hB5 hE5 hb5 _ => ?_
 simp at hb5
 have hws5 := hws.ext hE5
 have hsub : Sl encI W5 (slSub lv 1 0 (op.length - 1) (slCap lv)) op.dropLast := by
  have := hws5.sub (l := 0) (r := op.length - 1) (m := slCap lv) (by omega) (by omega) (by omega) (Nat.le_refl _)
  rw [List.drop_zero, ← List.dropLast_eq_take] at this
  simpa using this
 have z0 := hE.size
 simp -implicitDefEqProofs [-wps_asg, -wps_eff, wa2, we2, s6, hws5.is, hws5.len, hw1, hge, hll, h1l, hcapI]
 refine eff_copyI (w0 := w) (B := B5) (l := op.dropLast) (by simp) hb5 (by omega) (hE.trans' hE5) (by simp) hsub (by omega) fun y2 W6 hy2 e6 z6 hk6 hf6 => ?_
 have z5 := hE5.size
 have hBW := (Own.blk hx B hxb).2
 have hx6 : Own w.heap.size 4 1 W6 xv (outL m.objs.length ks) := Own.same' (hx.ext hE5) fun k hk => by
  rw [hxb] at hk; cases hk
  exact hk6 B (by omega) (by omega)
 have hy2B : ∀ k, y2.ownBlock = some k → k ≠ B := fun k hk => by
  rcases hf6 with e | e <;> rw [e] at hk <;> cases hk <;> omega
 have hfs : op.filter (fun a => !decide (a = 0)) = op.dropLast.filter (fun a => !decide (a = 0)) ++ (if ref = 0 then [] else [ref]) := by
  conv => lhs; rw [hsp]
  rw [List.filter_append]
  congr 1
  by_cases e : ref = 0 <;> simp [e]
 have hskip : RP m roots ks (op.dropLast.filter fun a => !decide (a = 0)) → ∀ ρ2 : Env, ρ2 0 = .pointer (some ⟨Rb, 0, none⟩) → ρ2 5 = xv → ρ2 6 = y2 → Z ρ2 W6 := by
  intro hP2 ρ2 u0 u5 u6
  rw [hZ]
  exact ⟨201 * m.un ks + op.dropLast.length, by omega, (hI _ _ _).2 ⟨u0, u5, e6, ks, op.dropLast, y2, u6, hx6, hy2, hy2B, hP2, rfl, by omega⟩⟩
 by_cases hr0 : ref = 0
 ·simp -implicitDefEqProofs [-wps_asg, -wps_eff, wa2, we2, hr0]
  refine hskip (by rw [hfs, if_pos hr0, List.append_nil] at hP; exact hP) _ ?_ ?_ ?_ <;> simp [s0, s5]
 rw [hfs, if_neg hr0] at hP
 have hmet := hP.wmet ref (by simp)
 have hth := reach_there hg.wf hroots hmet
 have hb := there_le hth
 have hrt : ref.toNat < m.objs.length + 1 := by omega
 have hxc := (own_cells hx6)
 have hxl : slLen xv = m.objs.length + 1 := by rw [hxv]; rfl
 have hxis := hxc.is
 have hcx := hxc.cell ref.toNat (by rw [outL_len]; exact hrt)
 rw [outL_get hrt] at hcx
 have hrI : (ref.toNat : Int) = ref := by omega
 rw [hrI] at hcx
 have hr1 : (0 : Int) ≤ ref := by omega
 have hr2 : ref < ((m.objs.length + 1 : Nat) : Int) := by omega
 have hr2' : ref < (m.objs.length : Int) + 1 := by omega
 by_cases hin : ref ∈ ks
 ·simp -implicitDefEqProofs [-wps_asg, -wps_eff, wa2, we2, hr0, s5, hxis, hxl, hr1, hr2, hr2', hcx, hin]
  refine hskip (hP.skip hin) _ ?_ ?_ ?_ <;> simp [s0, s5]
 have hun := un_visit hin hth
 simp -implicitDefEqProofs [-wps_asg, -wps_eff, wa2, we2, hr0, s5, hxis, hxl, hr1, hr2, hr2', hcx, hin, ir121_k3]
 refine eff_storeR (base := w.heap.size) (i := ref.toNat) hx6 (by rw [outL_len]; exact hrt) (by simp) (by simp [Value.cells]) (by simp) sz4 fun g W7 hg7 hO7 hx7 => ?_
 simp at hx7
 rw [hxb] at hg7
 cases hg7
 rw [outL_set hr1] at hx7
 have hE7 : Ext w W7 := hO7.ext e6 hB
 have hy7 := Own.same' hy2 (w' := W7) fun k hk => hO7.block k (hy2B k hk)
 have ho7 := ho.ext h hE7
 have hr7 := RowO.of ho7.objs
 have hrow := hr7.row hb.1 hb.2
 obtain ⟨a1, a2⟩ := ho7.at' ref hb.1 hb.2
 have hsm := hg.small ref hth
 have hkl := hg.kinds ref hth
 have hw2 : IntKind.i64.wrap (ref - 1) = ref - 1 := i64w (by omega)
 have hr3 : (0 : Int) ≤ ref - 1 := by omega
 have hr4 : ref - 1 < (m.objs.length : Int) := by omega
 simp -implicitDefEqProofs [-wps_asg, -wps_eff, wa2, we2, s0, ho7.hd.cell, hr7.is, hr7.len, hw2, hr3, hr4, hb.1, hrow]
 refine eff_copyO (o := m.at ref) (by decide) (by simp) (slAt_one a1) (slAt_one a2) fun B8 W8 hB8 hE8 hbl => ?_
 have hvs8 := (a2.sl (enc := encI) (by omega)).ext hE8
 simp -implicitDefEqProofs [-wps_asg, -wps_eff, wa2, we2]
 have hE08 := hE7.trans' hE8
 have z8 := hE8.size
 have z7 := hE7.size
 have hBW7 := (Own.blk hx7 B hxb).2
 obtain ⟨J, hJ⟩ : ∃ J : Nat → Env → World → Prop, ∀ i ρ2 W, J i ρ2 W ↔ ((Ext w W ∧ W.heap[B8]? = W8.heap[B8]? ∧ W.heap[B]? = W8.heap[B]? ∧ W8.heap.size ≤ W.heap.size) ∧ ρ2 0 = .pointer (some ⟨Rb, 0, none⟩) ∧ ρ2 5 = xv ∧ ρ2 8 = .pointer (some ⟨B8, 0, none⟩) ∧ ∃ lv2, ρ2 6 = lv2 ∧ Own w.heap.size 3 1 W lv2 ((op.dropLast ++ (m.at ref).raw i).map encI) ∧ (∀ k, lv2.ownBlock = some k → k ≠ B ∧ k ≠ B8)) := ⟨_, fun _ _ _ => Iff.rfl⟩
 refine loopC 9 (m.at ref).vals.length J (by simp)
  ((hJ _ _ _).2 ⟨⟨hE08, rfl, rfl, Nat.le_refl _⟩, by simp [s0], by simp [s5], by simp, y2, by simp, by rw [raw_zero, List.append_nil]; exact hy7.ext hE8, fun k hk => ⟨hy2B k hk, by have := (Own.blk hy7 k hk).2; omega⟩⟩) ?_
 intro i ρ2 W9 hi9 h9 hj
 obtain ⟨⟨hE09, hk8, hkB, z9⟩, u0, u5, u8, lv2, u6, hl2, hne2⟩ := (hJ _ _ _).1 hj
 obtain ⟨Zi, hZi⟩ : ∃ Zi : Env → World → Prop, Zi = fun ρ'' w'' => i < (m.at ref).vals.length ∧ ρ'' 9 = .int .i64 ((i : Int) + 1) ∧ J (i + 1) ρ'' w'' := ⟨_, rfl⟩
 rw [← hZi]
 have hbl9 : Blk W9 B8 #[.bool (m.at ref).there, .int .i64 (m.at ref).tag, .int .u8 ((m.at ref).elem : Int), kv ref, vv ref, .int .i64 ((m.at ref).age : Int), .bool (m.at ref).watched] 145 := Blk.keep hbl hk8
 have ho9 := ho.ext h hE09
 obtain ⟨b1, b2⟩ := ho9.at' ref hb.1 hb.2
 have hvs9 := b2.sl (enc := encI) (by omega)
 have z09 := hE09.size
 by_cases hlt : i < (m.at ref).vals.length
 rotate_left
 ·have hie : i = (m.at ref).vals.length := by omega
  subst hie
  simp -implicitDefEqProofs [-wps_asg, -wps_eff, wa2, we2, ir121_l2, h9, u8, hbl9.cell, hvs9.is, hvs9.len]
  rw [hZ]
  have hP2 := hP.visit hin
  have hfl : (op.dropLast ++ (m.at ref).raw (m.at ref).vals.length).filter (fun a => !decide (a = 0)) = op.dropLast.filter (fun a => !decide (a = 0)) ++ m.refsOf ref := by
   rw [List.filter_append, raw_all hkl]; rfl
  have hrl := raw_len (m.at ref) (m.at ref).vals.length
  have hne3 : ∀ k, lv2.ownBlock = some k → k ≠ B := fun k hk => (hne2 k hk).1
  refine ⟨201 * m.un (ks ++ [ref]) + (op.dropLast ++ (m.at ref).raw (m.at ref).vals.length).length, by rw [List.length_append]; omega, (hI _ _ _).2 ⟨u0, u5, hE09, ks ++ [ref], _, lv2, u6, ?_, hl2, hne3, by rw [hfl]; exact hP2, rfl, by rw [List.length_append]; omega⟩⟩
  exact Own.same' (hx7.ext hE8) fun k hk => by rw [hxb] at hk; cases hk; exact hkB
 ·have hks8 : (m.at ref).elem = 0 → Sl encU W9 (kv ref) (m.at ref).kinds := fun he => b1.sl (enc := encU) (by have := hkl he; omega)
  have hrs := raw_succ hkl hlt
  have hrl := raw_len (m.at ref) i
  have hcv := hvs9.cell i hlt
  have hyes : ((m.at ref).elem = 2 ∨ ((m.at ref).elem = 0 ∧ (m.at ref).kinds.getD i 0 = 2)) → ∀ ρ3 : Env, ρ3 0 = .pointer (some ⟨Rb, 0, none⟩) → ρ3 5 = xv → ρ3 8 = .pointer (some ⟨B8, 0, none⟩) → ρ3 6 = lv2 → ρ3 9 = .int .i64 i → ρ3 78 = lv2 → ρ3 83 = .int .i64 (m.at ref).vals[i] → ∀ (Q : Ks) (K : Env → World → Prop), (∀ ρ4 W4, ρ4 0 = .pointer (some ⟨Rb, 0, none⟩) → ρ4 5 = xv → ρ4 8 = .pointer (some ⟨B8, 0, none⟩) → ρ4 9 = .int .i64 i → (Ext w W4 ∧ W4.heap[B8]? = W8.heap[B8]? ∧ W4.heap[B]? = W8.heap[B]? ∧ W8.heap.size ≤ W4.heap.size) → (∃ lv3, ρ4 6 = lv3 ∧ Own w.heap.size 3 1 W4 lv3 ((op.dropLast ++ (m.at ref).raw (i + 1)).map encI) ∧ (∀ k, lv3.ownBlock = some k → k ≠ B ∧ k ≠ B8)) → K ρ4 W4) →
    effW Tryz.prog Q (some 84) (.buildSlice 35 1 #[(0, (.tmp 83))]) 35 (wps Tryz.prog Q [.eff none (some 85) (.call { callee := .builtin .append, args := #[(.tmp 78), (.tmp 84)], argTypes := #[35, 35] }) 35, .asg none 6 (.var 85)] K) ρ3 W9 := by
   intro hc ρ3 v0 v5 v8 v6 v9 v78 v83 Q K hK
   refine eff_lit si35 (by decide) (by decide) (by simp [Value.cells, v83]) fun Bx Wx hBx hEx hbx _ => ?_
   simp [Value.cells, v83] at hbx
   have zx := hEx.size
   have hOx : Own w.heap.size 3 1 Wx (.slice (some ⟨Bx, 0, none⟩) 1 1) [.int .i64 (m.at ref).vals[i]] := Own.lit hbx rfl (by omega) (by decide)
   have hlx := hl2.ext hEx
   have hlen2 : ((op.dropLast ++ (m.at ref).raw i).map encI).length ≤ 1000000000 := by rw [List.length_map, List.length_append]; omega
   simp -implicitDefEqProofs [-wps_asg, -wps_eff, wa2, we2]
   refine eff_appendG ri35 (base := w.heap.size) (by omega) (by simpa using v78) (by simp) hlx (own_cells hOx) (by simp; rfl) (by simp at hlen2 ⊢; omega) (by simp at hlen2 ⊢; omega) fun lv3 Wy hly hgy hfy => ?_
   simp -implicitDefEqProofs [-wps_asg, -wps_eff, wa2, we2]
   have hEy : Ext w Wy := (Fr.grown hgy).ext (hE09.trans' hEx) fun k hk => (Own.blk hl2 k hk).1
   have zy := hgy.size
   have lbl8 := hbl.lt
   have hkeep : ∀ k, k < W9.heap.size → lv2.ownBlock ≠ some k → Wy.heap[k]? = W9.heap[k]? := fun k hk1 hk2 => (hgy.block k (by omega) fun e => hk2 e.symm).trans (hEx.block k hk1)
   refine hK _ Wy (by simp [v0]) (by simp [v5]) (by simp [v8]) (by simp [v9]) ⟨hEy, (hkeep B8 (by omega) fun e => (hne2 _ e).2 rfl).trans hk8, (hkeep B (by omega) fun e => (hne2 _ e).1 rfl).trans hkB, by omega⟩ ⟨lv3, by simp, ?_, fun k hk => ?_⟩
   ·rw [hrs, if_pos hc, ← List.append_assoc, List.map_append]
    simpa [encI] using hly
   ·rcases hfy with e | e
    ·rw [e] at hk; exact hne2 k hk
    ·rw [e] at hk; cases hk; exact ⟨by omega, by omega⟩
  have hstep : ∀ ρ4 W4, ρ4 0 = .pointer (some ⟨Rb, 0, none⟩) → ρ4 5 = xv → ρ4 8 = .pointer (some ⟨B8, 0, none⟩) → ρ4 9 = .int .i64 i → (Ext w W4 ∧ W4.heap[B8]? = W8.heap[B8]? ∧ W4.heap[B]? = W8.heap[B]? ∧ W8.heap.size ≤ W4.heap.size) → (∃ lv3, ρ4 6 = lv3 ∧ Own w.heap.size 3 1 W4 lv3 ((op.dropLast ++ (m.at ref).raw (i + 1)).map encI) ∧ (∀ k, lv3.ownBlock = some k → k ≠ B ∧ k ≠ B8)) → ∀ Q : Ks,
    ir121_k0.wp ⟨Tryz.prog, 87, ir121_V, []⟩ Zi Q ρ4 W4 := by
   rintro ρ4 W4 v0 v5 v8 v9 hE4 ⟨lv3, v6, hl3, hn3⟩ Q
   simp -implicitDefEqProofs [-wps_asg, -wps_eff, wa2, we2, ir121_k0, v9, i64w (n := (i : Int) + 1) (by omega), -List.map_append]
   rw [hZi]
   exact ⟨hlt, by simp, (hJ _ _ _).2 ⟨hE4, by simp [v0], by simp [v5], by simp [v8], lv3, by simp [v6], hl3, hn3⟩⟩
  have hel := hg.elem ref hth
  have hpass : ¬ ((m.at ref).elem = 2 ∨ ((m.at ref).elem = 0 ∧ (m.at ref).kinds.getD i 0 = 2)) → ∃ lv3, lv2 = lv3 ∧ Own w.heap.size 3 1 W9 lv3 ((op.dropLast ++ (m.at ref).raw (i + 1)).map encI) ∧ (∀ k, lv3.ownBlock = some k → k ≠ B ∧ k ≠ B8) := fun hc => ⟨lv2, rfl, by rw [hrs, if_neg hc, List.append_nil]; exact hl2, hne2⟩
  have hE9' : Ext w W9 ∧ W9.heap[B8]? = W8.heap[B8]? ∧ W9.heap[B]? = W8.heap[B]? ∧ W8.heap.size ≤ W9.heap.size := ⟨hE09, hk8, hkB, z9⟩
  by_cases he2 : (m.at ref).elem = 2
  ·simp -implicitDefEqProofs [-wps_asg, -wps_eff, wa2, we2, ir121_l2, h9, u8, hbl9.cell, hvs9.is, hvs9.len, hlt, ir121_k1, he2, hcv, encI, -List.map_append]
   refine hyes (.inl he2) _ ?_ ?_ ?_ ?_ ?_ ?_ ?_ _ _ fun ρ4 W4 v0 v5 v8 v9 e1 hl3 => hstep ρ4 W4 v0 v5 v8 v9 e1 hl3 _ <;> simp [u0, u5, u8, u6, h9]
  ·by_cases he0 : (m.at ref).elem = 0
   ·have hik : i < (m.at ref).kinds.length := by have := hkl he0; omega
    have hks9 := hks8 he0
    have hck := hks9.cell i hik
    have hgd : (m.at ref).kinds.getD i 0 = (m.at ref).kinds[i] := getD_get hik
    by_cases hk2 : (m.at ref).kinds[i] = 2
    ·have hck2 : W9.cell? (slAddr (kv ref) i) = some (.int .u8 2) := by rw [hck, hk2]; rfl
     simp -implicitDefEqProofs [-wps_asg, -wps_eff, wa2, we2, ir121_l2, h9, u8, hbl9.cell, hvs9.is, hvs9.len, hlt, ir121_k1, he0, hks9.is, hks9.len, hik, hck2, hcv, encI, -List.map_append]
     refine hyes (.inr ⟨he0, by rw [hgd]; exact hk2⟩) _ ?_ ?_ ?_ ?_ ?_ ?_ ?_ _ _ fun ρ4 W4 v0 v5 v8 v9 e1 hl3 => hstep ρ4 W4 v0 v5 v8 v9 e1 hl3 _ <;> simp [u0, u5, u8, u6, h9]
    ·have hk2' : ¬ ((m.at ref).kinds[i] : Int) = 2 := by omega
     have hck2 : W9.cell? (slAddr (kv ref) i) = some (.int .u8 ((m.at ref).kinds[i] : Int)) := hck
     simp -implicitDefEqProofs [-wps_asg, -wps_eff, wa2, we2, ir121_l2, h9, u8, hbl9.cell, hvs9.is, hvs9.len, hlt, ir121_k1, he0, hks9.is, hks9.len, hik, hck2, hk2', -List.map_append]
     obtain ⟨lv3, v6, hl3, hn3⟩ := hpass (by rintro (e | e); exact he2 e; exact hk2 (by rw [← hgd]; exact e.2))
     refine hstep _ W9 ?_ ?_ ?_ ?_ hE9' ⟨lv3, ?_, hl3, hn3⟩ _ <;> simp [u0, u5, u8, u6, h9, v6]
   ·have he2' : ¬ ((m.at ref).elem : Int) = 2 := by omega
    have he0' : ¬ ((m.at ref).elem : Int) = 0 := by omega
    simp -implicitDefEqProofs [-wps_asg, -wps_eff, wa2, we2, ir121_l2, h9, u8, hbl9.cell, hvs9.is, hvs9.len, hlt, ir121_k1, he0, he2, he2', he0', -List.map_append]
    obtain ⟨lv3, v6, hl3, hn3⟩ := hpass (by rintro (e | e); exact he2 e; exact he0 e.1)
    refine hstep _ W9 ?_ ?_ ?_ ?_ hE9' ⟨lv3, ?_, hl3, hn3⟩ _ <;> simp [u0, u5, u8, u6, h9, v6]
end
end Go.L17
namespace Go.L17
open Go Go.Eng Go.RowKit
open Go.Proofs hiding encI
set_option maxRecDepth 100000
set_option maxHeartbeats 2000000
section
variable {cx : Cx} {K : Env → World → Prop} {Q : Ks} {ρ : Env} {w : World}
theorem loopF (s n k0 : Nat) (I : Nat → Env → World → Prop) {a : IR} (h00 : ρ s = .int .i64 (k0 : Int)) (hk : k0 ≤ n) (h0 : I k0 ρ w)
  (h : ∀ (k : Nat) (ρ' : Env) (w' : World), k0 ≤ k → k ≤ n → ρ' s = .int .i64 (k : Int) → I k ρ' w' → a.wp cx (fun ρ'' w'' => k < n ∧ ρ'' s = .int .i64 ((k : Int) + 1) ∧ I (k + 1) ρ'' w'') Q ρ' w') : (IR.loop a).wp cx K Q ρ w := by
 refine loopN (fun j ρ' w' => ∃ k : Nat, k0 ≤ k ∧ k ≤ n ∧ j = n - k ∧ ρ' s = .int .i64 (k : Int) ∧ I k ρ' w') (n - k0) ⟨k0, Nat.le_refl _, hk, rfl, h00, h0⟩ ?_
 rintro j ρ' w' ⟨k, h1, h2, rfl, h3, h4⟩
 refine IR.wp_mono (h k ρ' w' h1 h2 h3 h4) ?_ (fun _ _ _ h => h) (fun _ _ h => h) (fun _ _ _ h => h) (fun h => h) ⟨fun h => h, fun h => h⟩
 rintro ρ'' w'' ⟨a1, a2, a3⟩
 exact ⟨n - (k + 1), by omega, k + 1, by omega, by omega, rfl, by rw [a2]; simp, a3⟩
end
section
variable {base Rb : Nat} {γ : Lay} {m m' : MS} {w w' : World} {ov dv tv : Value} {kv vv : Int → Value}
theorem RAt.hdr (h : RAt base w Rb γ m) (hbw : base ≤ w.heap.size) (ho : ROpen base w Rb γ m ov dv tv kv vv) (hobjs : m'.objs = m.objs) {dv' tv' : Value} {kd kt : Option Nat} (hF : Fr (fun k => k = Rb ∨ γ .gr = some k ∨ γ .en = some k) w w')
  (hd : Blk w' Rb #[.int .i64 m'.words, ov, .bool m'.on, dv', .int .i64 m'.owed, tv'] 43) (hdm : SlAt base 3 w' dv' (m'.doomed.map encI) kd) (htl : SlAt base 3 w' tv' (m'.told.map encI) kt) (hkd : ∀ x, kd = some x → γ .gr = some x ∨ w.heap.size ≤ x) (hkt : ∀ x, kt = some x → γ .en = some x ∨ w.heap.size ≤ x)
  (hdis : ∀ x, kd = some x → kt ≠ some x) : RAt base w' Rb (updR (updR γ .gr kd) .en kt) m' ∧ Turn γ w (updR (updR γ .gr kd) .en kt) w' ∧ ROpen base w' Rb (updR (updR γ .gr kd) .en kt) m' ov dv' tv' kv vv := by
 have hz := hF.size
 have hBd := Own.blk hdm.own
 have hBt := Own.blk htl.own
 have st : ∀ r x, r ≠ .heap → r ≠ .gr → r ≠ .en → γ r = some x → w'.heap[x]? = w.heap[x]? := fun r x h1 h2 h3 hx => hF.block x (h.hi r x hx) fun e => by
  rcases e with e | e | e
  ·exact h.ne hx h.hb h1 e
  ·exact h.ne hx e h2 rfl
  ·exact h.ne hx e h3 rfl
 have oth : ∀ r, r ≠ .gr → r ≠ .en → updR (updR γ .gr kd) .en kt r = γ r := fun r h1 h2 => by rw [updR_ne h2, updR_ne h1]
 have back : ∀ r x, updR (updR γ .gr kd) .en kt r = some x → γ r = some x ∨ (w.heap.size ≤ x ∧ ((r = .gr ∧ kd = some x) ∨ (r = .en ∧ kt = some x))) := by
  intro r x hx
  rcases updR_some hx with ⟨rfl, e⟩ | ⟨_, hx⟩
  ·rcases hkt x e with e2 | e2
   ·exact .inl e2
   ·exact .inr ⟨e2, .inr ⟨rfl, e⟩⟩
  ·rcases updR_some hx with ⟨rfl, e⟩ | ⟨_, hx⟩
   ·rcases hkd x e with e2 | e2
    ·exact .inl e2
    ·exact .inr ⟨e2, .inl ⟨rfl, e⟩⟩
   ·exact .inl hx
 have hop : ROpen base w' Rb (updR (updR γ .gr kd) .en kt) m' ov dv' tv' kv vv := by
  refine ⟨hd, by rw [hobjs]; exact Own.same' ho.objs fun k hk => st .map k (by simp) (by simp) (by simp) (by rw [← ho.ob]; exact hk), by rw [oth _ (by simp) (by simp)]; exact ho.ob, by rw [updR_ne (by simp), updR_self]; exact hdm, by rw [updR_self]; exact htl, fun x h1 h2 => ?_⟩
  rw [hobjs] at h2
  rw [oth _ (by simp) (by simp), oth _ (by simp) (by simp), at_objs hobjs]
  obtain ⟨a1, a2⟩ := ho.at' x h1 h2
  exact ⟨a1.keep fun k hk => st _ k (by simp) (by simp) (by simp) hk, a2.keep fun k hk => st _ k (by simp) (by simp) (by simp) hk⟩
 refine ⟨h.turn h.hi hbw (by rw [oth _ (by simp) (by simp)]; exact h.hb) (fun r x hx => ?_) (fun r1 r2 x h1 h2 hx => ?_) ⟨ov, dv', tv', kv, vv, hop.hd, hop.objs, hop.ob, hop.doom, hop.told, hop.at'⟩ fun x hx => ?_, ⟨hF.mono fun x hx => ?_, fun x hx => ?_⟩, hop⟩
 ·rcases back r x hx with e | ⟨e, ⟨rfl, e2⟩ | ⟨rfl, e2⟩⟩
  ·exact ⟨.inl e, by have := h.hi r x e; omega⟩
  ·exact ⟨.inr e, (hBd x (by rw [hdm.blk]; exact e2)).2⟩
  ·exact ⟨.inr e, (hBt x (by rw [htl.blk]; exact e2)).2⟩
 ·rcases back r1 x h1 with e1 | ⟨_, e1⟩
  ·have := h.hi r1 x e1; omega
  ·rcases back r2 x h2 with e2 | ⟨_, e2⟩
   ·have := h.hi r2 x e2; omega
   ·rcases e1 with ⟨rfl, e1⟩ | ⟨rfl, e1⟩ <;> rcases e2 with ⟨rfl, e2⟩ | ⟨rfl, e2⟩
    ·rfl
    ·exact absurd e2 (hdis x e1)
    ·exact absurd e1 (hdis x e2)
    ·rfl
 ·rw [hobjs] at hx
  rw [oth _ (by simp) (by simp), oth _ (by simp) (by simp)]; exact h.free x hx
 ·rcases hx with rfl | hx | hx
  ·exact .inl ⟨_, h.hb⟩
  ·exact .inl ⟨_, hx⟩
  ·exact .inl ⟨_, hx⟩
 ·obtain ⟨r, hr⟩ := hx
  rcases back r x hr with e | ⟨e, _⟩
  ·exact .inl ⟨r, e⟩
  ·exact .inr e
def upto (k : Nat) : List Int := (List.range k).map fun i : Nat => ((i : Int) + 1)
theorem upto_succ (k : Nat) : upto (k + 1) = upto k ++ [(k : Int) + 1] := by unfold upto; rw [List.range_succ, List.map_append]; rfl
theorem upto_len (k : Nat) : (upto k).length = k := by simp [upto]
theorem nums_upto (m : MS) : m.nums = upto m.objs.length := rfl
theorem r_Reached (h : RAt base w Rb γ m) (hg : MG m) {v : Value} {roots : List Int} (hs : Sl encI w v roots) :
  Calls Tryz.prog 73 #[ptr Rb, v] w fun e w' => ∃ x, e = .returned (.tuple #[x, .int .i64 (m.reached roots).2]) ∧ Own w.heap.size 3 1 w' x ((m.reached roots).1.map encI) ∧ Ext w w' := by
 obtain ⟨R, hR⟩ : ∃ R : Ending → World → Prop, R = fun e w' => ∃ x, e = .returned (.tuple #[x, .int .i64 (m.reached roots).2]) ∧ Own w.heap.size 3 1 w' x ((m.reached roots).1.map encI) ∧ Ext w w' := ⟨_, rfl⟩
 rw [← hR]
 have hl := hg.len
 refine ir73_calls fun ρ r0 r1 => ?_
 simp -implicitDefEqProofs [-wps_asg, -wps_eff, wa2, we2, ir73, r0, r1]
 refine (r_rooted h hl hs).mono ?_
 rintro _ w1 ⟨rfl, rfl⟩
 by_cases he : m.rootE roots = 0
 rotate_left
 ·have hsr : m.reached roots = ([], m.rootE roots) := by simp [MS.reached, he]
  simp -implicitDefEqProofs [-wps_asg, -wps_eff, wa2, we2, he]
  rw [hR, hsr]
  exact ⟨_, rfl, Own.nil _ _ _ _, ext_refl _⟩
 have hrl := root_len he
 have hsr : m.reached roots = (m.nums.filter (m.met roots), 0) := by simp [MS.reached, he]
 simp -implicitDefEqProofs [-wps_asg, -wps_eff, wa2, we2, he, ir73_k4, r0, r1]
 refine (r_reached h hg hs (by omega) (roots_there he)).mono ?_
 rintro _ W ⟨x, ks, rfl, hx, hks, hE⟩
 have hxc := own_cells hx
 have hxl : slLen x = m.objs.length + 1 := by have := hxc.len; rw [outL_len] at this; omega
 have hxlI : (slLen x : Int) = (m.objs.length : Int) + 1 := by omega
 have z := hE.size
 simp -implicitDefEqProofs [-wps_asg, -wps_eff, wa2, we2]
 obtain ⟨I, hI⟩ : ∃ I : Nat → Env → World → Prop, ∀ k ρ' W', I k ρ' W' ↔ (ρ' 7 = x ∧ W.heap.size ≤ W'.heap.size ∧ Ext w1 W' ∧ (∀ b, x.ownBlock = some b → W'.heap[b]? = W.heap[b]?) ∧ ∃ lv, ρ' 8 = lv ∧ Own w1.heap.size 3 1 W' lv (((upto (k - 1)).filter (m.met roots)).map encI) ∧ ∀ b, lv.ownBlock = some b → x.ownBlock ≠ some b) := ⟨_, fun _ _ _ => Iff.rfl⟩
 refine loopF 9 (m.objs.length + 1) 1 I (by simp) (by omega) ((hI _ _ _).2 ⟨by simp, Nat.le_refl _, hE, fun _ _ => rfl, .slice none 0 0, by simp, by simpa [upto] using Own.nil _ _ _ _, by simp [Value.ownBlock]⟩) ?_
 intro k ρ' W' hk1 hk2 h9 hi
 obtain ⟨s7, zW, hEW, hxW, lv, s8, hlv, hne⟩ := (hI _ _ _).1 hi
 have hx' : Own w1.heap.size 4 1 W' x (outL m.objs.length ks) := Own.same' hx hxW
 have hxc' := own_cells hx'
 by_cases hlt : k < m.objs.length + 1
 rotate_left
 ·have hke : k = m.objs.length + 1 := by omega
  subst hke
  simp -implicitDefEqProofs [-wps_asg, -wps_eff, wa2, we2, ir73_l2, h9, s7, hxc'.is, hxl, ir73_k3, s8]
  rw [hR, hsr]
  exact ⟨lv, rfl, by rw [nums_upto]; exact hlv, hEW⟩
 have hc := hxc'.cell k (by rw [outL_len]; exact hlt)
 rw [outL_get hlt] at hc
 have hltI : (k : Int) < (m.objs.length : Int) + 1 := by omega
 have hup : upto (k + 1 - 1) = upto (k - 1) ++ [(k : Int)] := by
  have h1 : k + 1 - 1 = (k - 1) + 1 := by omega
  have h2 : ((k - 1 : Nat) : Int) + 1 = (k : Int) := by omega
  rw [h1, upto_succ, h2]
 have hdec : decide ((k : Int) ∈ ks) = m.met roots k := by
  rw [Bool.eq_iff_iff]; simp [hks]
 have hwk : IntKind.i64.wrap ((k : Int) + 1) = (k : Int) + 1 := i64w (by omega)
 obtain ⟨Z, hZ⟩ : ∃ Z : Env → World → Prop, Z = fun ρ'' w'' => k < m.objs.length + 1 ∧ ρ'' 9 = .int .i64 ((k : Int) + 1) ∧ I (k + 1) ρ'' w'' := ⟨_, rfl⟩
 rw [← hZ]
 rw [hdec] at hc
 cases hm : m.met roots k with
 | false =>
  rw [hm] at hc
  simp -implicitDefEqProofs [-wps_asg, -wps_eff, wa2, we2, ir73_l2, h9, s7, hxc'.is, hxl, hlt, hltI, ir73_k1, hc, ir73_k0, hwk]
  rw [hZ]
  exact ⟨hlt, by simp, (hI _ _ _).2 ⟨by simp [s7], zW, hEW, hxW, lv, by simp [s8], by rw [hup, List.filter_append]; simpa [hm] using hlv, hne⟩⟩
 | true =>
  rw [hm] at hc
  simp -implicitDefEqProofs [-wps_asg, -wps_eff, wa2, we2, ir73_l2, h9, s7, hxc'.is, hxl, hlt, hltI, ir73_k1, hc, s8]
  refine eff_lit si35 (by decide) (by decide) (by simp [Value.cells]) fun Bx Wx hBx hEx hbx _ => ?_
  simp [Value.cells] at hbx
  have zx := hEx.size
  have z0 := hEW.size
  have hOx : Own w1.heap.size 3 1 Wx (.slice (some ⟨Bx, 0, none⟩) 1 1) [.int .i64 k] := Own.lit hbx rfl (by omega) (by decide)
  have hlen2 : (((upto (k - 1)).filter (m.met roots)).map encI).length ≤ 1000000000 := by
   rw [List.length_map]
   have := List.length_filter_le (m.met roots) (upto (k - 1))
   rw [upto_len] at this; omega
  simp -implicitDefEqProofs [-wps_asg, -wps_eff, wa2, we2]
  refine eff_appendG ri35 (base := w1.heap.size) (by omega) (by simp) (by simp) (hlv.ext hEx) (own_cells hOx) (by simp; rfl) (by simp at hlen2 ⊢; omega) (by simp at hlen2 ⊢; omega) fun lv3 Wy hly hgy hfy => ?_
  have zy := hgy.size
  have hEy : Ext w1 Wy := (Fr.grown hgy).ext (hEW.trans' hEx) fun b hb => (Own.blk hlv b hb).1
  simp -implicitDefEqProofs [-wps_asg, -wps_eff, wa2, we2, ir73_k0, h9, hwk]
  rw [hZ]
  refine ⟨hlt, by simp, (hI _ _ _).2 ⟨by simp [s7], by omega, hEy, fun b hb => ?_, lv3, by simp, ?_, fun b hb e => ?_⟩⟩
  ·have hbl := (Own.blk hx b hb).2
   exact ((hgy.block b (by omega) fun e => hne b e.symm hb).trans (hEx.block b (by omega))).trans (hxW b hb)
  ·rw [hup, List.filter_append, List.map_append]
   simpa [hm, encI] using hly
  ·rcases hfy with e2 | e2
   ·rw [e2] at hb; exact hne b hb e
   ·rw [e2] at hb; cases hb
    have := (Own.blk hx _ e).2
    omega
end
end Go.L17
namespace Go.L17
open Go Go.Eng Go.RowKit
open Go.Proofs hiding encI
set_option maxRecDepth 100000
set_option maxHeartbeats 2000000
theorem upto_nodup (k : Nat) : (upto k).Nodup := by
 unfold upto
 rw [List.Nodup, List.pairwise_map]
 exact List.nodup_range.imp fun h e => h (by omega)
section
variable {base Rb : Nat} {γ : Lay} {m m' : MS} {w w' : World} {ov dv tv : Value} {kv vv : Int → Value}
theorem eff_push1 {Q : Ks} {K : Env → World → Prop} {ρ : Env} {w w0 : World} {d : Nat} {ty : TypeId} {s x : Operand} {B : Nat} {v : Value} {l : List Int} {n : Int} (hE : Ext w0 w) (hl : Own w0.heap.size 3 1 w v (l.map encI)) (hlen : l.length ≤ 1000000000) (hs : evE ρ s = v) (hx : evE ρ x = .slice (some ⟨B, 0, none⟩) 1 1) (hb : Blk w B #[.int .i64 n] 3) (hB : w0.heap.size ≤ B)
  (h : ∀ v' W, Own w0.heap.size 3 1 W v' ((l ++ [n]).map encI) → Ext w0 W → w.heap.size ≤ W.heap.size → (∀ b, b < w.heap.size → v.ownBlock ≠ some b → W.heap[b]? = w.heap[b]?) → (∀ b, v'.ownBlock = some b → v.ownBlock = some b ∨ w.heap.size ≤ b) → K (upd ρ d v') W) : effW Tryz.prog Q (some d) (.call { callee := .builtin .append, args := #[s, x], argTypes := #[35, 35] }) ty K ρ w := by
 have z := hE.size
 have hO : Own w0.heap.size 3 1 w (.slice (some ⟨B, 0, none⟩) 1 1) [.int .i64 n] := Own.lit hb rfl hB (by decide)
 refine eff_appendG ri35 (base := w0.heap.size) z hs hx hl (own_cells hO) (by simp; rfl) (by simp; omega) (by simp; omega) fun v' W hv hg hf => ?_
 refine h v' W (by rw [List.map_append]; exact hv) ((Fr.grown hg).ext hE fun b hb => (Own.blk hl b hb).1) hg.size (fun b hb hne => hg.block b hb fun e => hne e.symm) fun b hb => ?_
 rcases hf with e | e
 ·rw [e] at hb; exact .inl hb
 ·rw [e] at hb; cases hb; exact .inr (Nat.le_refl _)
theorem r_Ended (h : RAt base w Rb γ m) (hbw : base ≤ w.heap.size) (hl : m.objs.length ≤ 1000) (htl : m.told.length ≤ 100000) : Calls Tryz.prog 75 #[ptr Rb] w fun e w' => ∃ x, e = .returned x ∧ Own w.heap.size 3 1 w' x (m.ended.1.map encI) ∧ ∃ γ', RAt base w' Rb γ' m.ended.2 ∧ Turn γ w γ' w' ∧ ∀ b, x.ownBlock = some b → ¬ γ'.has b := by
 obtain ⟨R, hR⟩ : ∃ R : Ending → World → Prop, R = fun e w' => ∃ x, e = .returned x ∧ Own w.heap.size 3 1 w' x (m.ended.1.map encI) ∧ ∃ γ', RAt base w' Rb γ' m.ended.2 ∧ Turn γ w γ' w' ∧ ∀ b, x.ownBlock = some b → ¬ γ'.has b := ⟨_, rfl⟩
 rw [← hR]
 obtain ⟨ov, dv, tv, kv, vv, ho⟩ := h.opened
 obtain ⟨f, hf⟩ : ∃ f : Int → List Int, f = fun n => m.told.filter fun k => decide (k = n) := ⟨_, rfl⟩
 have hfl : ∀ n, (f n).length ≤ m.told.length := fun n => by rw [hf]; exact List.length_filter_le _ _
 have hFl : ∀ k, ((upto k).flatMap f).length ≤ m.told.length := by
  intro k
  have hp := flat_perm m.told (l := upto k) (upto_nodup k)
  rw [hf, hp.length_eq]
  exact List.length_filter_le _ _
 have hRl := h.hi _ _ h.hb
 refine ir75_calls fun ρ r0 => ?_
 simp -implicitDefEqProofs [-wps_asg, -wps_eff, wa2, we2, ir75]
 obtain ⟨I, hI⟩ : ∃ I : Nat → Env → World → Prop, ∀ k ρ' W', I k ρ' W' ↔ (ρ' 0 = ptr Rb ∧ Ext w W' ∧ ∃ lv, ρ' 3 = lv ∧ Own w.heap.size 3 1 W' lv (((upto (k - 1)).flatMap f).map encI)) := ⟨_, fun _ _ _ => Iff.rfl⟩
 refine loopF 4 (m.objs.length + 1) 1 I (by rfl) (by omega) ((hI _ _ _).2 ⟨by simp [r0], ext_refl _, .slice none 0 0, by rfl, by simpa [upto] using Own.nil _ _ _ _⟩) ?_
 intro k ρ' W' hk1 hk2 h4 hi
 obtain ⟨s0, hE, lv, s3, hlv⟩ := (hI _ _ _).1 hi
 have s0' : ρ' 0 = .pointer (some ⟨Rb, 0, none⟩) := s0
 have ho' := ho.ext h hE
 have hr' := RowO.of ho'.objs
 have z := hE.size
 by_cases hlt : k < m.objs.length + 1
 rotate_left
 ·have hke : k = m.objs.length + 1 := by omega
  subst hke
  have hnl : ¬ ((m.objs.length : Int) + 1 ≤ m.objs.length) := by omega
  simp -implicitDefEqProofs [-wps_asg, -wps_eff, wa2, we2, ir75_l5, h4, s0', ho'.hd.cell, hr'.is, hr'.len, ir75_k6, hnl]
  refine eff_store1 (B := Rb) (i := 5) (by simp) ho'.hd (by simp) rfl rfl sz35 fun W2 hO2 hb2 => ?_
  simp at hb2
  simp -implicitDefEqProofs [-wps_asg, -wps_eff, wa2, we2, s3]
  have hW := h.ext hE
  have hlv2 := Own.same' hlv (w' := W2) fun b hb => hO2.block b (by have := (Own.blk hlv b hb).1; omega)
  have hdm2 := ho'.doom.keep (w' := W2) fun b hb => hO2.block b (h.ne hb h.hb (by simp))
  obtain ⟨a1, a2, a3⟩ := hW.hdr (m' := m.ended.2) (by omega) ho' rfl (kd := γ .gr) (kt := none) (Fr.only hO2 (.inl rfl)) hb2 hdm2 ⟨Own.nil _ _ _ _, rfl⟩ (fun x hx => .inl hx) (by simp) (by simp)
  rw [hR]
  refine ⟨lv, rfl, ?_, _, a1, (Turn.of hE).trans a2, fun b hb hh => ?_⟩
  ·have : m.ended.1 = (upto (m.objs.length + 1 - 1)).flatMap f := by rw [hf]; rfl
   rw [this]; exact hlv2
  ·obtain ⟨r, hr⟩ := hh
   have h1 := (Own.blk hlv b hb).1
   rcases updR_some hr with ⟨_, e⟩ | ⟨_, hr⟩
   ·cases e
   ·rcases updR_some hr with ⟨_, e⟩ | ⟨_, hr⟩
    ·have := h.hi _ _ e; omega
    ·have := h.hi _ _ hr; omega
 have hltI : (k : Int) ≤ (m.objs.length : Int) := by omega
 have htls := ho'.told.sl (enc := encI) (by omega)
 obtain ⟨Z, hZ⟩ : ∃ Z : Env → World → Prop, Z = fun ρ'' w'' => k < m.objs.length + 1 ∧ ρ'' 4 = .int .i64 ((k : Int) + 1) ∧ I (k + 1) ρ'' w'' := ⟨_, rfl⟩
 rw [← hZ]
 have hup : upto (k + 1 - 1) = upto (k - 1) ++ [(k : Int)] := by
  have h1 : k + 1 - 1 = (k - 1) + 1 := by omega
  have h2 : ((k - 1 : Nat) : Int) + 1 = (k : Int) := by omega
  rw [h1, upto_succ, h2]
 have hbdk : ((upto (k - 1)).flatMap f).length ≤ 1000000000 - 100000 - 1 := by
  have h1 := hFl (k - 1)
  omega
 simp -implicitDefEqProofs [-wps_asg, -wps_eff, wa2, we2, ir75_l5, h4, s0', ho'.hd.cell, hr'.is, hr'.len, hltI, ir75_k4]
 obtain ⟨J, hJ⟩ : ∃ J : Nat → Env → World → Prop, ∀ i ρ2 W2, J i ρ2 W2 ↔ (ρ2 0 = ptr Rb ∧ ρ2 4 = .int .i64 k ∧ Ext w W2 ∧ ∃ lv, ρ2 3 = lv ∧ Own w.heap.size 3 1 W2 lv (((upto (k - 1)).flatMap f ++ (m.told.take i).filter fun x => decide (x = (k : Int))).map encI)) := ⟨_, fun _ _ _ => Iff.rfl⟩
 refine loopC 5 m.told.length J (by rfl) ((hJ _ _ _).2 ⟨by simp [s0], by simp [h4], hE, lv, by simp [s3], by simpa using hlv⟩) ?_
 intro i ρ2 W2 hi2 h5 hj
 obtain ⟨u0, u4, hE2, lv2, u3, hlv2⟩ := (hJ _ _ _).1 hj
 have u0' : ρ2 0 = .pointer (some ⟨Rb, 0, none⟩) := u0
 have ho2 := ho.ext h hE2
 have ht2 := ho2.told.sl (enc := encI) (by omega)
 by_cases hil : i < m.told.length
 rotate_left
 ·have hie : i = m.told.length := by omega
  subst hie
  simp -implicitDefEqProofs [-wps_asg, -wps_eff, wa2, we2, ir75_l2, h5, u0', ho2.hd.cell, ht2.is, ht2.len, ir75_k3, u4, i64w (n := (k : Int) + 1) (by omega)]
  rw [hZ]
  refine ⟨hlt, by simp, (hI _ _ _).2 ⟨by simp [u0], hE2, lv2, by simp [u3], ?_⟩⟩
  rw [hup, List.flatMap_append]
  rw [List.take_length] at hlv2
  have : ([(k : Int)].flatMap f) = m.told.filter fun x => decide (x = (k : Int)) := by rw [hf]; simp
  rw [this]
  exact hlv2
 have hc := ht2.cell i hil
 have hwi : IntKind.i64.wrap ((i : Int) + 1) = (i : Int) + 1 := i64w (by omega)
 have htk : (m.told.take (i + 1)).filter (fun x => decide (x = (k : Int))) = (m.told.take i).filter (fun x => decide (x = (k : Int))) ++ (if m.told[i] = (k : Int) then [m.told[i]] else []) := by
  rw [List.take_add_one, List.getElem?_eq_getElem hil, List.filter_append]
  by_cases e : m.told[i] = (k : Int) <;> simp [e]
 obtain ⟨Zi, hZi⟩ : ∃ Zi : Env → World → Prop, Zi = fun ρ'' w'' => i < m.told.length ∧ ρ'' 5 = .int .i64 ((i : Int) + 1) ∧ J (i + 1) ρ'' w'' := ⟨_, rfl⟩
 rw [← hZi]
 by_cases heq : m.told[i] = (k : Int)
 ·simp -implicitDefEqProofs [-wps_asg, -wps_eff, wa2, we2, ir75_l2, h5, u0', ho2.hd.cell, ht2.is, ht2.len, hil, ir75_k1, hc, encI, u4, heq, u3]
  refine eff_lit si35 (by decide) (by decide) (by simp [Value.cells]) fun Bx Wx hBx hEx hbx _ => ?_
  simp [Value.cells] at hbx
  simp -implicitDefEqProofs [-wps_asg, -wps_eff, wa2, we2]
  have z2 := hE2.size
  refine eff_push1 (hE2.trans' hEx) (hlv2.ext hEx) (by
   rw [List.length_append]
   have := List.length_filter_le (fun x => decide (x = (k : Int))) (m.told.take i)
   rw [List.length_take] at this
   omega) (by simp) (by simp) hbx (by omega) fun lv3 Wy hly hEy _ _ _ => ?_
  simp -implicitDefEqProofs [-wps_asg, -wps_eff, wa2, we2, ir75_k0, h5, hwi]
  rw [hZi]
  refine ⟨hil, by simp, (hJ _ _ _).2 ⟨by simp [u0], by simp [u4], hEy, lv3, by simp, ?_⟩⟩
  rw [htk, if_pos heq, heq, ← List.append_assoc]
  exact hly
 ·simp -implicitDefEqProofs [-wps_asg, -wps_eff, wa2, we2, ir75_l2, h5, u0', ho2.hd.cell, ht2.is, ht2.len, hil, ir75_k1, hc, encI, u4, heq, u3, ir75_k0, hwi]
  rw [hZi]
  refine ⟨hil, by simp, (hJ _ _ _).2 ⟨by simp [u0], by simp [u4], hE2, lv2, by simp [u3], ?_⟩⟩
  rw [htk, if_neg heq, List.append_nil]
  exact hlv2
end
end Go.L17
namespace Go.L17
open Go Go.Eng Go.RowKit
open Go.Proofs hiding encI
set_option maxRecDepth 100000
set_option maxHeartbeats 2000000
theorem MG.objs {m m' : MS} (h : MG m) (ho : m'.objs = m.objs) (hw : m'.words = m.words) : MG m' := by
 have hu : m'.used = m.used := by unfold MS.used; rw [ho]
 refine ⟨fun n hn k hk => ?_, fun n hn => ?_, fun n hn => ?_, fun n hn => ?_, by rw [hu, hw]; exact h.words, by rw [ho]; exact h.len⟩
 ·rw [there_objs ho] at hn ⊢
  rw [refsOf_objs ho] at hk
  exact h.wf n hn k hk
 ·rw [there_objs ho] at hn; rw [at_objs ho]; exact h.small n hn
 ·rw [there_objs ho] at hn; rw [at_objs ho]; exact h.kinds n hn
 ·rw [there_objs ho] at hn; rw [at_objs ho]; exact h.elem n hn
section
variable {base Rb : Nat} {γ : Lay} {m m' : MS} {w w' : World} {ov dv tv : Value} {kv vv : Int → Value}
theorem RAt.hdr0 (h : RAt base w Rb γ m) (hbw : base ≤ w.heap.size) (ho : ROpen base w Rb γ m ov dv tv kv vv) (hobjs : m'.objs = m.objs) (hdo : m'.doomed = m.doomed) (hto : m'.told = m.told) (hO : Only Rb w w')
  (hd : Blk w' Rb #[.int .i64 m'.words, ov, .bool m'.on, dv, .int .i64 m'.owed, tv] 43) : ∃ γ', RAt base w' Rb γ' m' ∧ Turn γ w γ' w' ∧ ROpen base w' Rb γ' m' ov dv tv kv vv := by
 obtain ⟨a, b, c⟩ := h.hdr (m' := m') hbw ho hobjs (kd := γ .gr) (kt := γ .en) (Fr.only hO (.inl rfl)) hd (by rw [hdo]; exact ho.doom.keep fun k hk => hO.block k (h.ne hk h.hb (by simp))) (by rw [hto]; exact ho.told.keep fun k hk => hO.block k (h.ne hk h.hb (by simp))) (fun x hx => .inl hx) (fun x hx => .inl hx) fun x h1 h2 => h.ne h1 h2 (by simp) rfl
 exact ⟨_, a, b, c⟩
theorem r_Begin (h : RAt base w Rb γ m) (hg : MG m) (hbw : base ≤ w.heap.size) {v : Value} {roots : List Int} (hs : Sl encI w v roots) : Calls Tryz.prog 77 #[ptr Rb, v] w (RpR base w Rb γ (.int .i64 (m.begin roots).1) (m.begin roots).2) := by
 obtain ⟨R, hR⟩ : ∃ R, R = RpR base w Rb γ (.int .i64 (m.begin roots).1) (m.begin roots).2 := ⟨_, rfl⟩
 rw [← hR]
 have hl := hg.len
 have hwd := hg.words
 have hu0 := used_nonneg m
 obtain ⟨ov, dv, tv, kv, vv, ho⟩ := h.opened
 refine ir77_calls fun ρ r0 r1 => ?_
 cases hon : m.on with
 | true =>
  have hsb : m.begin roots = (8, m) := by simp [MS.begin, MS.minorE, hon]
  have hh := ho.hd
  rw [hon] at hh
  simp -implicitDefEqProofs [-wps_asg, -wps_eff, wa2, we2, ir77, r0, ptr, hh.cell]
  rw [hR, hsb]
  exact RpR.of h (ext_refl _)
 | false =>
 have hh := ho.hd
 rw [hon] at hh
 simp -implicitDefEqProofs [-wps_asg, -wps_eff, wa2, we2, ir77, r0, r1, ptr, hh.cell, ir77_k5]
 have hrt := r_rooted h hl hs
 simp [ptr] at hrt
 refine hrt.mono ?_
 rintro _ w1 ⟨rfl, rfl⟩
 by_cases he : m.rootE roots = 0
 rotate_left
 ·have hsb : m.begin roots = (m.rootE roots, m) := by simp [MS.begin, MS.minorE, hon, he]
  simp -implicitDefEqProofs [-wps_asg, -wps_eff, wa2, we2, he]
  rw [hR, hsb]
  exact RpR.of h (ext_refl _)
 have hmE : m.minorE roots = 0 := by simp [MS.minorE, hon, he]
 have hrl := root_len he
 obtain ⟨P, hP⟩ : ∃ P : Int → Bool, P = fun n => m.there n && !m.met roots n := ⟨_, rfl⟩
 have hsb : m.begin roots = (0, { m with doomed := m.nums.filter P, on := true, owed := m.used + 1 }) := by
  rw [hP]; unfold MS.begin; simp [hmE]
 simp -implicitDefEqProofs [-wps_asg, -wps_eff, wa2, we2, he, ir77_k4, r0, r1, ptr]
 have hrc := r_reached h hg hs (by omega) (roots_there he)
 simp [ptr] at hrc
 refine hrc.mono ?_
 rintro _ W1 ⟨x, ks, rfl, hx, hks, hE⟩
 have z1 := hE.size
 have ho1 := ho.ext h hE
 have h1 := h.ext hE
 simp -implicitDefEqProofs [-wps_asg, -wps_eff, wa2, we2, r0, ptr]
 refine eff_store1 (B := Rb) (i := 3) (by simp) ho1.hd (by simp) rfl rfl sz35 fun W2 hO2 hb2 => ?_
 simp at hb2
 obtain ⟨a1, a2, a3⟩ := h1.hdr (m' := { m with doomed := [] }) (by omega) ho1 rfl (kd := none) (kt := γ .en) (Fr.only hO2 (.inl rfl)) hb2 ⟨Own.nil _ _ _ _, rfl⟩ (ho1.told.keep fun b hb => hO2.block b (h.ne hb h.hb (by simp))) (by simp) (fun x hx => .inl hx) (by simp)
 have hxl : slLen x = m.objs.length + 1 := by have := (own_cells hx).len; rw [outL_len] at this; omega
 have hxlI : (slLen x : Int) = (m.objs.length : Int) + 1 := by omega
 simp -implicitDefEqProofs [-wps_asg, -wps_eff, wa2, we2]
 obtain ⟨I, hI⟩ : ∃ I : Nat → Env → World → Prop, ∀ k ρ' W', I k ρ' W' ↔ (ρ' 0 = ptr Rb ∧ ρ' 6 = x ∧ ∃ γ', RAt base W' Rb γ' { m with doomed := (upto (k - 1)).filter P } ∧ Turn γ W1 γ' W') := ⟨_, fun _ _ _ => Iff.rfl⟩
 refine loopF 7 (m.objs.length + 1) 1 I (by rfl) (by omega) ((hI _ _ _).2 ⟨by simp [r0, ptr], by simp, _, a1, a2⟩) ?_
 intro k ρ' W' hk1 hk2 h7 hi
 obtain ⟨s0, s6, γ', hR', hT'⟩ := (hI _ _ _).1 hi
 have s0' : ρ' 0 = .pointer (some ⟨Rb, 0, none⟩) := s0
 obtain ⟨ov', dv', tv', kv', vv', ho'⟩ := hR'.opened
 have hr' := RowO.of ho'.objs
 have z' := hT'.1.size
 have hob' : ({ m with doomed := (upto (k - 1)).filter P } : MS).objs = m.objs := rfl
 have hlr' := hr'.len
 rw [hob'] at hlr'
 have hx' : Own w1.heap.size 4 1 W' x (outL m.objs.length ks) := Own.same' hx fun b hb => hT'.1.block b (Own.blk hx b hb).2 fun hh => by
  obtain ⟨r, hr⟩ := hh
  have := h.hi r b hr
  have := (Own.blk hx b hb).1
  omega
 by_cases hlt : k < m.objs.length + 1
 rotate_left
 ·have hke : k = m.objs.length + 1 := by omega
  subst hke
  have hnl : ¬ ((m.objs.length : Int) + 1 ≤ m.objs.length) := by omega
  simp -implicitDefEqProofs [-wps_asg, -wps_eff, wa2, we2, ir77_l2, h7, s0', ho'.hd.cell, hr'.is, hlr', ir77_k3, hnl]
  refine eff_store1 (B := Rb) (i := 2) (by simp) ho'.hd (by simp) rfl rfl sz4 fun W3 hO3 hb3 => ?_
  simp at hb3
  obtain ⟨γ3, b1, b2, b3⟩ := hR'.hdr0 (m' := { m with doomed := (upto (m.objs.length + 1 - 1)).filter P, on := true }) (by omega) ho' rfl rfl rfl hO3 (by simpa using hb3)
  have z3 := b2.1.size
  simp -implicitDefEqProofs [-wps_asg, -wps_eff, wa2, we2, s0']
  have hus := r_Used b1 (hg.objs rfl rfl)
  simp [ptr] at hus
  refine hus.mono ?_
  rintro _ W4 ⟨rfl, rfl⟩
  have hue : ({ m with doomed := (upto (m.objs.length + 1 - 1)).filter P, on := true } : MS).used = m.used := rfl
  have hw1 : IntKind.i64.wrap (m.used + 1) = m.used + 1 := i64w (by omega)
  have hue2 : ({ m with doomed := (upto m.objs.length).filter P, on := true } : MS).used = m.used := rfl
  simp -implicitDefEqProofs [-wps_asg, -wps_eff, wa2, we2, s0', hue2, hw1]
  refine eff_store1 (B := Rb) (i := 4) (by simp) b3.hd (by simp) rfl rfl sz3' fun W5 hO5 hb5 => ?_
  simp at hb5
  obtain ⟨γ5, c1, c2, c3⟩ := b1.hdr0 (m' := { m with doomed := (upto (m.objs.length + 1 - 1)).filter P, on := true, owed := m.used + 1 }) (by omega) b3 rfl rfl rfl hO5 (by simpa using hb5)
  simp -implicitDefEqProofs [-wps_asg, -wps_eff, wa2, we2]
  rw [hR, hsb]
  exact ⟨rfl, γ5, c1, (((Turn.of hE).trans hT').trans b2).trans c2⟩
 have hltI : (k : Int) ≤ (m.objs.length : Int) := by omega
 have hltI2 : (k : Int) < (m.objs.length : Int) + 1 := by omega
 have hup : upto (k + 1 - 1) = upto (k - 1) ++ [(k : Int)] := by
  have h1 : k + 1 - 1 = (k - 1) + 1 := by omega
  have h2 : ((k - 1 : Nat) : Int) + 1 = (k : Int) := by omega
  rw [h1, upto_succ, h2]
 have hxc' := own_cells hx'
 have hc := hxc'.cell k (by rw [outL_len]; exact hlt)
 rw [outL_get hlt] at hc
 have hdec : decide ((k : Int) ∈ ks) = m.met roots k := by
  rw [Bool.eq_iff_iff]; simp [hks]
 rw [hdec] at hc
 have hwk : IntKind.i64.wrap ((k : Int) + 1) = (k : Int) + 1 := i64w (by omega)
 obtain ⟨Z, hZ⟩ : ∃ Z : Env → World → Prop, Z = fun ρ'' w'' => k < m.objs.length + 1 ∧ ρ'' 7 = .int .i64 ((k : Int) + 1) ∧ I (k + 1) ρ'' w'' := ⟨_, rfl⟩
 rw [← hZ]
 have hth := r_There hR' (by rw [hob']; exact hl) k
 simp [ptr] at hth
 have hte : ({ m with doomed := (upto (k - 1)).filter P } : MS).there k = m.there k := there_objs rfl k
 rw [hte] at hth
 have hskip : P k = false → ∀ ρ2 : Env, ρ2 0 = ptr Rb → ρ2 6 = x → ρ2 7 = .int .i64 k → ∀ Q : Ks, ir77_k0.wp ⟨Tryz.prog, 62, ir77_V, []⟩ Z Q ρ2 W' := by
  intro hPk ρ2 u0 u6 u7 Q
  simp -implicitDefEqProofs [-wps_asg, -wps_eff, wa2, we2, ir77_k0, u7, hwk]
  rw [hZ]
  refine ⟨hlt, by simp, (hI _ _ _).2 ⟨by simp [u0], by simp [u6], γ', ?_, hT'⟩⟩
  rw [hup, List.filter_append]
  simpa [hPk] using hR'
 simp -implicitDefEqProofs [-wps_asg, -wps_eff, wa2, we2, ir77_l2, h7, s0', ho'.hd.cell, hr'.is, hlr', hltI, ir77_k1]
 refine hth.mono ?_
 rintro _ W3 ⟨rfl, rfl⟩
 cases htk : m.there k with
 | false =>
  simp -implicitDefEqProofs [-wps_asg, -wps_eff, wa2, we2]
  refine hskip (by rw [hP]; simp [htk]) _ ?_ ?_ ?_ _ <;> simp [s0, s6, h7, ptr]
 | true =>
 cases hmk : m.met roots k with
 | true =>
  rw [hmk] at hc
  simp -implicitDefEqProofs [-wps_asg, -wps_eff, wa2, we2, s6, h7, hxc'.is, hxl, hlt, hltI2, hc]
  refine hskip (by rw [hP]; simp [htk, hmk]) _ ?_ ?_ ?_ _ <;> simp [s0, s6, h7, ptr]
 | false =>
  rw [hmk] at hc
  have hPk : P k = true := by rw [hP]; simp [htk, hmk]
  simp -implicitDefEqProofs [-wps_asg, -wps_eff, wa2, we2, s6, h7, hxc'.is, hxl, hlt, hltI2, hc, s0', ho'.hd.cell]
  refine eff_lit si35 (by decide) (by decide) (by simp [Value.cells]) fun Bx Wx hBx hEx hbx _ => ?_
  simp [Value.cells] at hbx
  have zx := hEx.size
  have hOx : Own W3.heap.size 3 1 Wx (.slice (some ⟨Bx, 0, none⟩) 1 1) [.int .i64 k] := Own.lit hbx rfl (by omega) (by decide)
  have hdl : (((upto (k - 1)).filter P).map encI).length ≤ 1000000000 := by
   rw [List.length_map]
   have := List.length_filter_le P (upto (k - 1))
   rw [upto_len] at this; omega
  simp -implicitDefEqProofs [-wps_asg, -wps_eff, wa2, we2]
  refine eff_appendG ri35 (base := base) (by omega) (by simp) (by simp) (ho'.doom.own.ext hEx) (own_cells hOx) (by simp; rfl) (by simp at hdl ⊢; omega) (by simp at hdl ⊢; omega) fun dv3 W4 hdv hg4 hf4 => ?_
  have hone := own_one hdv
  have hRx := hR'.ext hEx
  have hox := ho'.ext hR' hEx
  have hgr : ∀ b, dv'.ownBlock = some b → γ' .gr = some b := fun b hb => by rw [← ho'.doom.blk]; exact hb
  have hRl := hRx.hi _ _ hRx.hb
  have hhd4 : Blk W4 Rb _ 43 := ⟨(hg4.block Rb hRl fun e => hR'.ne hR'.hb (hgr Rb e.symm) (by simp) rfl).trans hox.hd.heap⟩
  simp -implicitDefEqProofs [-wps_asg, -wps_eff, wa2, we2, s0']
  refine eff_store1 (B := Rb) (i := 3) (by simp) hhd4 (by simp) (by simpa using hone.1) (by simpa using hone.2) sz35 fun W5 hO5 hb5 => ?_
  simp at hb5
  have z4 := hg4.size
  have hlb : ∀ b, dv3.ownBlock = some b → γ' .gr = some b ∨ Wx.heap.size ≤ b := fun b hb => by
   rcases hf4 with e | e
   ·rw [e] at hb; exact .inl (hgr b hb)
   ·rw [e] at hb; cases hb; exact .inr (Nat.le_refl _)
  have hF5 : Fr (fun b => b = Rb ∨ γ' .gr = some b ∨ γ' .en = some b) Wx W5 := ((Fr.grown hg4).mono (S' := fun b => b = Rb ∨ γ' .gr = some b ∨ γ' .en = some b) fun y hy => .inl (.inr (.inl (hgr y hy)))).trans (Fr.only hO5 (S := fun b => b = Rb ∨ γ' .gr = some b ∨ γ' .en = some b) (.inl rfl)) fun y h => .inl h
  have hdv5 : Own base 3 1 W5 dv3 (((upto (k + 1 - 1)).filter P).map encI) := by
   have := Own.same' hdv (w' := W5) fun b hb => hO5.block b fun e => by
    subst e
    rcases hlb b hb with e | e
    ·exact hR'.ne hR'.hb e (by simp) rfl
    ·omega
   rw [hup, List.filter_append, List.map_append]
   simpa [hPk, encI] using this
  have htl5 : SlAt base 3 W5 tv' (m.told.map encI) (γ' .en) := hox.told.keep fun b hb => (hO5.block b (hR'.ne hb hR'.hb (by simp))).trans (hg4.block b (hRx.hi _ _ hb) fun e => hR'.ne hb (hgr b e.symm) (by simp) rfl)
  obtain ⟨d1, d2, d3⟩ := hRx.hdr (m' := { m with doomed := (upto (k + 1 - 1)).filter P }) (by omega) hox rfl (kd := dv3.ownBlock) (kt := γ' .en) hF5 (by simpa using hb5) ⟨hdv5, rfl⟩ htl5 hlb (fun x hx => .inl hx) fun b h1 h2 => by
   rcases hlb b h1 with e | e
   ·exact hR'.ne e h2 (by simp) rfl
   ·have := hRx.hi _ _ h2; omega
  simp -implicitDefEqProofs [-wps_asg, -wps_eff, wa2, we2, ir77_k0, h7, hwk]
  rw [hZ]
  exact ⟨hlt, by simp, (hI _ _ _).2 ⟨by simp [s0], by simp [s6], _, d1, (hT'.trans (Turn.of hEx)).trans d2⟩⟩
end
end Go.L17
namespace Go.L17
open Go Go.Eng Go.RowKit
open Go.Proofs hiding encI
set_option maxRecDepth 100000
set_option maxHeartbeats 2000000
theorem put_self {m : MS} {n : Int} (h : 1 ≤ n ∧ n ≤ m.objs.length) : m.put n (m.at n) = m := by
 have hi : (n - 1).toNat < m.objs.length := by omega
 unfold MS.put MS.at
 rw [getD_get hi, List.set_getElem_self]
theorem drop_sw1 {K : Int → Bool} {g : MO → MO} {m : MS} {n : Int} (hn : m.there n = true) (hK : K n = false) : m.drop n = m.sw1 K g n := by
 rw [sw1_freed hK, put_self (there_le hn)]
 rfl
theorem sw_rest {K : Int → Bool} {g : MO → MO} : ∀ (l : List Int) (m : MS), (m.sw K g l).doomed = m.doomed ∧ (m.sw K g l).owed = m.owed
 | [], m => ⟨rfl, rfl⟩
 | n :: l, m => by
  obtain ⟨a, b⟩ := sw_rest (K := K) (g := g) l (m.sw1 K g n)
  have h1 : (m.sw1 K g n).doomed = m.doomed ∧ (m.sw1 K g n).owed = m.owed := by
   unfold MS.sw1
   split
   ·exact ⟨rfl, rfl⟩
   ·split <;> exact ⟨rfl, rfl⟩
  exact ⟨a.trans h1.1, b.trans h1.2⟩
theorem MS.ext' {a b : MS} (h1 : a.words = b.words) (h2 : a.objs.length = b.objs.length) (h3 : a.on = b.on) (h4 : a.doomed = b.doomed) (h5 : a.owed = b.owed) (h6 : a.told = b.told) (h : ∀ n : Int, 1 ≤ n → n ≤ a.objs.length → a.at n = b.at n) : a = b := by
 have ho : a.objs = b.objs := by
  apply List.ext_getElem h2
  intro i hi1 hi2
  have := h ((i : Int) + 1) (by omega) (by omega)
  rwa [need_at hi1, need_at hi2] at this
 cases a; cases b
 simp only at h1 h3 h4 h5 h6 ho
 rw [h1, ho, h3, h4, h5, h6]
theorem minor_eq {m : MS} {roots : List Int} (he : m.minorE roots = 0) : m.sw (m.met (roots ++ m.olds)) MO.older m.thereL = (m.minor roots).2.2 := by
 have hnd : m.thereL.Nodup := (thereL_sorted m).imp fun h e => by omega
 have hS := sw_of (K := m.met (roots ++ m.olds)) (g := MO.older) (fun _ => rfl) (l := m.thereL) (m := m) hnd fun y hy => mem_thereL.1 hy
 obtain ⟨hsame, _⟩ := minor_same hS he
 obtain ⟨hd, hw⟩ := sw_rest (K := m.met (roots ++ m.olds)) (g := MO.older) m.thereL m
 have hm : (m.minor roots).2.2 = (m.aged).frees (m.minorFree roots) := by unfold MS.minor; rw [if_neg (by simp [he])]
 refine MS.ext' hsame.words.symm hsame.len.symm (by rw [hS.on, hm]; rfl) (by rw [hd, hm]; rfl) (by rw [hw, hm]; rfl) hsame.told.symm fun n h1 h2 => ?_
 have hb : n ≤ m.objs.length := by rw [hS.len] at h2; exact h2
 cases ht : (m.sw (m.met (roots ++ m.olds)) MO.older m.thereL).there n with
 | true => exact (hsame.at' n ht).symm
 | false =>
  rw [hS.there] at ht
  rw [hS.at' n h1, hm, frees_at h1 (by rw [aged_eq, mapO_len]; exact hb)]
  by_cases hl : n ∈ m.thereL
  ·rw [if_pos hl] at ht ⊢
   have hf : n ∈ m.minorFree roots := by
    unfold MS.minorFree
    rw [List.mem_filter, mem_nums]
    exact ⟨⟨h1, hb⟩, by rw [mem_thereL.1 hl, ht]; rfl⟩
   rw [if_pos hf, if_neg (by simp [ht])]
  ·rw [if_neg hl] at ht ⊢
   have hf : n ∉ m.minorFree roots := fun hf => by
    have := (List.mem_filter.1 hf).2
    rw [ht] at this
    cases this
   have hat : (m.at n).there = false := by
    unfold MS.there at ht
    have a1 : decide (1 ≤ n) = true := by simpa using h1
    have a2 : decide (n ≤ (m.objs.length : Int)) = true := by simpa using hb
    rw [a1, a2] at ht
    simpa using ht
   rw [if_neg hf, aged_eq, mapO_at h1 hb, if_neg (by simp [hat])]
section
variable {base Rb : Nat} {γ : Lay} {m m' : MS} {w w' : World} {ov dv tv : Value} {kv vv : Int → Value}
theorem r_Minor (h : RAt base w Rb γ m) (hg : MG m) (hbw : base ≤ w.heap.size) (htl : m.told.length ≤ 100000000000) (hag : ∀ n, m.there n = true → (m.at n).age ≤ 1000000000000000) {v : Value} {roots : List Int} (hs : Sl encI w v roots) :
  Calls Tryz.prog 76 #[ptr Rb, v] w (RpR base w Rb γ (.tuple #[.int .i64 (m.minor roots).1, .int .i64 (m.minor roots).2.1]) (m.minor roots).2.2) := by
 obtain ⟨R, hR⟩ : ∃ R, R = RpR base w Rb γ (.tuple #[.int .i64 (m.minor roots).1, .int .i64 (m.minor roots).2.1]) (m.minor roots).2.2 := ⟨_, rfl⟩
 rw [← hR]
 have hl := hg.len
 obtain ⟨ov, dv, tv, kv, vv, ho⟩ := h.opened
 refine ir76_calls fun ρ r0 r1 => ?_
 cases hon : m.on with
 | true =>
  have hsb : m.minor roots = (0, 8, m) := by simp [MS.minor, MS.minorE, hon]
  have hh := ho.hd
  rw [hon] at hh
  simp -implicitDefEqProofs [-wps_asg, -wps_eff, wa2, we2, ir76, r0, ptr, hh.cell]
  rw [hR, hsb]
  exact RpR.of h (ext_refl _)
 | false =>
 have hh := ho.hd
 rw [hon] at hh
 simp -implicitDefEqProofs [-wps_asg, -wps_eff, wa2, we2, ir76, r0, r1, ptr, hh.cell, ir76_k11]
 have hrt := r_rooted h hl hs
 simp [ptr] at hrt
 refine hrt.mono ?_
 rintro _ w1 ⟨rfl, rfl⟩
 by_cases he : m.rootE roots = 0
 rotate_left
 ·have hsb : m.minor roots = (0, m.rootE roots, m) := by simp [MS.minor, MS.minorE, hon, he]
  simp -implicitDefEqProofs [-wps_asg, -wps_eff, wa2, we2, he]
  rw [hR, hsb]
  exact RpR.of h (ext_refl _)
 have hmE : m.minorE roots = 0 := by simp [MS.minorE, hon, he]
 have hrl := root_len he
 simp -implicitDefEqProofs [-wps_asg, -wps_eff, wa2, we2, he, ir76_k10]
 refine eff_lit si35 (by decide) (by decide) (by simp) fun B3 W3 hB3 hE3 hb3 _ => ?_
 simp at hb3
 simp -implicitDefEqProofs [-wps_asg, -wps_eff, wa2, we2, r1]
 refine eff_copyI (w0 := w1) (B := B3) (v := v) (l := roots) (by simp) hb3 hB3 hE3 (by simp) (hs.ext hE3) (by omega) fun y W4 hy e4 z4 hk4 hf4 => ?_
 simp -implicitDefEqProofs [-wps_asg, -wps_eff, wa2, we2]
 obtain ⟨P, hP⟩ : ∃ P : Int → Bool, P = fun n => m.there n && !m.young n := ⟨_, rfl⟩
 have holds : m.olds = (upto m.objs.length).filter P := by rw [hP]; rfl
 obtain ⟨I, hI⟩ : ∃ I : Nat → Env → World → Prop, ∀ k ρ' W', I k ρ' W' ↔ (ρ' 0 = ptr Rb ∧ Ext w1 W' ∧ ∃ lv, ρ' 7 = lv ∧ Own w1.heap.size 3 1 W' lv ((roots ++ (upto (k - 1)).filter P).map encI)) := ⟨_, fun _ _ _ => Iff.rfl⟩
 refine loopF 8 (m.objs.length + 1) 1 I (by rfl) (by omega) ((hI _ _ _).2 ⟨by simp [r0, ptr], e4, y, by simp, by simpa [upto] using hy⟩) ?_
 intro k ρ' W' hk1 hk2 h8 hi
 obtain ⟨s0, hE, lv, s7, hlv⟩ := (hI _ _ _).1 hi
 have s0' : ρ' 0 = .pointer (some ⟨Rb, 0, none⟩) := s0
 have ho' := ho.ext h hE
 have hr' := RowO.of ho'.objs
 have hR' := h.ext hE
 have z' := hE.size
 have hfl : (roots ++ (upto (k - 1)).filter P).length ≤ 10000 + 100000000 := by
  rw [List.length_append]
  have := List.length_filter_le P (upto (k - 1))
  rw [upto_len] at this; omega
 by_cases hlt : k < m.objs.length + 1
 ·have hltI : (k : Int) ≤ (m.objs.length : Int) := by omega
  have hup : upto (k + 1 - 1) = upto (k - 1) ++ [(k : Int)] := by
   have h1 : k + 1 - 1 = (k - 1) + 1 := by omega
   have h2 : ((k - 1 : Nat) : Int) + 1 = (k : Int) := by omega
   rw [h1, upto_succ, h2]
  have hwk : IntKind.i64.wrap ((k : Int) + 1) = (k : Int) + 1 := i64w (by omega)
  obtain ⟨Z, hZ⟩ : ∃ Z : Env → World → Prop, Z = fun ρ'' w'' => k < m.objs.length + 1 ∧ ρ'' 8 = .int .i64 ((k : Int) + 1) ∧ I (k + 1) ρ'' w'' := ⟨_, rfl⟩
  rw [← hZ]
  have hskip : P k = false → ∀ ρ2 : Env, ρ2 0 = ptr Rb → ρ2 7 = lv → ρ2 8 = .int .i64 k → ∀ Q : Ks, ir76_k0.wp ⟨Tryz.prog, 86, ir76_V, []⟩ Z Q ρ2 W' := by
   intro hPk ρ2 u0 u7 u8 Q
   simp -implicitDefEqProofs [-wps_asg, -wps_eff, wa2, we2, ir76_k0, u8, hwk]
   rw [hZ]
   refine ⟨hlt, by simp, (hI _ _ _).2 ⟨by simp [u0], hE, lv, by simp [u7], ?_⟩⟩
   rw [hup, List.filter_append]
   simpa [hPk] using hlv
  simp -implicitDefEqProofs [-wps_asg, -wps_eff, wa2, we2, ir76_l2, h8, s0', ho'.hd.cell, hr'.is, hr'.len, hltI, ir76_k1]
  have hth := r_There hR' hl k
  simp [ptr] at hth
  refine hth.mono ?_
  rintro _ W5 ⟨rfl, rfl⟩
  cases htk : m.there k with
  | false =>
   simp -implicitDefEqProofs [-wps_asg, -wps_eff, wa2, we2]
   refine hskip (by rw [hP]; simp [htk]) _ ?_ ?_ ?_ _ <;> simp [s0, s7, h8, ptr]
  | true =>
   simp -implicitDefEqProofs [-wps_asg, -wps_eff, wa2, we2, s0', h8]
   have hyo := r_Young hR' hl k
   simp [ptr] at hyo
   refine hyo.mono ?_
   rintro _ W6 ⟨rfl, rfl⟩
   cases hyk : m.young k with
   | true =>
    simp -implicitDefEqProofs [-wps_asg, -wps_eff, wa2, we2]
    refine hskip (by rw [hP]; simp [htk, hyk]) _ ?_ ?_ ?_ _ <;> simp [s0, s7, h8, ptr]
   | false =>
    have hPk : P k = true := by rw [hP]; simp [htk, hyk]
    simp -implicitDefEqProofs [-wps_asg, -wps_eff, wa2, we2, s7, h8]
    refine eff_lit si35 (by decide) (by decide) (by simp [Value.cells]) fun Bx Wx hBx hEx hbx _ => ?_
    simp [Value.cells] at hbx
    simp -implicitDefEqProofs [-wps_asg, -wps_eff, wa2, we2]
    refine eff_push1 (hE.trans' hEx) (hlv.ext hEx) (by omega) (by simp) (by simp) hbx (by omega) fun lv3 Wy hly hEy _ _ _ => ?_
    simp -implicitDefEqProofs [-wps_asg, -wps_eff, wa2, we2, ir76_k0, h8, hwk]
    rw [hZ]
    refine ⟨hlt, by simp, (hI _ _ _).2 ⟨by simp [s0], hEy, lv3, by simp, ?_⟩⟩
    rw [hup, List.filter_append]
    simpa [hPk] using hly
 have hke : k = m.objs.length + 1 := by omega
 subst hke
 have hnl : ¬ ((m.objs.length : Int) + 1 ≤ m.objs.length) := by omega
 have hlv' : Own w1.heap.size 3 1 W' lv ((roots ++ m.olds).map encI) := by rw [holds]; exact hlv
 have hall : ∀ n ∈ roots ++ m.olds, n ≠ 0 → m.there n = true := by
  intro n hn h0
  rcases List.mem_append.1 hn with hn | hn
  ·exact roots_there he n hn h0
  ·exact (mem_olds.1 hn).1
 have hlen2 : (roots ++ m.olds).length ≤ 1000000 := by
  rw [List.length_append]
  have h1 : m.olds.length ≤ m.thereL.length := by
   refine nodup_le' _ _ ?_ fun x hx => mem_thereL.2 (mem_olds.1 hx).1
   rw [holds]
   exact (upto_nodup _).filter _
  have := thereL_len m (by have := hg.words; omega)
  omega
 simp -implicitDefEqProofs [-wps_asg, -wps_eff, wa2, we2, ir76_l2, h8, s0', ho'.hd.cell, hr'.is, hr'.len, hnl, ir76_k9, s7]
 have hrc := r_reached hR' hg (hlv'.sl (enc := encI) (by omega)) hlen2 hall
 simp [ptr] at hrc
 refine hrc.mono ?_
 rintro _ W1 ⟨x, ks, rfl, hx, hks, hE1⟩
 have z1 := hE1.size
 have hE01 := hE.trans' hE1
 have hxl : slLen x = m.objs.length + 1 := by have := (own_cells hx).len; rw [outL_len] at this; omega
 have hxlI : (slLen x : Int) = (m.objs.length : Int) + 1 := by omega
 obtain ⟨Kf, hKf⟩ : ∃ Kf : Int → Bool, Kf = m.met (roots ++ m.olds) := ⟨_, rfl⟩
 have hgt : ∀ o : MO, o.older.there = o.there := fun _ => rfl
 have hSk : ∀ k, Sw Kf MO.older m ((upto k).filter m.there) (m.sw Kf MO.older ((upto k).filter m.there)) := fun k => sw_of hgt ((upto_nodup k).filter _) fun n hn => (List.mem_filter.1 hn).2
 simp -implicitDefEqProofs [-wps_asg, -wps_eff, wa2, we2]
 obtain ⟨J, hJ⟩ : ∃ J : Nat → Env → World → Prop, ∀ k ρ2 W2, J k ρ2 W2 ↔ (ρ2 0 = ptr Rb ∧ ρ2 9 = x ∧ ρ2 10 = .int .i64 ((((upto (k - 1)).filter m.there).filter fun n => !Kf n).length : Int) ∧ ∃ γ', RAt base W2 Rb γ' (m.sw Kf MO.older ((upto (k - 1)).filter m.there)) ∧ Turn γ W1 γ' W2) := ⟨_, fun _ _ _ => Iff.rfl⟩
 refine loopF 11 (m.objs.length + 1) 1 J (by rfl) (by omega) ((hJ _ _ _).2 ⟨by simp [s0], by simp, by simp [upto], γ, by simpa [upto, MS.sw] using h.ext hE01, Turn.of (ext_refl _)⟩) ?_
 intro k ρ2 W2 hk1 hk2 h11 hj
 obtain ⟨u0, u9, u10, γ', hR2, hT2⟩ := (hJ _ _ _).1 hj
 have u0' : ρ2 0 = .pointer (some ⟨Rb, 0, none⟩) := u0
 have hS := hSk (k - 1)
 obtain ⟨s, hsd⟩ : ∃ s, s = m.sw Kf MO.older ((upto (k - 1)).filter m.there) := ⟨_, rfl⟩
 rw [← hsd] at hS hR2
 obtain ⟨ov2, dv2, tv2, kv2, vv2, ho2⟩ := hR2.opened
 have hr2 := RowO.of ho2.objs
 have hlr2 := hr2.len
 rw [hS.len] at hlr2
 have z2 := hT2.1.size
 have hx2 : Own W'.heap.size 4 1 W2 x (outL m.objs.length ks) := Own.same' hx fun b hb => hT2.1.block b (Own.blk hx b hb).2 fun hh => by
  obtain ⟨r, hr⟩ := hh
  have := h.hi r b hr
  have := (Own.blk hx b hb).1
  omega
 by_cases hlt : k < m.objs.length + 1
 rotate_left
 ·have hke : k = m.objs.length + 1 := by omega
  subst hke
  have hfin : s = (m.minor roots).2.2 := by
   rw [hsd, ← minor_eq hmE, hKf]; rfl
  have hcnt : (m.minor roots).1 = ((((upto (m.objs.length + 1 - 1)).filter m.there).filter fun n => !Kf n).length : Int) := by
   have hnd : m.thereL.Nodup := (thereL_sorted m).imp fun h e => by omega
   have hS2 := sw_of (K := m.met (roots ++ m.olds)) (g := MO.older) (fun _ => rfl) (l := m.thereL) (m := m) hnd fun y hy => mem_thereL.1 hy
   rw [(minor_same hS2 hmE).2, hKf]; rfl
  have hme2 : (m.minor roots).2.1 = 0 := by simp [MS.minor, hmE]
  simp -implicitDefEqProofs [-wps_asg, -wps_eff, wa2, we2, ir76_l7, h11, u0', ho2.hd.cell, hr2.is, hlr2, hnl, ir76_k8, u10]
  rw [hR, hcnt, hme2, ← hfin]
  exact ⟨by simp, γ', hR2, (Turn.of hE01).trans hT2⟩
 have hltI : (k : Int) ≤ (m.objs.length : Int) := by omega
 have hltI2 : (k : Int) < (m.objs.length : Int) + 1 := by omega
 have hup : upto (k + 1 - 1) = upto (k - 1) ++ [(k : Int)] := by
  have h1 : k + 1 - 1 = (k - 1) + 1 := by omega
  have h2 : ((k - 1 : Nat) : Int) + 1 = (k : Int) := by omega
  rw [h1, upto_succ, h2]
 have hknot : (k : Int) ∉ (upto (k - 1)).filter m.there := fun hc => by
  obtain ⟨i, hi, e⟩ := List.mem_map.1 (List.mem_filter.1 hc).1
  have := List.mem_range.1 hi
  omega
 have hsth : s.there k = m.there k := by rw [hS.there, if_neg hknot]
 have hsat : s.at k = m.at k := by rw [hS.at' k (by omega), if_neg hknot]
 have hxc' := own_cells hx2
 have hc := hxc'.cell k (by rw [outL_len]; exact hlt)
 rw [outL_get hlt] at hc
 have hdec : decide ((k : Int) ∈ ks) = Kf k := by
  rw [Bool.eq_iff_iff, hKf]; simp [hks]
 rw [hdec] at hc
 have hwk : IntKind.i64.wrap ((k : Int) + 1) = (k : Int) + 1 := i64w (by omega)
 obtain ⟨Z, hZ⟩ : ∃ Z : Env → World → Prop, Z = fun ρ'' w'' => k < m.objs.length + 1 ∧ ρ'' 11 = .int .i64 ((k : Int) + 1) ∧ J (k + 1) ρ'' w'' := ⟨_, rfl⟩
 rw [← hZ]
 have hth := r_There hR2 (by rw [hS.len]; exact hl) k
 rw [hsth] at hth
 simp [ptr] at hth
 have hcl : (((upto (k - 1)).filter m.there).filter fun n => !Kf n).length ≤ 100000000 := by
  have h1 := List.length_filter_le (fun n => !Kf n) ((upto (k - 1)).filter m.there)
  have h2 := List.length_filter_le m.there (upto (k - 1))
  rw [upto_len] at h2
  omega
 simp -implicitDefEqProofs [-wps_asg, -wps_eff, wa2, we2, ir76_l7, h11, u0', ho2.hd.cell, hr2.is, hlr2, hltI, ir76_k6]
 refine hth.mono ?_
 rintro _ W5 ⟨rfl, rfl⟩
 cases htk : m.there k with
 | false =>
  have hf : (upto (k + 1 - 1)).filter m.there = (upto (k - 1)).filter m.there := by rw [hup, List.filter_append]; simp [htk]
  simp -implicitDefEqProofs [-wps_asg, -wps_eff, wa2, we2, ir76_k5, h11, hwk]
  rw [hZ]
  refine ⟨hlt, by simp, (hJ _ _ _).2 ⟨by simp [u0], by simp [u9], (by rw [hf, ← u10]; simp), γ', ?_, hT2⟩⟩
  rw [hf, ← hsd]; exact hR2
 | true =>
  have hf : (upto (k + 1 - 1)).filter m.there = (upto (k - 1)).filter m.there ++ [(k : Int)] := by rw [hup, List.filter_append]; simp [htk]
  have hsw : m.sw Kf MO.older ((upto (k + 1 - 1)).filter m.there) = s.sw1 Kf MO.older k := by
   rw [hf, hsd]; simp [MS.sw, List.foldl_append]
  have hbk : 1 ≤ (k : Int) ∧ (k : Int) ≤ s.objs.length := by rw [hS.len]; omega
  have hw1 : IntKind.i64.wrap ((k : Int) - 1) = (k : Int) - 1 := i64w (by omega)
  have hk0 : (0 : Int) ≤ (k : Int) - 1 := by omega
  have hk3 : (k : Int) - 1 < (m.objs.length : Int) := by omega
  have h1k : (1 : Int) ≤ (k : Int) := by omega
  obtain ⟨_, _, _, _, _, c5, _⟩ := hr2.c hbk.1 hbk.2
  rw [hsat] at c5
  cases hK : Kf k with
  | true =>
   rw [hK] at hc
   have hage := hag k htk
   have hwa : IntKind.i64.wrap (((m.at k).age : Int) + 1) = ((m.at k).age : Int) + 1 := i64w (by omega)
   have e0 : ((k : Int) - 1).toNat = k - 1 := by omega
   have hlt5 : (k - 1) * 7 + 5 < (cellsO kv2 vv2 s.objs).length := by
    rw [cellsO_len, hS.len]
    have : (k - 1 + 1) * 7 ≤ m.objs.length * 7 := Nat.mul_le_mul_right _ (by omega)
    omega
   simp at c5
   simp -implicitDefEqProofs [-wps_asg, -wps_eff, wa2, we2, ir76_k4, u9, h11, hxc'.is, hxl, hlt, hltI2, hc, u0', ho2.hd.cell, hr2.is, hlr2, hw1, hk0, hk3, h1k, hk1, c5, hwa]
   refine eff_storeR (base := base) (i := (k - 1) * 7 + 5) ho2.objs hlt5 (by simp) (by simp [Value.cells]) (by simp) sz3' fun g W6 hg6 hO6 hrow6 => ?_
   simp at hrow6
   obtain ⟨d1, d2⟩ := hR2.cellPut ho2 (ref := (k : Int)) hbk hg6 hO6 (o := (m.at k).older) (j := 5) (v := .int .i64 (((m.at k).age : Int) + 1)) (by decide) (fun a b => by rw [hsat]; rfl) (by rw [e0]; exact hrow6) (by rw [hsat]; rfl) (by rw [hsat]; rfl)
   have hsw2 : s.sw1 Kf MO.older k = s.put k (m.at k).older := by rw [sw1_kept hK, hsat]
   simp -implicitDefEqProofs [-wps_asg, -wps_eff, wa2, we2, ir76_k5, h11, hwk]
   rw [hZ]
   refine ⟨hlt, by simp, (hJ _ _ _).2 ⟨by simp [u0], by simp [u9], (by
    have hnil : ([(k : Int)].filter fun n => !Kf n) = [] := by simp [hK]
    rw [hf, List.filter_append, hnil, List.append_nil, ← u10]; simp), γ', ?_, hT2.trans d2⟩⟩
   rw [hsw, hsw2]; exact d1
  | false =>
   rw [hK] at hc
   simp -implicitDefEqProofs [-wps_asg, -wps_eff, wa2, we2, ir76_k4, u9, h11, hxc'.is, hxl, hlt, hltI2, hc, ir76_k3, u0']
   have htl2 : s.told.length ≤ 1000000000000 := by
    rw [hS.told, List.length_append]
    have h1 := List.length_filter_le (fun n => !Kf n && (m.at n).watched) ((upto (k - 1)).filter m.there)
    have h2 := List.length_filter_le m.there (upto (k - 1))
    rw [upto_len] at h2
    omega
   have hfr := r_free hR2 (by rw [hS.len]; exact hl) (by omega) htl2 hbk
   simp [ptr] at hfr
   refine hfr.mono ?_
   rintro _ W6 ⟨rfl, γ6, d1, d2⟩
   have hwc : IntKind.i64.wrap (((((upto (k - 1)).filter m.there).filter fun n => !Kf n).length : Int) + 1) = ((((upto (k - 1)).filter m.there).filter fun n => !Kf n).length : Int) + 1 := i64w (by omega)
   have u10' := u10
   obtain ⟨C, hC⟩ : ∃ C, C = (((upto (k - 1)).filter m.there).filter fun n => !Kf n).length := ⟨_, rfl⟩
   rw [← hC] at u10' hwc
   simp -implicitDefEqProofs [-wps_asg, -wps_eff, wa2, we2, ir76_k5, h11, hwk, u10', hwc]
   rw [hZ]
   refine ⟨hlt, by simp, (hJ _ _ _).2 ⟨by simp [u0], by simp [u9], by rw [hf, List.filter_append, List.length_append, ← hC]; simp [hK], γ6, ?_, hT2.trans d2⟩⟩
   rw [hsw, ← drop_sw1 (by rw [hsth]; exact htk) hK]; exact d1
end
end Go.L17
namespace Go.L17
open Go Go.Eng Go.RowKit
open Go.Proofs hiding encI
set_option maxRecDepth 100000
set_option maxHeartbeats 4000000
def MS.dropL (m : MS) (l : List Int) : MS := l.foldl MS.drop m
theorem dropL_sw : ∀ {l : List Int} {m : MS}, l.Nodup → (∀ n ∈ l, m.there n = true) → m.dropL l = m.sw (fun _ => false) id l
 | [], _, _, _ => rfl
 | n :: l, m, hn, hl => by
  obtain ⟨n1, n2⟩ := List.nodup_cons.1 hn
  have h1 := hl n (by simp)
  have e : m.drop n = m.sw1 (fun _ => false) id n := drop_sw1 h1 rfl
  have hs := sw1_of (K := fun _ => false) (g := id) (m := m) (n := n) (fun _ => rfl) h1
  show (m.drop n).dropL l = (m.sw1 (fun _ => false) id n).sw (fun _ => false) id l
  rw [e]
  exact dropL_sw n2 fun k hk => by
   have hne : k ≠ n := fun e => n1 (e ▸ hk)
   rw [hs.there, if_neg hne]
   exact hl k (by simp [hk])
structure Dr (m : MS) (l : List Int) (s : MS) : Prop where
 words : s.words = m.words
 len : s.objs.length = m.objs.length
 on : s.on = m.on
 doomed : s.doomed = m.doomed
 owed : s.owed = m.owed
 told : s.told = m.told ++ l.filter fun n => (m.at n).watched
 there : ∀ k, s.there k = (m.there k && !decide (k ∈ l))
 at' : ∀ k, 1 ≤ k → s.at k = if k ∈ l then noMO else m.at k
theorem dr_of {m : MS} {l : List Int} (hn : l.Nodup) (hl : ∀ n ∈ l, m.there n = true) : Dr m l (m.dropL l) := by
 rw [dropL_sw hn hl]
 have hS := sw_of (K := fun _ => false) (g := id) (fun _ => rfl) hn hl
 obtain ⟨a, b⟩ := sw_rest (K := fun _ => false) (g := id) l m
 refine ⟨hS.words, hS.len, hS.on, a, b, ?_, fun k => ?_, fun k hk => ?_⟩
 ·rw [hS.told]; simp
 ·rw [hS.there]
  by_cases e : k ∈ l
  ·simp [e]
  ·simp [e]
 ·rw [hS.at' k hk]; simp
def MS.oldL (m : MS) (k : Nat) : MS := (upto k).foldl (fun s n => s.put n (s.at n).old) m
theorem oldL_succ (m : MS) (k : Nat) : m.oldL (k + 1) = (m.oldL k).put ((k : Int) + 1) ((m.oldL k).at ((k : Int) + 1)).old := by
 unfold MS.oldL
 rw [upto_succ, List.foldl_append]; rfl
theorem oldL_all (m : MS) : ∀ k : Nat, k ≤ m.objs.length → (m.oldL k).words = m.words ∧ (m.oldL k).objs.length = m.objs.length ∧ (m.oldL k).on = m.on ∧ (m.oldL k).doomed = m.doomed ∧ (m.oldL k).owed = m.owed ∧ (m.oldL k).told = m.told ∧ ∀ n : Int, 1 ≤ n → (m.oldL k).at n = if n ≤ (k : Int) then (m.at n).old else m.at n
 | 0, _ => ⟨rfl, rfl, rfl, rfl, rfl, rfl, fun n hn => by rw [if_neg (by omega)]; rfl⟩
 | k + 1, h => by
  obtain ⟨a1, a2, a3, a4, a5, a6, a7⟩ := oldL_all m k (by omega)
  rw [oldL_succ]
  refine ⟨a1, by rw [len_put]; exact a2, a3, a4, a5, a6, fun n hn => ?_⟩
  rw [at_put (by rw [a2]; omega) hn]
  by_cases e : n = (k : Int) + 1
  ·rw [if_pos e, if_pos (by omega), a7 _ (by omega), if_neg (by omega), e]
  ·rw [if_neg e, a7 n hn]
   by_cases e2 : n ≤ (k : Int)
   ·rw [if_pos e2, if_pos (by omega)]
   ·rw [if_neg e2, if_neg (by omega)]
theorem ends_eq {m : MS} (hn : m.doomed.Nodup) (hl : ∀ n ∈ m.doomed, m.there n = true) : ({ m.dropL m.endFree with doomed := [], on := false } : MS).oldL m.objs.length = m.ends := by
 have hen : m.endFree.Nodup := hn.filter _
 have hel : ∀ n ∈ m.endFree, m.there n = true := fun n hx => hl n (List.mem_filter.1 hx).1
 have hD := dr_of hen hel
 obtain ⟨a1, a2, a3, a4, a5, a6, a7⟩ := oldL_all ({ m.dropL m.endFree with doomed := [], on := false } : MS) m.objs.length (by rw [show ({ m.dropL m.endFree with doomed := [], on := false } : MS).objs = (m.dropL m.endFree).objs from rfl, hD.len]; exact Nat.le_refl _)
 have hlen : ({ m.dropL m.endFree with doomed := [], on := false } : MS).objs.length = m.objs.length := hD.len
 have hel2 : m.ends.objs.length = m.objs.length := by
  show ((m.frees m.endFree).objs.map _).length = _
  rw [List.length_map, frees_len]
 refine MS.ext' ?_ ?_ ?_ ?_ ?_ ?_ fun n h1 h2 => ?_
 ·rw [a1]; exact hD.words
 ·rw [a2, hlen, hel2]
 ·rw [a3]; rfl
 ·rw [a4]; rfl
 ·rw [a5]; exact hD.owed
 ·rw [a6]; exact hD.told
 ·rw [a2, hlen] at h2
  rw [a7 n h1, if_pos (by omega)]
  have e1 : ({ m.dropL m.endFree with doomed := [], on := false } : MS).at n = (m.dropL m.endFree).at n := at_objs rfl n
  have ho : m.ends.objs = ((m.frees m.endFree).mapO MO.old).objs := rfl
  rw [e1, hD.at' n h1, at_objs ho, mapO_at h1 (by rw [frees_len]; exact h2), frees_at h1 h2]
section
variable {base Rb : Nat} {γ : Lay} {m m' : MS} {w w' : World} {ov dv tv : Value} {kv vv : Int → Value}
theorem step_end {w0 : World} (h : RAt base w0 Rb γ m) (hl : m.objs.length ≤ 100000000) (hbw : base ≤ w0.heap.size) {R : Ending → World → Prop} {ρ : Env} (s0 : ρ 0 = ptr Rb)
  (hk : ∀ W γ', RAt base W Rb γ' (({ m with doomed := [], on := false } : MS).oldL m.objs.length) → Turn γ w0 γ' W → R (.returned (.bool true)) W) : ir124_k13.wp ⟨Tryz.prog, 132, ir124_V, []⟩ (retK [.tmp 6] R) (ksOf [.tmp 6] R) ρ w0 := by
 obtain ⟨ov, dv, tv, kv, vv, ho⟩ := h.opened
 have s0' : ρ 0 = .pointer (some ⟨Rb, 0, none⟩) := s0
 simp -implicitDefEqProofs [-wps_asg, -wps_eff, wa2, we2, ir124_k13, s0', ho.hd.cell]
 refine eff_store1 (B := Rb) (i := 3) (by simp) ho.hd (by simp) rfl rfl sz35 fun W1 hO1 hb1 => ?_
 simp at hb1
 obtain ⟨a1, a2, a3⟩ := h.hdr (m' := { m with doomed := [] }) hbw ho rfl (kd := none) (kt := γ .en) (Fr.only hO1 (.inl rfl)) hb1 ⟨Own.nil _ _ _ _, rfl⟩ (ho.told.keep fun b hb => hO1.block b (h.ne hb h.hb (by simp))) (by simp) (fun x hx => .inl hx) (by simp)
 have z1 := a2.1.size
 simp -implicitDefEqProofs [-wps_asg, -wps_eff, wa2, we2, s0', hb1.cell]
 refine eff_store1 (B := Rb) (i := 2) (by simp) a3.hd (by simp) rfl rfl sz4 fun W2 hO2 hb2 => ?_
 simp at hb2
 obtain ⟨γ2, b1, b2, b3⟩ := a1.hdr0 (m' := { m with doomed := [], on := false }) (by omega) a3 rfl rfl rfl hO2 (by simpa using hb2)
 have z2 := b2.1.size
 obtain ⟨f, hf⟩ : ∃ f : MS, f = { m with doomed := [], on := false } := ⟨_, rfl⟩
 have hfl : f.objs.length = m.objs.length := by rw [hf]
 rw [← hf] at b1 b3 hk
 simp -implicitDefEqProofs [-wps_asg, -wps_eff, wa2, we2]
 obtain ⟨I, hI⟩ : ∃ I : Nat → Env → World → Prop, ∀ k ρ' W', I k ρ' W' ↔ (ρ' 0 = ptr Rb ∧ ∃ γ', RAt base W' Rb γ' (f.oldL k) ∧ Turn γ w0 γ' W') := ⟨_, fun _ _ _ => Iff.rfl⟩
 refine loopC 13 m.objs.length I (by rfl) ((hI _ _ _).2 ⟨by simp [s0], γ2, b1, a2.trans b2⟩) ?_
 intro k ρ' W' hk2 h13 hi
 obtain ⟨u0, γ', hR', hT'⟩ := (hI _ _ _).1 hi
 have u0' : ρ' 0 = .pointer (some ⟨Rb, 0, none⟩) := u0
 obtain ⟨ov', dv', tv', kv', vv', ho'⟩ := hR'.opened
 have hr' := RowO.of ho'.objs
 obtain ⟨c1, c2, c3, c4, c5, c6, c7⟩ := oldL_all f k (by omega)
 have hlr := hr'.len
 rw [c2, hfl] at hlr
 by_cases hlt : k < m.objs.length
 rotate_left
 ·have hke : k = m.objs.length := by omega
  subst hke
  simp -implicitDefEqProofs [-wps_asg, -wps_eff, wa2, we2, ir124_l11, h13, u0', ho'.hd.cell, hr'.is, hlr, ir124_k12]
  exact hk W' γ' hR' hT'
 have hlt5 : k * 7 + 5 < (cellsO kv' vv' (f.oldL k).objs).length := by
  rw [cellsO_len, c2, hfl]
  have : (k + 1) * 7 ≤ m.objs.length * 7 := Nat.mul_le_mul_right _ hlt
  omega
 have hwk : IntKind.i64.wrap ((k : Int) + 1) = (k : Int) + 1 := i64w (by omega)
 simp -implicitDefEqProofs [-wps_asg, -wps_eff, wa2, we2, ir124_l11, h13, u0', ho'.hd.cell, hr'.is, hlr, hlt, ir124_k10]
 refine eff_storeR (base := base) (i := k * 7 + 5) ho'.objs hlt5 (by simp) (by simp [Value.cells]) (by simp) sz3' fun g W3 hg3 hO3 hrow3 => ?_
 simp at hrow3
 have hbk : 1 ≤ (k : Int) + 1 ∧ (k : Int) + 1 ≤ (f.oldL k).objs.length := by rw [c2, hfl]; omega
 have e0 : ((k : Int) + 1 - 1).toNat = k := by omega
 obtain ⟨d1, d2⟩ := hR'.cellPut ho' (ref := (k : Int) + 1) hbk hg3 hO3 (o := ((f.oldL k).at ((k : Int) + 1)).old) (j := 5) (v := .int .i64 2) (by decide) (fun a b => rfl) (by rw [e0]; exact hrow3) rfl rfl
 simp -implicitDefEqProofs [-wps_asg, -wps_eff, wa2, we2, ir124_k9, h13, hwk]
 refine (hI _ _ _).2 ⟨by simp [u0], γ', ?_, hT'.trans d2⟩
 rw [oldL_succ]; exact d1
end
end Go.L17
namespace Go.L17
open Go Go.Eng Go.RowKit
open Go.Proofs hiding encI
set_option maxRecDepth 100000
set_option maxHeartbeats 4000000
section
variable {base Rb : Nat} {γ : Lay} {m m' : MS} {w w' : World} {ov dv tv : Value} {kv vv : Int → Value}
theorem step_free {w0 : World} (h : RAt base w0 Rb γ m) (hg : MG m) (hbw : base ≤ w0.heap.size) (htl : m.told.length ≤ 100000000000) (hn : m.doomed.Nodup) (hd : ∀ n ∈ m.doomed, m.there n = true) {x : Value} {ks : List Int} {bx : Nat} (hx : Own bx 4 1 w0 x (outL m.objs.length ks)) (hxn : ∀ b, x.ownBlock = some b → ¬ γ.has b)
  (hks : ∀ n, n ∈ ks ↔ m.met m.stay n = true) {R : Ending → World → Prop} {ρ : Env} (s0 : ρ 0 = ptr Rb) (s11 : ρ 11 = x) (s12 : ρ 12 = .int .i64 0)
  (hk : ∀ W γ', RAt base W Rb γ' m.ends → Turn γ w0 γ' W → R (.returned (.bool true)) W) : (IR.seq (.block 4 (.loop ir124_l8)) ir124_k13).wp ⟨Tryz.prog, 132, ir124_V, []⟩ (retK [.tmp 6] R) (ksOf [.tmp 6] R) ρ w0 := by
 have hl := hg.len
 obtain ⟨F, hF⟩ : ∃ F : Int → Bool, F = fun n => !m.met m.stay n := ⟨_, rfl⟩
 have hdl : m.doomed.length ≤ 500000 := by
  have h1 := nodup_le' m.doomed m.thereL hn fun y hy => mem_thereL.2 (hd y hy)
  have := thereL_len m (by have := hg.words; omega)
  omega
 have hDr : ∀ i, Dr m ((m.doomed.take i).filter F) (m.dropL ((m.doomed.take i).filter F)) := fun i => dr_of ((hn.sublist (List.take_sublist _ _)).filter _) fun y hy => hd y (List.take_subset _ _ (List.mem_filter.1 hy).1)
 simp -implicitDefEqProofs [-wps_asg, -wps_eff, wa2, we2]
 obtain ⟨I, hI⟩ : ∃ I : Nat → Env → World → Prop, ∀ i ρ' W', I i ρ' W' ↔ (ρ' 0 = ptr Rb ∧ ρ' 11 = x ∧ ∃ γ', RAt base W' Rb γ' (m.dropL ((m.doomed.take i).filter F)) ∧ Turn γ w0 γ' W') := ⟨_, fun _ _ _ => Iff.rfl⟩
 refine loopC 12 m.doomed.length I s12 ((hI _ _ _).2 ⟨s0, s11, γ, by simpa [MS.dropL] using h, Turn.of (ext_refl _)⟩) ?_
 intro i ρ' W' hi2 h12 hi
 obtain ⟨u0, u11, γ', hR', hT'⟩ := (hI _ _ _).1 hi
 have u0' : ρ' 0 = .pointer (some ⟨Rb, 0, none⟩) := u0
 have hS := hDr i
 obtain ⟨s, hsd⟩ : ∃ s, s = m.dropL ((m.doomed.take i).filter F) := ⟨_, rfl⟩
 rw [← hsd] at hS hR'
 have z' := hT'.1.size
 obtain ⟨ov', dv', tv', kv', vv', ho'⟩ := hR'.opened
 have hdoom := ho'.doom
 rw [hS.doomed] at hdoom
 have hdv := hdoom.sl (enc := encI) (by omega)
 have hx' : Own bx 4 1 W' x (outL m.objs.length ks) := Own.same' hx fun b hb => hT'.1.block b (Own.blk hx b hb).2 (hxn b hb)
 have hxc' := own_cells hx'
 have hxl : slLen x = m.objs.length + 1 := by have := hxc'.len; rw [outL_len] at this; omega
 by_cases hlt : i < m.doomed.length
 rotate_left
 ·have hie : i = m.doomed.length := by omega
  subst hie
  simp -implicitDefEqProofs [-wps_asg, -wps_eff, wa2, we2, ir124_l8, h12, u0', ho'.hd.cell, hdv.is, hdv.len]
  rw [List.take_length] at hsd
  have hef : m.doomed.filter F = m.endFree := by rw [hF]; rfl
  rw [hef] at hsd
  refine step_end hR' (by rw [hS.len]; exact hl) (by omega) u0 fun W2 γ2 h2 hT2 => ?_
  refine hk W2 γ2 ?_ (hT'.trans hT2)
  rw [← ends_eq hn hd, ← hsd, ← hS.len]; exact h2
 obtain ⟨n, hnd⟩ : ∃ n, n = m.doomed[i] := ⟨_, rfl⟩
 have hmem : n ∈ m.doomed := by rw [hnd]; exact List.getElem_mem hlt
 have htn := hd n hmem
 have hbn := there_le htn
 have hcd := hdv.cell i hlt
 rw [← hnd] at hcd
 have hnt : n ∉ (m.doomed.take i).filter F := fun hc => by
  obtain ⟨j, hj, e⟩ := List.getElem_of_mem (List.mem_filter.1 hc).1
  rw [List.getElem_take] at e
  rw [List.length_take] at hj
  have := List.pairwise_iff_getElem.1 (List.nodup_iff_pairwise_ne.1 hn) j i (by omega) hlt (by omega)
  rw [e, hnd] at this
  exact this rfl
 have hrt : n.toNat < m.objs.length + 1 := by omega
 have hc := hxc'.cell n.toNat (by rw [outL_len]; exact hrt)
 rw [outL_get hrt] at hc
 have hrI : (n.toNat : Int) = n := by omega
 rw [hrI] at hc
 have hdec : decide (n ∈ ks) = m.met m.stay n := by
  rw [Bool.eq_iff_iff]; simp [hks]
 rw [hdec] at hc
 have hn1 : (0 : Int) ≤ n := by omega
 have hn2 : n < (m.objs.length : Int) + 1 := by omega
 have hwi : IntKind.i64.wrap ((i : Int) + 1) = (i : Int) + 1 := i64w (by omega)
 have htk : (m.doomed.take (i + 1)).filter F = (m.doomed.take i).filter F ++ (if F n then [n] else []) := by
  rw [List.take_add_one, List.getElem?_eq_getElem hlt, ← hnd, List.filter_append]
  cases hf : F n <;> simp [hf]
 obtain ⟨Z, hZ⟩ : ∃ Z : Env → World → Prop, Z = fun ρ'' w'' => i < m.doomed.length ∧ ρ'' 12 = .int .i64 ((i : Int) + 1) ∧ I (i + 1) ρ'' w'' := ⟨_, rfl⟩
 rw [← hZ]
 cases hm : m.met m.stay n with
 | true =>
  rw [hm] at hc
  have hfn : F n = false := by rw [hF]; simp [hm]
  simp -implicitDefEqProofs [-wps_asg, -wps_eff, wa2, we2, ir124_l8, h12, u0', ho'.hd.cell, hdv.is, hdv.len, hlt, ir124_k7, hcd, encI, u11, hxc'.is, hxl, hn1, hn2, hc, ir124_k6, hwi]
  rw [hZ]
  refine ⟨hlt, by simp, (hI _ _ _).2 ⟨by simp [u0], by simp [u11], γ', ?_, hT'⟩⟩
  rw [htk, if_neg (by simp [hfn]), List.append_nil, ← hsd]; exact hR'
 | false =>
  rw [hm] at hc
  have hfn : F n = true := by rw [hF]; simp [hm]
  simp -implicitDefEqProofs [-wps_asg, -wps_eff, wa2, we2, ir124_l8, h12, u0', ho'.hd.cell, hdv.is, hdv.len, hlt, ir124_k7, hcd, encI, u11, hxc'.is, hxl, hn1, hn2, hc]
  have htl2 : s.told.length ≤ 1000000000000 := by
   rw [hS.told, List.length_append]
   have h1 := List.length_filter_le (fun n => (m.at n).watched) ((m.doomed.take i).filter F)
   have h2 := List.length_filter_le F (m.doomed.take i)
   rw [List.length_take] at h2
   omega
  have hfr := r_free hR' (by rw [hS.len]; exact hl) (by omega) htl2 (by rw [hS.len]; exact hbn)
  simp [ptr] at hfr
  refine hfr.mono ?_
  rintro _ W6 ⟨rfl, γ6, d1, d2⟩
  simp -implicitDefEqProofs [-wps_asg, -wps_eff, wa2, we2, ir124_k6, h12, hwi]
  rw [hZ]
  refine ⟨hlt, by simp, (hI _ _ _).2 ⟨by simp [u0], by simp [u11], γ6, ?_, hT'.trans d2⟩⟩
  rw [htk, if_pos hfn]
  have : m.dropL ((m.doomed.take i).filter F ++ [n]) = s.drop n := by rw [hsd]; simp [MS.dropL, List.foldl_append]
  rw [this]; exact d1
theorem r_Stepped (h : RAt base w Rb γ m) (hg : MG m) (hbw : base ≤ w.heap.size) (how : -1000000000000 ≤ m.owed ∧ m.owed ≤ 1000000000000) (htl : m.told.length ≤ 100000000000) (hn : m.doomed.Nodup) (hd : ∀ n ∈ m.doomed, m.there n = true) {work : Int} (hwk : 1 ≤ work ∧ work ≤ 100000) (ended : Bool) :
  Calls Tryz.prog 124 #[ptr Rb, .int .i64 work, .bool ended] w (RpR base w Rb γ (.bool (m.stepped work ended).1) (m.stepped work ended).2) := by
 obtain ⟨R, hR⟩ : ∃ R, R = RpR base w Rb γ (.bool (m.stepped work ended).1) (m.stepped work ended).2 := ⟨_, rfl⟩
 rw [← hR]
 have hl := hg.len
 obtain ⟨ov, dv, tv, kv, vv, ho⟩ := h.opened
 have hr := RowO.of ho.objs
 refine ir124_calls fun ρ r0 r1 r2 => ?_
 have r0' : ρ 0 = .pointer (some ⟨Rb, 0, none⟩) := r0
 cases ended with
 | false =>
  have hw1 : IntKind.i64.wrap (m.owed - work) = m.owed - work := i64w (by omega)
  simp -implicitDefEqProofs [-wps_asg, -wps_eff, wa2, we2, ir124, r0', r1, r2, ho.hd.cell, hw1]
  refine eff_store1 (B := Rb) (i := 4) (by simp) ho.hd (by simp) rfl rfl sz3' fun W2 hO2 hb2 => ?_
  simp at hb2
  obtain ⟨γ', a1, a2, a3⟩ := h.hdr0 (m' := { m with owed := m.owed - work }) hbw ho rfl rfl rfl hO2 (by simpa using hb2)
  simp -implicitDefEqProofs [-wps_asg, -wps_eff, wa2, we2, r0', hb2.cell]
  rw [hR]
  exact ⟨by simp [MS.stepped], γ', by simpa [MS.stepped] using a1, a2⟩
 | true =>
 have hst : m.stepped work true = (true, m.ends) := rfl
 have hdl : m.doomed.length ≤ 500000 := by
  have h1 := nodup_le' m.doomed m.thereL hn fun y hy => mem_thereL.2 (hd y hy)
  have := thereL_len m (by have := hg.words; omega)
  omega
 simp -implicitDefEqProofs [-wps_asg, -wps_eff, wa2, we2, ir124, r2, ir124_k16, r0', ho.hd.cell, hr.is, hr.len, i64w (n := (m.objs.length : Int) + 1) (by omega)]
 refine eff_make (n := m.objs.length + 1) mi143 (by simp; rfl) (by simp; rfl) (by omega) (by omega) mz4 fun B W1 hB hE1 hb1 => ?_
 rw [outL_nil] at hb1
 obtain ⟨xv, hxv⟩ : ∃ xv, xv = Value.slice (some ⟨B, 0, none⟩) (m.objs.length + 1) (m.objs.length + 1) := ⟨_, rfl⟩
 have hxb : xv.ownBlock = some B := by rw [hxv]; rfl
 have hxl : slLen xv = m.objs.length + 1 := by rw [hxv]; rfl
 have hx1 : Own w.heap.size 4 1 W1 xv (outL m.objs.length []) := by
  rw [hxv]
  exact Own.lit hb1 (by rw [outL_len]; omega) hB (by simp only [maxLen]; omega)
 rw [← hxv]
 simp -implicitDefEqProofs [-wps_asg, -wps_eff, wa2, we2]
 obtain ⟨I, hI⟩ : ∃ I : Nat → Env → World → Prop, ∀ i ρ' W', I i ρ' W' ↔ (ρ' 0 = ptr Rb ∧ ρ' 7 = xv ∧ Ext w W' ∧ Own w.heap.size 4 1 W' xv (outL m.objs.length (m.doomed.take i))) := ⟨_, fun _ _ _ => Iff.rfl⟩
 refine loopC 8 m.doomed.length I (by rfl) ((hI _ _ _).2 ⟨by simp [r0], by simp, hE1, by simpa using hx1⟩) ?_
 intro i ρ' W' hi2 h8 hi
 obtain ⟨u0, u7, hE, hx⟩ := (hI _ _ _).1 hi
 have u0' : ρ' 0 = .pointer (some ⟨Rb, 0, none⟩) := u0
 have ho' := ho.ext h hE
 have hR' := h.ext hE
 have hdv := ho'.doom.sl (enc := encI) (by omega)
 have z' := hE.size
 have hxis := (own_cells hx).is
 by_cases hlt : i < m.doomed.length
 ·have hmem : m.doomed[i] ∈ m.doomed := List.getElem_mem hlt
  have hbn := there_le (hd _ hmem)
  have hcd := hdv.cell i hlt
  have hn1 : (0 : Int) ≤ m.doomed[i] := by omega
  have hn2 : m.doomed[i] < (m.objs.length : Int) + 1 := by omega
  have hwi : IntKind.i64.wrap ((i : Int) + 1) = (i : Int) + 1 := i64w (by omega)
  simp -implicitDefEqProofs [-wps_asg, -wps_eff, wa2, we2, ir124_l2, h8, u0', ho'.hd.cell, hdv.is, hdv.len, hlt, ir124_k1, hcd, encI, u7, hxis, hxl, hn1, hn2]
  refine eff_storeR (base := w.heap.size) (i := m.doomed[i].toNat) hx (by rw [outL_len]; omega) (by simp) (by simp [Value.cells]) (by simp) sz4 fun g W7 hg7 hO7 hx7 => ?_
  simp at hx7
  rw [hxb] at hg7
  cases hg7
  rw [outL_set hn1] at hx7
  simp -implicitDefEqProofs [-wps_asg, -wps_eff, wa2, we2, ir124_k0, h8, hwi]
  refine (hI _ _ _).2 ⟨by simp [u0], by simp [u7], hO7.ext hE hB, ?_⟩
  rw [List.take_add_one, List.getElem?_eq_getElem hlt]; exact hx7
 have hie : i = m.doomed.length := by omega
 subst hie
 rw [List.take_length] at hx
 have hr' := RowO.of ho'.objs
 simp -implicitDefEqProofs [-wps_asg, -wps_eff, wa2, we2, ir124_l2, h8, u0', ho'.hd.cell, hdv.is, hdv.len, ir124_k15]
 obtain ⟨P, hP⟩ : ∃ P : Int → Bool, P = fun n => m.there n && !m.doomed.contains n := ⟨_, rfl⟩
 have hstay : m.stay = (upto m.objs.length).filter P := by rw [hP]; rfl
 obtain ⟨J, hJ⟩ : ∃ J : Nat → Env → World → Prop, ∀ k ρ2 W2, J k ρ2 W2 ↔ (ρ2 0 = ptr Rb ∧ ρ2 7 = xv ∧ Ext w W2 ∧ W'.heap.size ≤ W2.heap.size ∧ W2.heap[B]? = W'.heap[B]? ∧ ∃ lv, ρ2 9 = lv ∧ Own w.heap.size 3 1 W2 lv (((upto (k - 1)).filter P).map encI) ∧ ∀ b, lv.ownBlock = some b → b ≠ B) := ⟨_, fun _ _ _ => Iff.rfl⟩
 refine loopF 10 (m.objs.length + 1) 1 J (by rfl) (by omega) ((hJ _ _ _).2 ⟨by simp [u0], by simp [u7], hE, Nat.le_refl _, rfl, .slice none 0 0, by rfl, by simpa [upto] using Own.nil _ _ _ _, by simp [Value.ownBlock]⟩) ?_
 intro k ρ2 W2 hk1 hk2 h10 hj
 obtain ⟨v0, v7, hE2, z2, hkB, lv, v9, hlv, hlB⟩ := (hJ _ _ _).1 hj
 have v0' : ρ2 0 = .pointer (some ⟨Rb, 0, none⟩) := v0
 have ho2 := ho.ext h hE2
 have hR2 := h.ext hE2
 have hr2 := RowO.of ho2.objs
 have hx2 : Own w.heap.size 4 1 W2 xv (outL m.objs.length m.doomed) := Own.same' hx fun b hb => by rw [hxb] at hb; cases hb; exact hkB
 have hBl : B < W'.heap.size := (Own.blk hx B hxb).2
 have hxc2 := own_cells hx2
 have zz2 := hE2.size
 by_cases hlt2 : k < m.objs.length + 1
 ·have hltI : (k : Int) ≤ (m.objs.length : Int) := by omega
  have hltI2 : (k : Int) < (m.objs.length : Int) + 1 := by omega
  have hup : upto (k + 1 - 1) = upto (k - 1) ++ [(k : Int)] := by
   have h1 : k + 1 - 1 = (k - 1) + 1 := by omega
   have h2 : ((k - 1 : Nat) : Int) + 1 = (k : Int) := by omega
   rw [h1, upto_succ, h2]
  have hwk : IntKind.i64.wrap ((k : Int) + 1) = (k : Int) + 1 := i64w (by omega)
  have hc := hxc2.cell k (by rw [outL_len]; exact hlt2)
  rw [outL_get hlt2] at hc
  obtain ⟨Z, hZ⟩ : ∃ Z : Env → World → Prop, Z = fun ρ'' w'' => k < m.objs.length + 1 ∧ ρ'' 10 = .int .i64 ((k : Int) + 1) ∧ J (k + 1) ρ'' w'' := ⟨_, rfl⟩
  rw [← hZ]
  have hskip : P k = false → ∀ ρ3 : Env, ρ3 0 = ptr Rb → ρ3 7 = xv → ρ3 9 = lv → ρ3 10 = .int .i64 k → ∀ Q : Ks, ir124_k3.wp ⟨Tryz.prog, 132, ir124_V, []⟩ Z Q ρ3 W2 := by
   intro hPk ρ3 y0 y7 y9 y10 Q
   simp -implicitDefEqProofs [-wps_asg, -wps_eff, wa2, we2, ir124_k3, y10, hwk]
   rw [hZ]
   refine ⟨hlt2, by simp, (hJ _ _ _).2 ⟨by simp [y0], by simp [y7], hE2, z2, hkB, lv, by simp [y9], ?_, hlB⟩⟩
   rw [hup, List.filter_append]
   simpa [hPk] using hlv
  have hth := r_There hR2 hl k
  simp [ptr] at hth
  simp -implicitDefEqProofs [-wps_asg, -wps_eff, wa2, we2, ir124_l5, h10, v0', ho2.hd.cell, hr2.is, hr2.len, hltI, ir124_k4]
  refine hth.mono ?_
  rintro _ W5 ⟨rfl, rfl⟩
  cases htk : m.there k with
  | false =>
   simp -implicitDefEqProofs [-wps_asg, -wps_eff, wa2, we2]
   refine hskip (by rw [hP]; simp [htk]) _ ?_ ?_ ?_ ?_ _ <;> simp [v0, v7, v9, h10, ptr]
  | true =>
  by_cases hdk : (k : Int) ∈ m.doomed
  ·simp -implicitDefEqProofs [-wps_asg, -wps_eff, wa2, we2, v7, h10, hxc2.is, hxl, hlt2, hltI2, hc, hdk]
   refine hskip (by rw [hP]; simp [htk, hdk]) _ ?_ ?_ ?_ ?_ _ <;> simp [v0, v7, v9, h10, ptr]
  ·have hPk : P k = true := by rw [hP]; simp [htk, hdk]
   simp -implicitDefEqProofs [-wps_asg, -wps_eff, wa2, we2, v7, h10, hxc2.is, hxl, hlt2, hltI2, hc, hdk, v9]
   refine eff_lit si35 (by decide) (by decide) (by simp [Value.cells]) fun Bx Wx hBx hEx hbx _ => ?_
   simp [Value.cells] at hbx
   have zx := hEx.size
   simp -implicitDefEqProofs [-wps_asg, -wps_eff, wa2, we2]
   refine eff_push1 (hE2.trans' hEx) (hlv.ext hEx) (by
    have := List.length_filter_le P (upto (k - 1))
    rw [upto_len] at this; omega) (by simp) (by simp) hbx (by omega) fun lv3 Wy hly hEy zy hky hby => ?_
   simp -implicitDefEqProofs [-wps_asg, -wps_eff, wa2, we2, ir124_k3, h10, hwk]
   rw [hZ]
   refine ⟨hlt2, by simp, (hJ _ _ _).2 ⟨by simp [v0], by simp [v7], hEy, by omega, ((hky B (by omega) fun e => hlB B e rfl).trans (hEx.block B (by omega))).trans hkB, lv3, by simp, ?_, fun b hb => ?_⟩⟩
   ·rw [hup, List.filter_append]
    simpa [hPk] using hly
   ·rcases hby b hb with e | e
    ·exact hlB b e
    ·omega
 have hke : k = m.objs.length + 1 := by omega
 subst hke
 have hnl : ¬ ((m.objs.length : Int) + 1 ≤ m.objs.length) := by omega
 have hlv' : Own w.heap.size 3 1 W2 lv (m.stay.map encI) := by rw [hstay]; exact hlv
 have hall : ∀ n ∈ m.stay, n ≠ 0 → m.there n = true := fun n hn _ => (mem_stay.1 hn).1
 have hlen2 : m.stay.length ≤ 1000000 := by
  have h1 : m.stay.length ≤ m.thereL.length := by
   refine nodup_le' _ _ ?_ fun x hx => mem_thereL.2 (mem_stay.1 hx).1
   rw [hstay]
   exact (upto_nodup _).filter _
  have := thereL_len m (by have := hg.words; omega)
  omega
 simp -implicitDefEqProofs [-wps_asg, -wps_eff, wa2, we2, ir124_l5, h10, v0', ho2.hd.cell, hr2.is, hr2.len, hnl, ir124_k14, v9]
 have hrc := r_reached hR2 hg (hlv'.sl (enc := encI) (by omega)) hlen2 hall
 simp [ptr] at hrc
 refine hrc.mono ?_
 rintro _ W3 ⟨x3, ks, rfl, hx3, hks, hE3⟩
 have z3 := hE3.size
 have hE03 := hE2.trans' hE3
 simp -implicitDefEqProofs [-wps_asg, -wps_eff, wa2, we2]
 refine step_free (h.ext hE03) hg (by omega) htl hn hd hx3 (fun b hb hh => ?_) hks (by simp [v0]) (by simp) (by rfl) fun W γ' hW hT => ?_
 ·obtain ⟨r, hr⟩ := hh
  have := h.hi r b hr
  have := (Own.blk hx3 b hb).1
  omega
 ·rw [hR, hst]
  exact ⟨rfl, γ', hW, (Turn.of hE03).trans hT⟩
end
end Go.L17
