/- Texts of mine for the claims about layer 17 (heap), joined: L17N, L17O, L17R, L17T, L17U, L17V, L17W, L17X, L17Y, L17Z, L17a. -/
import Derived.Test.YtbopdbinllokkaaGreatJau
set_option linter.all false
set_option linter.unusedSimpArgs false
set_option linter.unusedVariables false
namespace Go.L17
open Go Go.Eng Go.RowKit Go.Proofs
set_option maxRecDepth 100000
set_option maxHeartbeats 2000000
theorem und125 : Tryz.prog.underlying 125 = some (.map 3 35) := by kernel_rfl
theorem zi35 : ((Tryz.prog.info? 35).bind fun i => i.zero) = some (.slice none 0 0) := by kernel_rfl
@[simp] theorem cb103 : callB Tryz.prog 103 = true := by kernel_rfl
theorem find_was (l : List (Int × List Int)) (g : Int → Value) (n : Int) : (I.lookP (l.map fun p => (p.1, g p.1)) n) = (l.find? fun p => decide (p.1 = n)).map fun _ => g n := by
 induction l with
 | nil => simp
 | cons p l ih =>
  rw [List.map_cons, I.look_cons, List.find?_cons, ih]
  by_cases h : p.1 = n
  ·subst h; simp
  ·simp [h]
theorem was_none {c : Wh} {n : Int} : c.wasOf n = none ↔ (c.was.find? fun p => decide (p.1 = n)) = none := by simp [Wh.wasOf]
theorem setP_none {n : Int} {v : Value} : ∀ {l : List (Int × Value)}, I.lookP l n = none → I.setP l n v = l ++ [(n, v)]
 | [], _ => rfl
 | p :: l, h => by
  rw [I.look_cons] at h
  by_cases hp : p.1 = n
  ·rw [if_pos hp] at h; cases h
  ·rw [if_neg hp] at h
   rw [I.setP, if_neg hp, setP_none h]; rfl
theorem note_note (c : Wh) (m : MS) (n : Int) : (c.note m n).note m n = c.note m n := by
 unfold Wh.note
 by_cases h : c.first < n
 ·simp [h]
 ·simp only [h, if_false]
  cases hw : c.wasOf n with
  | some x => simp [h, hw]
  | none =>
   have : Wh.wasOf { c with was := c.was ++ [(n, m.refsOf n)] } n = some (m.refsOf n) := by
    have h1 := was_none.1 hw
    simp only [Wh.wasOf, List.find?_append, h1]
    simp
   simp [h, this]
theorem Inv.note {s m : MS} {roots : List Int} {c : Wh} (h : Inv s roots m c) (n : Int) : Inv s roots m (c.note m n) := by
 obtain ⟨e1, e2, e3, e4⟩ := note_first c m n
 have hr : ∀ k, (c.note m n).refs m k = c.refs m k := by
  intro k
  unfold Wh.refs
  by_cases hn : c.first < n
  ·have : c.note m n = c := by unfold Wh.note; rw [if_pos hn]
   rw [this]
  ·rw [wasOf_note c m n k (by omega)]
   by_cases hk : k = n
   ·subst hk; simp [Wh.refs]
   ·simp [hk]
 have hu : (c.note m n).unl m = c.unl m := by unfold Wh.unl; rw [e1, e2, e3]
 exact ⟨e1.trans h.first, h.more, h.ok, by rw [e2, e3]; exact h.gray, by rw [e3]; exact h.dup, by rw [e2]; exact h.met, by rw [e2]; exact h.root, by rw [e2, e3]; exact h.closed, h.there, by rw [e1]; exact h.there2, fun k hk => (hr k).trans (h.was k hk), h.doomed, by rw [hu, e4]; exact h.pay⟩
structure NoteR (base : Nat) (w : World) (β : Lay) (m : MS) (c : Option Wh) (onv : Value) (ref : Int) (β' : Lay) (w' : World) : Prop where
 same : ∀ r, r ≠ .wv ref → β' r = β r
 wv : ∀ b, β' (.wv ref) = some b → (β (.wv ref) = some b ∨ w.heap.size ≤ b) ∧ b < w'.heap.size
 fr : Fr (fun k => β .wm = some k) w w'
 wh : WhAt base w' β' m (c.map fun x => x.note m ref) onv
def wvR (β : Lay) (ref : Int) (b : Option Nat) : Lay
 | .wv k => if k = ref then b else β (.wv k)
 | r => β r
theorem t_note {base Hb M p f : Nat} {β : Lay} {m : MS} {c : Option Wh} {w : World} {x0 x1 x2 onv ev y1 y2 y3 vv : Value} {ps : List (Int × Value)} {ref : Int} {o : MO} (hinj : ∀ r1 r2 b, β r1 = some b → β r2 = some b → r1 = r2) (hhi : ∀ r b, β r = some b → b < w.heap.size) (hbase : base ≤ w.heap.size)
  (hd : Blk w Hb #[x0, x1, x2, .map (some M), onv, ev] 96) (hM : I.MapB w M ps) (hl : I.lookP ps ref = some (ptr p)) (hp : Blk w p #[.iface (tyOf o) (ptr f), y1, y2, y3] 133) (ho : ThAt base w β ref o f vv) (hv : Sl encI w vv o.vals) (hsm : o.vals.length ≤ 200) (hoa : m.at ref = o) (hw : WhAt base w β m c onv) :
  Calls Tryz.prog 103 #[ptr Hb, .int .i64 ref] w fun e w' => (∃ v, e = .returned v) ∧ ∃ β', NoteR base w β m c onv ref β' w' := by
 refine ir103_calls fun ρ r0 r1 => ?_
 cases hw with
 | off hoff =>
  simp -implicitDefEqProofs [-wps_asg, -wps_eff, wa2, we2, ir103, r0, ptr, hd.cell]
  refine eff_eqlNilP (p := none) und94 (by simp) ?_
  simp -implicitDefEqProofs [-wps_asg, -wps_eff, wa2, we2]
  exact ⟨β, fun _ _ => rfl, fun b hb => ⟨.inl hb, hhi _ b hb⟩, Fr.of (ext_refl _), .off hoff⟩
 | on c q bm wm gv sv s roots h1 h2 h3 h4 h5 h6 h7 h8 h9 h10 =>
  simp -implicitDefEqProofs [-wps_asg, -wps_eff, wa2, we2, ir103, r0, ptr, hd.cell]
  refine eff_eqlNilP (p := some ⟨q, 0, none⟩) und94 (by simp [ptr]) ?_
  simp -implicitDefEqProofs [-wps_asg, -wps_eff, wa2, we2, r0, r1, ptr, hd.cell, h6.cell]
  by_cases hf : c.first < ref
  ·have e : c.note m ref = c := by unfold Wh.note; rw [if_pos hf]
   simp -implicitDefEqProofs [-wps_asg, -wps_eff, wa2, we2, hf]
   exact ⟨β, fun _ _ => rfl, fun b hb => ⟨.inl hb, hhi _ b hb⟩, Fr.of (ext_refl _), by rw [Option.map_some, e]; exact .on c q bm wm gv sv s roots h1 h2 h3 h4 h5 h6 h7 h8 h9 h10⟩
  ·simp -implicitDefEqProofs [-wps_asg, -wps_eff, wa2, we2, hf, ir103_k0, r0, r1, ptr, hd.cell, h6.cell]
   refine I.eff_lookup (s := ref) und125 und3 zi35 (by simp) (by simp [r1]) h9 true ?_
   simp -implicitDefEqProofs [-wps_asg, -wps_eff, wa2, we2]
   rw [find_was]
   cases hwo : (c.was.find? fun p => decide (p.1 = ref)) with
   | some x =>
    have e : c.note m ref = c := by unfold Wh.note; rw [if_neg hf]; simp [Wh.wasOf, hwo]
    simp -implicitDefEqProofs [-wps_asg, -wps_eff, wa2, we2]
    exact ⟨β, fun _ _ => rfl, fun b hb => ⟨.inl hb, hhi _ b hb⟩, Fr.of (ext_refl _), by rw [Option.map_some, e]; exact .on c q bm wm gv sv s roots h1 h2 h3 h4 h5 h6 h7 h8 h9 h10⟩
   | none =>
    simp -implicitDefEqProofs [-wps_asg, -wps_eff, wa2, we2]
    refine raw_ord ir103_o3_ok (Ext w) fun W4 hE4 _ => ⟨hE4, ?_⟩
    have c1 : ∀ W5, Ext w W5 → ∀ i, W5.cell? ⟨Hb, i, none⟩ = #[x0, x1, x2, .map (some M), ptr q, ev][i]? := fun W5 h5 => (hd.ext h5).cell
    have c2 : ∀ W5, Ext w W5 → ∀ i, W5.cell? ⟨q, i, none⟩ = #[.int .i64 c.first, .map (some bm), gv, .map (some wm), .int .i64 c.left][i]? := fun W5 h5 => (h6.ext h5).cell
    have c3 : ∀ W5, Ext w W5 → ∀ i, W5.cell? ⟨p, i, none⟩ = #[.iface (tyOf o) (ptr f), y1, y2, y3][i]? := fun W5 h5 => (hp.ext h5).cell
    simp +contextual -implicitDefEqProofs [ir103_o3, r0, r1, ptr, c1, c2, hE4]
    refine I.eff_lookup (s := ref) und91 und3 zi129 (by simp) (by simp) (hM.ext hE4) false ?_
    simp +contextual -implicitDefEqProofs [hl, ptr, c3, hE4]
    refine (t_Collect (n := ref) (base := base) (β := β) (ho.ext hE4) (hv.ext hE4) (by omega)).mono ?_
    rintro _ w5 ⟨x, rfl, hx, hE5⟩
    have hE45 := hE4.trans' hE5
    simp -implicitDefEqProofs [-wps_asg, -wps_eff, wa2, we2]
    refine ⟨hE45, ?_⟩
    refine I.eff_mapUpdate (s := ref) und125 und3 (by simp) (by simp) (h9.ext hE45) fun w6 hO6 hm6 => ?_
    have hlk : I.lookP (c.was.map fun p => (p.1, sv p.1)) ref = none := by rw [find_was, hwo]; rfl
    rw [setP_none hlk] at hm6
    simp at hm6
    have hnm : ∀ y ∈ c.was, y.1 ≠ ref := fun y hy e => by
     have := List.find?_eq_none.1 hwo y hy
     simp [e] at this
    have hwl := hhi _ _ h5
    have z5 := hE45.size
    have hO : ∀ r b, β r = some b → b ≠ wm → w6.heap[b]? = w.heap[b]? := fun r b hb hne => (hO6.block b hne).trans (hE45.block b (hhi r b hb))
    have old : ∀ r b, β r = some b → r ≠ .wm → w6.heap[b]? = w.heap[b]? := fun r b hb hne => hO r b hb fun e => hne (hinj r .wm b hb (by rw [e]; exact h5))
    have hxB := Own.blk hx
    have z6 := hO6.size
    refine ⟨wvR β ref x.ownBlock, ?_, ?_, ?_, ?_⟩
    ·intro r hr
     cases r with
     | wv k =>
      by_cases e : k = ref
      ·subst e; exact absurd rfl hr
      ·simp [wvR, e]
     | _ => rfl
    ·intro b hb
     simp [wvR] at hb
     have := hxB b hb
     have := hE4.size
     exact ⟨.inr (by omega), by omega⟩
    ·exact (Fr.of hE45).trans (Fr.only hO6 (S := fun k => β .wm = some k) h5) (fun x h => .inl h)
    ·have en : c.note m ref = { c with was := c.was ++ [(ref, o.refs)] } := by
      unfold Wh.note
      rw [if_neg hf, was_none.2 hwo]
      simp [MS.refsOf, hoa]
     have hI := Inv.note h2 ref
     rw [en] at hI
     rw [Option.map_some, en]
     refine .on _ q bm wm gv (fun k => if k = ref then x else sv k) s roots h1 hI h3 h4 h5 (Blk.keep h6 (old _ _ h3 (by simp))) (h7.block (old _ _ h4 (by simp))) (h8.keep fun k hk => old .gr k hk (by simp)) ?_ ?_
     ·have e1 : ((c.was ++ [(ref, o.refs)]).map fun p => (p.1, if p.1 = ref then x else sv p.1)) = (c.was.map fun p => (p.1, sv p.1)) ++ [(ref, x)] := by
       rw [List.map_append]
       congr 1
       ·exact List.map_congr_left fun y hy => by rw [if_neg (hnm y hy)]
       ·simp
      show I.MapB w6 wm ((c.was ++ [(ref, o.refs)]).map fun p => (p.1, if p.1 = ref then x else sv p.1))
      rw [e1]; exact hm6
     ·intro y hy
      rcases List.mem_append.1 hy with hy | hy
      ·have hne := hnm y hy
       have e2 : wvR β ref x.ownBlock (.wv y.1) = β (.wv y.1) := by simp [wvR, hne]
       rw [e2]
       show SlAt base 3 w6 (if y.1 = ref then x else sv y.1) _ _
       rw [if_neg hne]
       exact (h10 y hy).keep fun k hk => old _ k hk (by simp)
      ·have hy' : y = (ref, o.refs) := by simpa using hy
       subst hy'
       show SlAt base 3 w6 (if ref = ref then x else sv ref) _ _
       rw [if_pos rfl]
       refine ⟨?_, by simp [wvR]⟩
       have hx' : Own base 3 1 w5 x (o.refs.map encI) := Own.low hx (by have := hE4.size; omega)
       exact Own.same' hx' fun k hk => hO6.block k fun e => by
        have := hxB k hk
        have := hE4.size
        omega
end Go.L17
namespace Go.L17
open Go Go.Eng Go.RowKit Go.Proofs
set_option maxRecDepth 100000
set_option maxHeartbeats 2000000
theorem paid_zero (m : MS) : m.paid 0 = m := by
 unfold MS.paid
 cases m with
 | mk a b c d e f => cases c <;> simp
theorem at_paid (m : MS) (j n : Int) : (m.paid j).at n = m.at n := rfl
theorem there_paid (m : MS) (j n : Int) : (m.paid j).there n = m.there n := rfl
theorem used_paid (m : MS) (j : Int) : (m.paid j).used = m.used := rfl
theorem used_put {m : MS} {ref : Int} {o : MO} (h : m.there ref = true) : (m.put ref o).used = m.used - (m.at ref).need + o.need := by
 obtain ⟨h1, h2⟩ := there_le h
 rw [used_range, used_range]
 have hl : (m.put ref o).objs.length = m.objs.length := by simp [MS.put]
 rw [hl]
 have hk : (ref - 1).toNat < m.objs.length := by omega
 have e : (((ref - 1).toNat : Nat) : Int) + 1 = ref := by omega
 rw [sum_change (f := fun i : Nat => ((m.put ref o).at ((i : Int) + 1)).need) (g := fun i : Nat => (m.at ((i : Int) + 1)).need) (k := (ref - 1).toNat) m.objs.length hk ?_]
 ·rw [e, at_put ⟨h1, h2⟩ h1, if_pos rfl]
 ·intro i hi hne
  rw [at_put ⟨h1, h2⟩ (by omega), if_neg (by omega)]
theorem whOk_note {c : Option Wh} {m : MS} {ref : Int} (h : whOk c) (hs : (m.at ref).vals.length ≤ 200) : whOk (c.map fun x => x.note m ref) := by
 intro x hx
 cases c with
 | none => cases hx
 | some y =>
  cases hx
  obtain ⟨h1, h2, h3⟩ := h y rfl
  have hl := (note_first y m ref).2.2.2
  show wasOk (y.note m ref) ∧ -1000 ≤ (y.note m ref).left ∧ (y.note m ref).left ≤ 0
  rw [hl]
  refine ⟨?_, h2, h3⟩
  unfold Wh.note
  split
  ·exact h1
  ·split
   ·exact h1
   ·intro p hp
    rcases List.mem_append.1 hp with hp | hp
    ·exact h1 p hp
    ·have hp' : p = (ref, m.refsOf ref) := by simpa using hp
     rw [hp']
     have : (m.refsOf ref).length ≤ (m.at ref).vals.length := refs_len _
     show (m.refsOf ref).length ≤ 200
     omega
section
variable {base Hb M : Nat} {β β' : Lay} {m : MS} {c : Option Wh} {w w' : World} {ps : List (Int × Value)} {onv ev vv' : Value} {f : Nat}
theorem HAt.putAt (h : HAt base w Hb β m c) {ref : Int} (hr : m.there ref = true) {o' : MO} (hot : o'.there = true) (hoa : o'.age = (m.at ref).age) (how : o'.watched = (m.at ref).watched) (hoe : o'.elem = (m.at ref).elem) {j : Int} (hj : 0 ≤ j) (hneed : o'.need ≤ (m.at ref).need + j)
  (href : ∀ k ∈ o'.refs, m.there k = true) (hsmall : o'.vals.length ≤ 200) (hfit : m.used - (m.at ref).need + o'.need ≤ m.words)
  (hM : β .map = some M) (hmp : I.MapB w M ps) (hps : ∀ n, I.lookP ps n = if m.there n then (β (.ob n)).map ptr else none) (hev : SlAt base 3 w ev (m.told.map encI) (β .en))
  (hz : w.heap.size ≤ w'.heap.size) (hk : ∀ r b, β r = some b → r ≠ .heap → r ≠ .th ref → r ≠ .vs ref → r ≠ .wm → r ≠ .wv ref → w'.heap[b]? = w.heap[b]?)
  (hβ : ∀ r, r ≠ .vs ref → r ≠ .wv ref → β' r = β r) (hvs : ∀ b, β' (.vs ref) = some b → (β (.vs ref) = some b ∨ w.heap.size ≤ b) ∧ b < w'.heap.size) (hwv : ∀ b, β' (.wv ref) = some b → (β (.wv ref) = some b ∨ w.heap.size ≤ b) ∧ b < w'.heap.size) (hdis : ∀ b, β' (.vs ref) = some b → β' (.wv ref) ≠ some b)
  (hhd : Blk w' Hb #[.int .i64 m.words, .int .i64 (m.used - (m.at ref).need + o'.need), .int .i64 m.objs.length, .map (some M), onv, ev] 96) (hwh : WhAt base w' β' m (c.map fun x => x.note m ref) onv)
  (hf : β (.th ref) = some f) (hth : ThAt base w' β' ref o' f vv') (hvv : SlAt base 3 w' vv' (o'.vals.map encI) (β' (.vs ref))) :
  HAt base w' Hb β' ((m.paid j).put ref o') (c.map fun x => x.note m ref) := by
 obtain ⟨r1, r2⟩ := there_le hr
 have hHl := h.hi _ _ h.hb
 have hbH := h.lo _ _ h.hb
 have hrp : (m.paid j).there ref = true := hr
 have hth' : ∀ n, ((m.paid j).put ref o').there n = m.there n := fun n => by rw [there_put hrp hot, there_paid]
 have hat' : ∀ n, m.there n = true → ((m.paid j).put ref o').at n = if n = ref then o' else m.at n := fun n hn => by rw [at_put (m := m.paid j) ⟨r1, r2⟩ (there_le hn).1, at_paid]
 have hlen : ((m.paid j).put ref o').objs.length = m.objs.length := by simp [MS.put, MS.paid]
 have hused : ((m.paid j).put ref o').used = m.used - (m.at ref).need + o'.need := by rw [used_put hrp, used_paid, at_paid]
 have back : ∀ r b, β' r = some b → β r = some b ∨ (w.heap.size ≤ b ∧ (r = .vs ref ∨ r = .wv ref)) := by
  intro r b hb
  by_cases h1 : r = .vs ref
  ·subst h1
   rcases (hvs b hb).1 with e | e
   ·exact .inl e
   ·exact .inr ⟨e, .inl rfl⟩
  ·by_cases h2 : r = .wv ref
   ·subst h2
    rcases (hwv b hb).1 with e | e
    ·exact .inl e
    ·exact .inr ⟨e, .inr rfl⟩
   ·rw [hβ r h1 h2] at hb
    exact .inl hb
 refine ⟨?_, ?_, ?_, (hβ _ (by simp) (by simp)).trans h.hb, ⟨M, ps, onv, ev, (hβ _ (by simp) (by simp)).trans hM, ?_, hmp.block (hk .map M hM (by simp) (by simp) (by simp) (by simp) (by simp)), ?_, ?_, ?_⟩, ?_, ?_, ?_, ?_, ?_, ?_, whOk_note h.ok (h.small ref hr)⟩
 ·intro a b x ha hb
  rcases back a x ha with ea | ⟨la, ea⟩ <;> rcases back b x hb with eb | ⟨lb, eb⟩
  ·exact h.inj a b x ea eb
  ·have := h.hi a x ea; omega
  ·have := h.hi b x eb; omega
  ·rcases ea with rfl | rfl <;> rcases eb with rfl | rfl
   ·rfl
   ·exact absurd hb (hdis x ha)
   ·exact absurd ha (hdis x hb)
   ·rfl
 ·intro r b hb
  rcases back r b hb with e | ⟨e, _⟩
  ·exact h.lo r b e
  ·omega
 ·intro r b hb
  by_cases h1 : r = .vs ref
  ·subst h1; exact (hvs b hb).2
  ·by_cases h2 : r = .wv ref
   ·subst h2; exact (hwv b hb).2
   ·rw [hβ r h1 h2] at hb
    have := h.hi r b hb; omega
 ·rw [hused, hlen]; exact hhd
 ·intro n
  rw [hps n, hth' n, hβ _ (by simp) (by simp)]
 ·refine hwh.move rfl (fun s roots x hx hon hI => ?_) (fun _ _ => rfl) (fun _ _ _ _ => rfl)
  cases hc : c with
  | none => rw [hc] at hx; cases hx
  | some y =>
   rw [hc, Option.map_some] at hx
   cases hx
   have := hI.put hon hr o' hot hj hneed
   rwa [note_note] at this
 ·rw [hβ _ (by simp) (by simp)]
  exact hev.keep fun k hk' => hk .en k hk' (by simp) (by simp) (by simp) (by simp) (by simp)
 ·intro n hn
  rw [hth' n] at hn
  rw [hat' n hn]
  obtain ⟨p, f2, kept, vv, q1, q2, q3, q4, q5, q6⟩ := (h.obs n hn).ex
  by_cases e : n = ref
  ·subst e
   rw [if_pos rfl]
   rw [hf] at q2
   cases q2
   refine ⟨p, f, kept, vv', (hβ _ (by simp) (by simp)).trans q1, (hβ _ (by simp) (by simp)).trans hf, ?_, ?_, hvv, hth⟩
   ·rw [show tyOf o' = tyOf (m.at n) from by simp [tyOf, hoe], hoa, how]
    exact Blk.keep q3 (hk _ p q1 (by simp) (by simp) (by simp) (by simp) (by simp))
   ·rw [hoa]; exact q4
  ·rw [if_neg e]
   refine (h.obs n hn).move (hβ _ (by simp) (by simp)) (hβ _ (by simp) (by simp)) (hβ _ (by simp) (by simp)) (hβ _ (by simpa using e) (by simp)) fun b hb => ?_
   rcases hb with hb | hb | hb | hb
   ·exact hk _ b hb (by simp) (by simp) (by simp) (by simp) (by simp)
   ·exact hk _ b hb (by simp) (by simpa using e) (by simp) (by simp) (by simp)
   ·exact hk _ b hb (by simp) (by simp) (by simp) (by simp) (by simp)
   ·exact hk _ b hb (by simp) (by simp) (by simpa using e) (by simp) (by simp)
 ·intro n hn
  rw [hth' n] at hn
  have hne : n ≠ ref := fun e => by rw [e, hr] at hn; cases hn
  obtain ⟨q1, q2, q3, q4⟩ := h.free n hn
  exact ⟨(hβ _ (by simp) (by simp)).trans q1, (hβ _ (by simp) (by simp)).trans q2, (hβ _ (by simp) (by simp)).trans q3, (hβ _ (by simpa using hne) (by simp)).trans q4⟩
 ·intro n hn k hk'
  rw [hth' n] at hn
  rw [hth' k]
  rw [refsOf_put hrp (there_le hn).1] at hk'
  by_cases e : n = ref
  ·rw [if_pos e] at hk'; exact href k hk'
  ·rw [if_neg e] at hk'; exact h.wf n hn k hk'
 ·intro n hn
  rw [hth' n] at hn
  rw [hat' n hn]
  by_cases e : n = ref
  ·rw [if_pos e]; exact hsmall
  ·rw [if_neg e]; exact h.small n hn
 ·rw [hused]; exact ⟨hfit, h.words.2⟩
 ·rw [hlen]; exact h.len
end
end Go.L17
namespace Go.L17
open Go Go.Eng Go.RowKit Go.Proofs
set_option maxRecDepth 100000
set_option maxHeartbeats 2000000
theorem mem_refs {o : MO} {k : Int} : k ∈ o.refs ↔ k ≠ 0 ∧ ∃ i : Nat, o.vals[i]? = some k ∧ ((o.elem = 0 ∧ o.kinds[i]? = some 2) ∨ o.elem = 2) := by
 unfold MO.refs
 by_cases h0 : o.elem = 0
 ·rw [if_pos h0, List.mem_map]
  constructor
  ·rintro ⟨⟨a, b⟩, hp, rfl⟩
   obtain ⟨hm, hp⟩ := List.mem_filter.1 hp
   obtain ⟨i, hi⟩ := List.mem_iff_getElem?.1 hm
   obtain ⟨h1, h2⟩ := List.getElem?_zip_eq_some.1 hi
   simp only [Bool.and_eq_true, decide_eq_true_eq] at hp
   exact ⟨hp.2, i, h2, .inl ⟨h0, by rw [h1, ← hp.1]⟩⟩
  ·rintro ⟨hk, i, h1, h2 | h2⟩
   ·refine ⟨(2, k), List.mem_filter.2 ⟨List.mem_of_getElem? (List.getElem?_zip_eq_some.2 ⟨h2.2, h1⟩), by simp [hk]⟩, rfl⟩
   ·omega
 ·rw [if_neg h0]
  by_cases h2 : o.elem = 2
  ·rw [if_pos h2, List.mem_filter]
   constructor
   ·rintro ⟨hm, hk⟩
    obtain ⟨i, hi⟩ := List.mem_iff_getElem?.1 hm
    exact ⟨by simpa using hk, i, hi, .inr h2⟩
   ·rintro ⟨hk, i, h1, _⟩
    exact ⟨List.mem_of_getElem? h1, by simpa using hk⟩
  ·rw [if_neg h2]
   constructor
   ·intro h; cases h
   ·rintro ⟨_, i, _, h | h⟩
    ·exact absurd h.1 h0
    ·exact absurd h h2
def MO.kindAt (o : MO) (i : Nat) : Nat := if o.elem = 0 then o.kinds.getD i 0 else o.elem
theorem mem_refs_set {o : MO} {i : Nat} {v k : Int} (h : k ∈ (o.withVals (o.vals.set i v)).refs) : k ∈ o.refs ∨ (k = v ∧ v ≠ 0 ∧ o.kindAt i = 2) := by
 obtain ⟨hk, j, hj, hs⟩ := mem_refs.1 h
 have hj' : (o.vals.set i v)[j]? = some k := hj
 by_cases e : i = j
 ·subst e
  rw [List.getElem?_set_self (by
   have := (List.getElem?_eq_some_iff.1 hj').1
   simpa using this)] at hj'
  cases hj'
  refine .inr ⟨rfl, hk, ?_⟩
  unfold MO.kindAt
  rcases hs with ⟨a, b⟩ | a
  ·have a' : o.elem = 0 := a
   have b' : o.kinds[i]? = some 2 := b
   rw [if_pos a', List.getD_eq_getElem?_getD, b']; rfl
  ·have a' : o.elem = 2 := a
   rw [if_neg (by omega)]; exact a'
 ·rw [List.getElem?_set_ne e] at hj'
  exact .inl (mem_refs.2 ⟨hk, j, hj', hs⟩)
theorem mem_refs_app {o : MO} {v k : Int} (h : k ∈ (o.withVals (o.vals ++ [v])).refs) (he : o.elem ≠ 0) : k ∈ o.refs ∨ (k = v ∧ v ≠ 0 ∧ o.elem = 2) := by
 obtain ⟨hk, j, hj, hs⟩ := mem_refs.1 h
 have hj' : (o.vals ++ [v])[j]? = some k := hj
 have h2 : o.elem = 2 := by
  rcases hs with ⟨a, _⟩ | a
  ·exact absurd a he
  ·exact a
 rw [List.getElem?_append] at hj'
 split at hj'
 ·exact .inl (mem_refs.2 ⟨hk, j, hj', .inr h2⟩)
 ·rename_i hlt
  have : k = v := by
   cases hjj : j - o.vals.length with
   | zero => rw [hjj] at hj'; simpa using hj'.symm
   | succ n => rw [hjj] at hj'; simp at hj'
  subst this
  exact .inr ⟨rfl, hk, h2⟩
theorem mem_refs_drop {o : MO} {k : Int} (h : k ∈ (o.withVals o.vals.dropLast).refs) (he : o.elem ≠ 0) : k ∈ o.refs := by
 obtain ⟨hk, j, hj, hs⟩ := mem_refs.1 h
 have hj' : o.vals.dropLast[j]? = some k := hj
 have h2 : o.elem = 2 := by
  rcases hs with ⟨a, _⟩ | a
  ·exact absurd a he
  ·exact a
 refine mem_refs.2 ⟨hk, j, ?_, .inr h2⟩
 rw [List.getElem?_dropLast] at hj'
 split at hj'
 ·exact hj'
 ·cases hj'
theorem value_there {m : MS} {k : Nat} {v : Int} (h : m.value k v = 0) (hk : k = 2) (hv : v ≠ 0) : m.there v = true := by
 unfold MS.value at h
 rw [if_neg (by omega)] at h
 cases ht : m.there v with
 | true => rfl
 | false => rw [if_pos ⟨hk, hv, ht⟩] at h; omega
section
variable {P : Program} {Q : Ks} {d : Option Nat} {ty : TypeId} {K : Env → World → Prop} {ρ : Env} {w : World}
theorem eff_storeG {t : TypeId} {p x : Operand} {e : Nat} {sv : Value} {xs : List Value} {base i : Nat} (hown : Own base e 1 w sv xs) (hi : i < xs.length) (hp : evE ρ p = .pointer (some (slAddr sv i)))
  (hx : (evE ρ x).cells = #[evE ρ x]) (h1 : (evE ρ x).oneCell = true) (hs : sizeIs P t 1 = true) (h : ∀ b W, sv.ownBlock = some b → Only b w W → Own base e 1 W sv (xs.set i (evE ρ x)) → K (updO ρ d undef) W) : effW P Q d (.store t p x) ty K ρ w := by
 rcases hown with ⟨rfl, rfl⟩ | ⟨g, off, n, cap, cur, rfl, hb, hg, hn, hnc, hm, hcs, ht⟩
 ·simp at hi
 ·have hb0 : Blk w g cur e := ⟨hg⟩
  simp only [slAddr, add_lit] at hp
  refine eff_store1 (B := g) (i := off + i) hp hb0 (by omega) hx h1 hs fun W hO hB => ?_
  refine h g W rfl hO (.inr ⟨g, off, n, cap, _, rfl, hb, hB.heap, by simpa using hn, hnc, hm, by simpa using hcs, ?_⟩)
  rw [Array.toList_set, ← ht, ← List.set_drop, List.take_set]
end
def OpX (base : Nat) (w : World) (Hb : Nat) (β : Lay) (v : Value) (m' : MS) : Ending → World → Prop := fun e w' => e = .returned v ∧ ∃ β' c', HAt base w' Hb β' m' c' ∧ Turn β w β' w'
theorem OpX.of {base : Nat} {w w' : World} {Hb : Nat} {β : Lay} {v : Value} {m : MS} {c : Option Wh} (h : HAt base w Hb β m c) (hE : Ext w w') : OpX base w Hb β v m (.returned v) w' := ⟨rfl, β, c, h.ext hE, Turn.of hE⟩
theorem need_there {o : MO} (h : o.there = true) : o.need = 2 + o.vals.length := by unfold MO.need; rw [if_pos h]
section
variable {base Hb M : Nat} {β β1 : Lay} {m : MS} {c : Option Wh} {w w1 w2 : World} {ps : List (Int × Value)} {onv ev vv : Value} {f : Nat}
theorem set_HAt (h : HAt base w Hb β m c) {ref : Int} (hr : m.there ref = true) (hM : β .map = some M) (hd : Blk w Hb #[.int .i64 m.words, .int .i64 m.used, .int .i64 m.objs.length, .map (some M), onv, ev] 96) (hmp : I.MapB w M ps)
  (hps : ∀ n, I.lookP ps n = if m.there n then (β (.ob n)).map ptr else none) (hev : SlAt base 3 w ev (m.told.map encI) (β .en)) (q2 : β (.th ref) = some f) (q5 : SlAt base 3 w vv ((m.at ref).vals.map encI) (β (.vs ref))) (q6 : ThAt base w β ref (m.at ref) f vv)
  (hn : NoteR base w β m c onv ref β1 w1) {i : Nat} {v : Int} (hv : m.value ((m.at ref).kindAt i) v = 0) {b : Nat} (hb : vv.ownBlock = some b) (hO : Only b w1 w2) (ho : Own base 3 1 w2 vv (((m.at ref).vals.set i v).map encI)) :
  HAt base w2 Hb β1 (m.put ref ((m.at ref).withVals ((m.at ref).vals.set i v))) (c.map fun x => x.note m ref) ∧ Turn β w β1 w2 := by
 have hbv : β (.vs ref) = some b := by rw [← q5.blk, hb]
 have hot : (m.at ref).there = true := by
  have := hr
  simp only [MS.there, Bool.and_eq_true] at this
  exact this.2
 have z1 := hn.fr.size
 have z2 := hO.size
 have nwm : ∀ r x, β r = some x → r ≠ .wm → ¬ β .wm = some x := fun r x hx hne e => hne (h.inj _ _ _ hx e)
 have stay : ∀ r x, β r = some x → r ≠ .wm → r ≠ .vs ref → w2.heap[x]? = w.heap[x]? := fun r x hx h1 h2 => (hO.block x fun e => h2 (h.inj _ _ _ hx (e ▸ hbv))).trans (hn.fr.block x (h.hi r x hx) (nwm r x hx h1))
 have s1 : β1 (.vs ref) = β (.vs ref) := hn.same _ (by simp)
 have hoa : (m.at ref).need = 2 + (m.at ref).vals.length := need_there hot
 have hoa' : ((m.at ref).withVals ((m.at ref).vals.set i v)).need = (m.at ref).need := by
  rw [hoa, need_there (by exact hot)]; simp [MO.withVals]
 refine ⟨?_, ?_, ?_⟩
 ·have key := h.putAt (β' := β1) (w' := w2) (o' := (m.at ref).withVals ((m.at ref).vals.set i v)) (j := 0) (onv := onv) (ev := ev) (vv' := vv) hr hot rfl rfl rfl (by omega) (by rw [hoa']; omega) ?_ (by simpa [MO.withVals] using h.small ref hr) (by rw [hoa']; have := h.words.1; omega) hM hmp hps hev (by omega)
   (fun r x hx a1 a2 a3 a4 a5 => stay r x hx a4 a3) (fun r a1 a2 => hn.same r a2) (fun x hx => by rw [s1] at hx; exact ⟨.inl hx, by have := h.hi _ _ hx; omega⟩) (fun x hx => ⟨(hn.wv x hx).1, by have := (hn.wv x hx).2; omega⟩) ?_ ?_ ?_ q2 ?_ ?_
  ·rwa [paid_zero] at key
  ·intro k hk
   rcases mem_refs_set hk with hk | ⟨rfl, hv0, hk2⟩
   ·exact h.wf ref hr k hk
   ·exact value_there hv hk2 hv0
  ·intro x hx e
   rw [s1] at hx
   rcases (hn.wv x e).1 with e | e
   ·have := h.inj _ _ _ hx e; cases this
   ·have := h.hi _ _ hx; omega
  ·rw [hoa', show m.used - (m.at ref).need + (m.at ref).need = m.used from by omega]
   exact Blk.keep hd (stay .heap Hb h.hb (by simp) (by simp))
  ·refine hn.wh.move rfl (fun _ _ _ _ _ hI => hI) (fun _ _ => rfl) fun r x hr2 hx => ?_
   have hne : x ≠ b := fun e => by
    subst e
    by_cases hw : r = .wv ref
    ·subst hw
     rcases (hn.wv x hx).1 with e | e
     ·have := h.inj _ _ _ hbv e; cases this
     ·have := h.hi _ _ hbv; omega
    ·rw [hn.same r hw] at hx
     have := h.inj _ _ _ hbv hx
     subst this
     cases hr2
   exact hO.block x hne
  ·have hfk := stay (.th ref) f q2 (by simp) (by simp)
   cases q6 with
   | fields kv a1 a2 a3 a4 a5 =>
    refine .fields kv a1 (by simpa [MO.withVals] using a2) a3 (Blk.keep a4 hfk) ?_
    rw [hn.same _ (by simp)]
    exact a5.keep fun k hk => stay (.ks ref) k hk (by simp) (by simp)
   | array a1 a2 => exact .array a1 (Blk.keep a2 hfk)
  ·rw [s1]; exact ⟨ho, q5.blk⟩
 ·exact (hn.fr.mono (fun x hx => .inl ⟨_, hx⟩)).trans (Fr.only hO (S := fun k => k = b) rfl) (by rintro x rfl; exact .inl ⟨_, hbv⟩)
 ·rintro x ⟨r, hx⟩
  by_cases hw : r = .wv ref
  ·subst hw
   rcases (hn.wv x hx).1 with e | e
   ·exact .inl ⟨_, e⟩
   ·exact .inr e
  ·rw [hn.same r hw] at hx
   exact .inl ⟨_, hx⟩
end
end Go.L17
namespace Go.L17
open Go Go.Eng Go.RowKit Go.Proofs
set_option maxRecDepth 100000
set_option maxHeartbeats 2000000
@[simp] theorem cb40 : callB Tryz.prog 40 = true := by kernel_rfl
@[simp] theorem cb42 : callB Tryz.prog 42 = true := by kernel_rfl
@[simp] theorem cb41 : callB Tryz.prog 41 = true := by kernel_rfl
@[simp] theorem cb37 : callB Tryz.prog 37 = true := by kernel_rfl
@[simp] theorem cb43 : callB Tryz.prog 43 = true := by kernel_rfl
section
variable {base Hb : Nat} {β : Lay} {m : MS} {c : Option Wh} {w : World}
theorem vs_blk {base e sz : Nat} {w : World} {v : Value} {xs : List Value} (h : Own base e sz w v xs) (hx : xs ≠ []) : ∃ b, v.ownBlock = some b := by
 rcases h with ⟨_, h⟩ | ⟨g, off, n, cap, cur, rfl, _⟩
 ·exact absurd h hx
 ·exact ⟨g, rfl⟩
theorem map_set_enc {l : List Int} {i : Nat} {v : Int} : (l.map encI).set i (.int .i64 v) = (l.set i v).map encI := by rw [List.map_set]; rfl
theorem t_Set (h : HAt base w Hb β m c) (hbw : base ≤ w.heap.size) (ref i v : Int) :
  Calls Tryz.prog 40 #[ptr Hb, .int .i64 ref, .int .i64 i, .int .i64 v] w (OpX base w Hb β (.int .i64 (m.set ref i v).1) (m.set ref i v).2) := by
 refine ir40_calls fun ρ r0 r1 r2 r3 => ?_
 simp [ir40, r0, r1, r2]
 refine (t_field h ref i).mono ?_
 rintro _ w' ⟨⟨x, rfl, hx⟩, rfl⟩
 by_cases hE : m.fieldE ref i = 0
 ·obtain ⟨ht, he, hi0, hi1⟩ := fieldE_zero.1 hE
  obtain ⟨M, ps, onv, ev, hM, hd, hmp, hps, hwh, hev⟩ := h.hd
  obtain ⟨p, f, kept, vv, q1, q2, q3, q4, q5, q6⟩ := (h.obs ref ht).ex
  obtain ⟨f2, kv, vv2, hf2, hb2, hks, hvs, hl, _⟩ := h.plainAt ht he
  rw [q2] at hf2
  cases hf2
  have hvv : vv2 = vv := by
   cases q6 with
   | fields kv' a1 a2 a3 a4 a5 => have := a4.heap.symm.trans hb2.heap; simp at this; exact this.2.symm
   | array a1 a2 => have := a2.heap.symm.trans hb2.heap; simp at this
  subst hvv
  have hi : i.toNat < (m.at ref).vals.length := by omega
  have hik : i.toNat < (m.at ref).kinds.length := by omega
  have hI : i < ((m.at ref).kinds.length : Int) := by omega
  have hk := hks.cell i.toNat hik
  have hka : (m.at ref).kindAt i.toNat = (m.at ref).kinds[i.toNat] := by simp [MO.kindAt, he, List.getD_eq_getElem?_getD, hik]
  have hset : m.setE ref i v = m.value (m.at ref).kinds[i.toNat] v := by simp [MS.setE, hE, List.getD_eq_getElem?_getD, hik]
  simp [hE, hx hE, thP, q2, ptr, hb2.cell, r0, r2, r3, hks.is, hks.len, hi0, hI, hk]
  refine (t_value h _ _).mono ?_
  rintro _ w2 ⟨rfl, rfl⟩
  by_cases hv : m.value (m.at ref).kinds[i.toNat] v = 0
  ·have hs : m.set ref i v = (0, m.put ref ((m.at ref).withVals ((m.at ref).vals.set i.toNat v))) := by simp [MS.set, hset, hv]
   simp [hv, ir40_k1, ir40_k0, r0, r1]
   have hl := hps ref
   rw [ht, q1] at hl
   refine (t_note (f := f) (p := p) h.inj h.hi hbw hd hmp hl q3 q6 hvs (h.small ref ht) rfl hwh).mono ?_
   rintro _ w3 ⟨⟨u, rfl⟩, β1, hn⟩
   obtain ⟨b, hb⟩ := vs_blk q5.own (by intro e; rw [List.map_eq_nil_iff] at e; rw [e] at hi; simp at hi)
   have hbv : β (.vs ref) = some b := by rw [← q5.blk, hb]
   have hfw : w3.heap[f]? = w2.heap[f]? := hn.fr.block f (h.hi _ _ q2) fun e => by have := h.inj _ _ _ q2 e; cases this
   have hbw3 : w3.heap[b]? = w2.heap[b]? := hn.fr.block b (h.hi _ _ hbv) fun e => by have := h.inj _ _ _ hbv e; cases this
   have hb3 : Blk w3 f _ 117 := Blk.keep hb2 hfw
   have ho3 : Own base 3 1 w3 vv2 ((m.at ref).vals.map encI) := Own.same' q5.own fun k hk => by rw [hb] at hk; cases hk; exact hbw3
   have hvs3 : Sl encI w3 vv2 (m.at ref).vals := ho3.sl (by have := h.small ref ht; omega)
   have hI1 : i < ((m.at ref).vals.length : Int) := by omega
   simp [r2, r3, hb3.cell, hvs3.is, hvs3.len, hi0, hI1]
   refine eff_storeG (i := i.toNat) ho3 (by simpa using hi) (by simp) (by simp [Value.cells]) (by simp) (by simp) fun b' w4 hb' hO4 ho4 => ?_
   rw [hb] at hb'
   cases hb'
   simp only [evE] at ho4
   simp at ho4 ⊢
   rw [map_set_enc] at ho4
   obtain ⟨hH, hT⟩ := set_HAt (i := i.toNat) (v := v) h ht hM hd hmp hps hev q2 q5 q6 hn (by rw [hka]; exact hv) hb hO4 ho4
   rw [hs]
   exact ⟨rfl, β1, _, hH, hT⟩
  ·have hs : m.set ref i v = (m.value (m.at ref).kinds[i.toNat] v, m) := by simp [MS.set, hset, hv]
   simp [hv, ir40_k1]
   rw [hs]
   exact OpX.of h (ext_refl _)
 ·have hs : m.set ref i v = (m.fieldE ref i, m) := by simp [MS.set, MS.setE, hE]
  simp [hE, ir40_k1]
  rw [hs]
  exact OpX.of h (ext_refl _)
theorem t_Store (h : HAt base w Hb β m c) (hbw : base ≤ w.heap.size) (ref i v : Int) :
  Calls Tryz.prog 42 #[ptr Hb, .int .i64 ref, .int .i64 i, .int .i64 v] w (OpX base w Hb β (.int .i64 (m.store ref i v).1) (m.store ref i v).2) := by
 refine ir42_calls fun ρ r0 r1 r2 r3 => ?_
 simp [ir42, r0, r1, r2]
 refine (t_element h ref i).mono ?_
 rintro _ w' ⟨⟨x, rfl, hx⟩, rfl⟩
 by_cases hE : m.elemE ref i = 0
 ·obtain ⟨⟨ht, he⟩, hi0, hi1⟩ := elemE_zero.1 hE
  obtain ⟨M, ps, onv, ev, hM, hd, hmp, hps, hwh, hev⟩ := h.hd
  obtain ⟨p, f, kept, vv, q1, q2, q3, q4, q5, q6⟩ := (h.obs ref ht).ex
  obtain ⟨f2, vv2, hf2, hb2, hvs, hk12⟩ := h.arrayAt ht he
  rw [q2] at hf2
  cases hf2
  have hvv : vv2 = vv := by
   cases q6 with
   | fields kv' a1 a2 a3 a4 a5 => exact absurd a1 he
   | array a1 a2 => have := a2.heap.symm.trans hb2.heap; simp at this; exact this.symm
  subst hvv
  have hsm := h.small ref ht
  have hi : (i - 1).toNat < (m.at ref).vals.length := by omega
  have hka : (m.at ref).kindAt (i - 1).toNat = (m.at ref).elem := by simp [MO.kindAt, he]
  have hset : m.storeE ref i v = m.value (m.at ref).elem v := by simp [MS.storeE, hE]
  simp [hE, hx hE, thP, q2, ptr, hb2.cell, r0, r2, r3]
  refine (t_value h (m.at ref).elem v).mono ?_
  rintro _ w2 ⟨rfl, rfl⟩
  by_cases hv : m.value (m.at ref).elem v = 0
  ·have hs : m.store ref i v = (0, m.put ref ((m.at ref).withVals ((m.at ref).vals.set (i - 1).toNat v))) := by simp [MS.store, hset, hv]
   simp [hv, ir42_k1, ir42_k0, r0, r1]
   have hl := hps ref
   rw [ht, q1] at hl
   refine (t_note (f := f) (p := p) h.inj h.hi hbw hd hmp hl q3 q6 hvs hsm rfl hwh).mono ?_
   rintro _ w3 ⟨⟨u, rfl⟩, β1, hn⟩
   obtain ⟨b, hb⟩ := vs_blk q5.own (by intro e; rw [List.map_eq_nil_iff] at e; rw [e] at hi; simp at hi)
   have hbv : β (.vs ref) = some b := by rw [← q5.blk, hb]
   have hfw : w3.heap[f]? = w2.heap[f]? := hn.fr.block f (h.hi _ _ q2) fun e => by have := h.inj _ _ _ q2 e; cases this
   have hbw3 : w3.heap[b]? = w2.heap[b]? := hn.fr.block b (h.hi _ _ hbv) fun e => by have := h.inj _ _ _ hbv e; cases this
   have hb3 : Blk w3 f _ 112 := Blk.keep hb2 hfw
   have ho3 : Own base 3 1 w3 vv2 ((m.at ref).vals.map encI) := Own.same' q5.own fun k hk => by rw [hb] at hk; cases hk; exact hbw3
   have hvs3 : Sl encI w3 vv2 (m.at ref).vals := ho3.sl (by omega)
   have hw : IntKind.i64.wrap (i - 1) = i - 1 := i64w (by omega)
   have hI0 : 0 ≤ i - 1 := by omega
   have hI1 : i - 1 < ((m.at ref).vals.length : Int) := by omega
   simp [r2, r3, hb3.cell, hvs3.is, hvs3.len, hw, hi0, hI0, hI1]
   have hit : i.toNat - 1 = (i - 1).toNat := by omega
   refine eff_storeG (i := (i - 1).toNat) ho3 (by rw [List.length_map]; exact hi) (by simp) (by simp [Value.cells]) (by simp) (by simp) fun b' w4 hb' hO4 ho4 => ?_
   rw [hb] at hb'
   cases hb'
   have ho4' : Own base 3 1 w4 vv2 (((m.at ref).vals.set (i - 1).toNat v).map encI) := by
    rw [← map_set_enc]
    simpa using ho4
   simp
   obtain ⟨hH, hT⟩ := set_HAt (i := (i - 1).toNat) (v := v) h ht hM hd hmp hps hev q2 q5 q6 hn (by rw [hka]; exact hv) hb hO4 ho4'
   rw [hs]
   exact ⟨rfl, β1, _, hH, hT⟩
  ·have hs : m.store ref i v = (m.value (m.at ref).elem v, m) := by simp [MS.store, hset, hv]
   simp [hv, ir42_k1]
   rw [hs]
   exact OpX.of h (ext_refl _)
 ·have hs : m.store ref i v = (m.elemE ref i, m) := by simp [MS.store, MS.storeE, hE]
  simp [hE, ir42_k1]
  rw [hs]
  exact OpX.of h (ext_refl _)
end
end Go.L17
namespace Go.L17
open Go Go.Eng Go.RowKit Go.Proofs
set_option maxRecDepth 100000
set_option maxHeartbeats 2000000
theorem ownBlock_slSub (v : Value) (sz l r m : Nat) : (slSub v sz l r m).ownBlock = v.ownBlock := by
 cases v <;> try rfl
 rename_i a n c
 simp only [slSub]
 split
 ·cases a <;> rfl
 ·cases a with
  | none => rfl
  | some a => simp [Value.ownBlock, Addr.add]; split <;> rfl
theorem Own.take {base e : Nat} {w : World} {v : Value} {xs : List Value} (h : Own base e 1 w v xs) (l : Nat) (hl : l ≤ xs.length) : Own base e 1 w (slSub v 1 0 l l) (xs.take l) := by
 rcases h with ⟨rfl, rfl⟩ | ⟨g, off, n, cap, cur, rfl, hb, hg, hlen, hc, hm, hs, ht⟩
 ·have : l = 0 := by simpa using hl
  subst this
  exact .inl ⟨by simp [slSub], rfl⟩
 ·have hn : n = xs.length := by omega
  have es : slSub (.slice (some ⟨g, off, none⟩) n cap) 1 0 l l = .slice (some ⟨g, off, none⟩) l l := by
   simp [slSub]
  rw [es]
  refine .inr ⟨g, off, l, l, cur, rfl, hb, hg, by simp; omega, Nat.le_refl _, by omega, by omega, ?_⟩
  rw [← ht, List.take_take]
  congr 1
  omega
def vsR (β : Lay) (ref : Int) (b : Option Nat) : Lay
 | .vs k => if k = ref then b else β (.vs k)
 | r => β r
theorem vsR_other (β : Lay) (ref : Int) (b : Option Nat) (r : Role) (h : r ≠ .vs ref) : vsR β ref b r = β r := by
 cases r with
 | vs k =>
  by_cases e : k = ref
  ·subst e; exact absurd rfl h
  ·simp [vsR, e]
 | _ => rfl
theorem vsR_self (β : Lay) (ref : Int) (b : Option Nat) : vsR β ref b (.vs ref) = b := by simp [vsR]
theorem Fr.grown {w W : World} {row : Option Nat} (h : w.grownBy W row) : Fr (fun k => row = some k) w W := ⟨h.os, h.tape, h.output, h.size, fun k hk hn => h.block k hk (fun e => hn e.symm)⟩
section
variable {base Hb M : Nat} {β β1 : Lay} {m : MS} {c : Option Wh} {w w5 w6 w9 : World} {ps : List (Int × Value)} {onv ev vv vv' : Value} {f : Nat} {x5 : Value}
theorem arr_HAt (h : HAt base w Hb β m c) {ref : Int} (hr : m.there ref = true) (he : (m.at ref).elem = 1 ∨ (m.at ref).elem = 2) (hM : β .map = some M) (hmp : I.MapB w M ps)
  (hps : ∀ n, I.lookP ps n = if m.there n then (β (.ob n)).map ptr else none) (hev : SlAt base 3 w ev (m.told.map encI) (β .en)) (q2 : β (.th ref) = some f)
  (hF5 : Fr (fun k => k = Hb) w w5) (hn : NoteR base w5 β m c onv ref β1 w6) (hF9 : Fr (fun k => k = f ∨ k = Hb ∨ β (.vs ref) = some k) w6 w9) {vals' : List Int} {j : Int} (hj : 0 ≤ j) (hlen : (vals'.length : Int) ≤ (m.at ref).vals.length + j) (hl2 : vals'.length ≤ 200) (hfit : m.used - (m.at ref).vals.length + vals'.length ≤ m.words)
  (href : ∀ k ∈ ((m.at ref).withVals vals').refs, m.there k = true)
  (hd : Blk w9 Hb #[.int .i64 m.words, .int .i64 (m.used - (m.at ref).vals.length + vals'.length), .int .i64 m.objs.length, .map (some M), onv, ev] 96) (hb : Blk w9 f #[.int .u8 ((m.at ref).elem : Int), vv'] 112) (ho : Own base 3 1 w9 vv' (vals'.map encI))
  (hvb : ∀ b, vv'.ownBlock = some b → β (.vs ref) = some b ∨ w6.heap.size ≤ b) :
  HAt base w9 Hb (vsR β1 ref vv'.ownBlock) ((m.paid j).put ref ((m.at ref).withVals vals')) (c.map fun x => x.note m ref) ∧ Turn β w (vsR β1 ref vv'.ownBlock) w9 := by
 have hot : (m.at ref).there = true := by
  have := hr
  simp only [MS.there, Bool.and_eq_true] at this
  exact this.2
 have z5 := hF5.size
 have z6 := hn.fr.size
 have z9 := hF9.size
 have hvB := Own.blk ho
 have stay : ∀ r x, β r = some x → r ≠ .heap → r ≠ .th ref → r ≠ .vs ref → r ≠ .wm → w9.heap[x]? = w.heap[x]? := by
  intro r x hx a1 a2 a3 a4
  have hlt := h.hi r x hx
  rw [hF9.block x (by omega) ?_, hn.fr.block x (by omega) (fun e => a4 (h.inj _ _ _ hx e)), hF5.block x hlt (fun e => a1 (h.inj _ _ _ hx (by rw [e]; exact h.hb)))]
  rintro (e | e | e)
  ·exact a2 (h.inj _ _ _ hx (by rw [e]; exact q2))
  ·exact a1 (h.inj _ _ _ hx (by rw [e]; exact h.hb))
  ·exact a3 (h.inj _ _ _ hx e)
 have hoa : (m.at ref).need = 2 + (m.at ref).vals.length := need_there hot
 have hoa' : ((m.at ref).withVals vals').need = 2 + vals'.length := need_there (o := (m.at ref).withVals vals') hot
 have hused : m.used - (m.at ref).need + ((m.at ref).withVals vals').need = m.used - (m.at ref).vals.length + vals'.length := by rw [hoa, hoa']; omega
 refine ⟨?_, ?_, ?_⟩
 ·refine h.putAt (β' := vsR β1 ref vv'.ownBlock) (w' := w9) (o' := (m.at ref).withVals vals') (j := j) (onv := onv) (ev := ev) (vv' := vv') hr hot rfl rfl rfl hj (by rw [hoa, hoa']; omega) href (by simpa [MO.withVals] using hl2) (by rw [hused]; exact hfit) hM hmp hps hev (by omega)
   (fun r x hx a1 a2 a3 a4 a5 => stay r x hx a1 a2 a3 a4) (fun r a1 a2 => (vsR_other _ _ _ r a1).trans (hn.same r a2)) (fun x hx => ?_) (fun x hx => ?_) (fun x hx e => ?_) (by rw [hused]; exact hd) ?_ q2 (.array he hb) ⟨ho, (vsR_self _ _ _).symm⟩
  ·rw [vsR_self] at hx
   refine ⟨?_, (hvB x hx).2⟩
   rcases hvb x hx with e | e
   ·exact .inl e
   ·exact .inr (by omega)
  ·rw [vsR_other _ _ _ _ (by simp)] at hx
   obtain ⟨a, b⟩ := hn.wv x hx
   refine ⟨?_, by omega⟩
   rcases a with a | a
   ·exact .inl a
   ·exact .inr (by omega)
  ·rw [vsR_self] at hx
   rw [vsR_other _ _ _ _ (by simp)] at e
   obtain ⟨a, b⟩ := hn.wv x e
   rcases hvb x hx with e1 | e1
   ·rcases a with a | a
    ·have := h.inj _ _ _ e1 a; cases this
    ·have := h.hi _ _ e1; omega
   ·omega
  ·refine hn.wh.move rfl (fun _ _ _ _ _ hI => hI) (fun r hr2 => vsR_other _ _ _ r (by rintro rfl; cases hr2)) fun r x hr2 hx => ?_
   by_cases hw : r = .wv ref
   ·subst hw
    obtain ⟨a, b⟩ := hn.wv x hx
    refine hF9.block x b ?_
    rcases a with a | a
    ·rintro (e | e | e)
     ·have := h.inj _ _ _ a (by rw [e]; exact q2); cases this
     ·have := h.inj _ _ _ a (by rw [e]; exact h.hb); cases this
     ·have := h.inj _ _ _ a e; cases this
    ·rintro (e | e | e)
     ·have := h.hi _ _ q2; omega
     ·have := h.hi _ _ h.hb; omega
     ·have := h.hi _ _ e; omega
   ·rw [hn.same r hw] at hx
    have hlt := h.hi r x hx
    refine hF9.block x (by omega) ?_
    rintro (e | e | e)
    ·have := h.inj _ _ _ hx (by rw [e]; exact q2); subst this; cases hr2
    ·have := h.inj _ _ _ hx (by rw [e]; exact h.hb); subst this; cases hr2
    ·have := h.inj _ _ _ hx e; subst this; cases hr2
 ·have f1 : Fr β.has w w5 := hF5.mono (by rintro x rfl; exact .inl ⟨_, h.hb⟩)
  refine (f1.trans hn.fr (fun x hx => .inl ⟨_, hx⟩)).trans hF9 ?_
  rintro x (rfl | rfl | e)
  ·exact .inl ⟨_, q2⟩
  ·exact .inl ⟨_, h.hb⟩
  ·exact .inl ⟨_, e⟩
 ·rintro x ⟨r, hx⟩
  by_cases hv : r = .vs ref
  ·subst hv
   rw [vsR_self] at hx
   rcases hvb x hx with e | e
   ·exact .inl ⟨_, e⟩
   ·right; omega
  ·rw [vsR_other _ _ _ r hv] at hx
   by_cases hw : r = .wv ref
   ·subst hw
    rcases (hn.wv x hx).1 with e | e
    ·exact .inl ⟨_, e⟩
    ·right; omega
   ·rw [hn.same r hw] at hx
    exact .inl ⟨_, hx⟩
end
section
variable {base Hb : Nat} {β : Lay} {m : MS} {c : Option Wh} {w : World}
theorem t_Remh (h : HAt base w Hb β m c) (hbw : base ≤ w.heap.size) (ref : Int) :
  Calls Tryz.prog 37 #[ptr Hb, .int .i64 ref] w (OpX base w Hb β (.tuple #[.int .i64 (m.rem ref).1, .int .i64 (m.rem ref).2.1]) (m.rem ref).2.2) := by
 refine ir37_calls fun ρ r0 r1 => ?_
 simp [ir37, r0, r1]
 refine (t_array h ref).mono ?_
 rintro _ w' ⟨rfl, rfl⟩
 by_cases hE : m.arrayE ref = 0
 ·obtain ⟨ht, he⟩ := arrayE_zero.1 hE
  obtain ⟨M, ps, onv, ev, hM, hd, hmp, hps, hwh, hev⟩ := h.hd
  obtain ⟨p, f, kept, vv, q1, q2, q3, q4, q5, q6⟩ := (h.obs ref ht).ex
  obtain ⟨f2, vv2, hf2, hb2, hvs, hk12⟩ := h.arrayAt ht he
  rw [q2] at hf2
  cases hf2
  have hvv : vv2 = vv := by
   cases q6 with
   | fields kv' a1 a2 a3 a4 a5 => exact absurd a1 he
   | array a1 a2 => have := a2.heap.symm.trans hb2.heap; simp at this; exact this.symm
  subst hvv
  have hsm := h.small ref ht
  have hw : IntKind.i64.wrap (((m.at ref).vals.length : Int) - 1) = ((m.at ref).vals.length : Int) - 1 := i64w (by omega)
  simp [hE, ir37_k1, thP, q2, ptr, hb2.cell, hvs.is, hvs.len, hw]
  by_cases h0 : (m.at ref).vals = []
  ·have hs : m.rem ref = (0, 5, m) := by simp [MS.rem, MS.remE, hE, h0]
   have hlt : ((m.at ref).vals.length : Int) - 1 < 0 := by rw [h0]; simp
   simp [hlt, h0]
   rw [hs]
   exact OpX.of h (ext_refl _)
  ·have hpos : 0 < (m.at ref).vals.length := List.length_pos_iff.2 h0
   have hlt : ¬ ((m.at ref).vals.length : Int) - 1 < 0 := by omega
   have hge : 0 ≤ ((m.at ref).vals.length : Int) - 1 := by omega
   have hll : ((m.at ref).vals.length : Int) - 1 < (m.at ref).vals.length := by omega
   have hnn : (((m.at ref).vals.length : Int) - 1).toNat = (m.at ref).vals.length - 1 := by omega
   have hlast := hvs.cell ((m.at ref).vals.length - 1) (by omega)
   have hs : m.rem ref = ((m.at ref).vals[(m.at ref).vals.length - 1]'(by omega), 0, m.put ref ((m.at ref).withVals (m.at ref).vals.dropLast)) := by
    have e1 : m.remE ref = 0 := by simp [MS.remE, hE, h0]
    unfold MS.rem
    rw [if_pos e1]
    simp [List.getLastD_eq_getLast?, List.getLast?_eq_getElem?, hpos]
    rw [List.getElem?_eq_getElem (by omega)]; rfl
   have h1l : (1 : Int) ≤ ((m.at ref).vals.length : Int) := by omega
   simp [hlt, ir37_k0, hb2.cell, hvs.is, hvs.len, hge, hll, h1l, hlast, encI, r0, r1]
   have hl := hps ref
   rw [ht, q1] at hl
   refine (t_note (f := f) (p := p) h.inj h.hi hbw hd hmp hl q3 q6 hvs hsm rfl hwh).mono ?_
   rintro _ w3 ⟨⟨u, rfl⟩, β1, hn⟩
   have keepN : ∀ r x, β r = some x → r ≠ .wm → w3.heap[x]? = w'.heap[x]? := fun r x hx hne => hn.fr.block x (h.hi _ _ hx) fun e => hne (h.inj _ _ _ hx e)
   have hb3 : Blk w3 f _ 112 := Blk.keep hb2 (keepN _ f q2 (by simp))
   have hd3 : Blk w3 Hb _ 96 := Blk.keep hd (keepN _ Hb h.hb (by simp))
   have ho3 : Own base 3 1 w3 vv2 ((m.at ref).vals.map encI) := Own.same' q5.own fun k hk => keepN _ k (by rw [← q5.blk]; exact hk) (by simp)
   have hcap : (m.at ref).vals.length ≤ slCap vv2 := by
    have := hvs.len
    rcases isSl_cases hvs.is with ⟨b, o, n, c, rfl, hc⟩ | rfl | ⟨b, o, s, rfl⟩ <;> simp [slLen, slCap] at this ⊢ <;> omega
   have hcapI : ((m.at ref).vals.length : Int) - 1 ≤ (slCap vv2 : Int) := by omega
   have hnf : Hb ≠ f := fun e => by have := h.inj .heap (.th ref) f (by rw [h.hb, e]) q2; cases this
   have hot3 : Own base 3 1 w3 (slSub vv2 1 0 ((m.at ref).vals.length - 1) ((m.at ref).vals.length - 1)) ((m.at ref).vals.dropLast.map encI) := by
    have := Own.take ho3 ((m.at ref).vals.length - 1) (by simp)
    rw [← List.map_take, ← List.dropLast_eq_take] at this
    exact this
   have hone := own_one hot3
   simp [hb3.cell, hvs.is, hge, hcapI, h1l]
   refine eff_store1 (B := f) (i := 1) (by simp) hb3 (by simp) (by simpa using hone.1) (by simpa using hone.2) sz35 fun w4 hO4 hb4 => ?_
   simp at hb4
   have hd4 := hO4.blk hd3 hnf
   have hu : IntKind.i64.wrap (m.used - 1) = m.used - 1 := i64w (by have := used_nonneg m; have := h.words; omega)
   simp [r0, ptr, hd4.cell, hu]
   refine eff_store1 (B := Hb) (i := 1) (by simp) hd4 (by simp) rfl rfl sz3' fun w5 hO5 hd5 => ?_
   simp at hd5
   have hb5 := hO5.blk hb4 (Ne.symm hnf)
   have hvk : ∀ k, vv2.ownBlock = some k → β (.vs ref) = some k := fun k hk => by rw [← q5.blk]; exact hk
   have ho5 : Own base 3 1 w5 (slSub vv2 1 0 ((m.at ref).vals.length - 1) ((m.at ref).vals.length - 1)) ((m.at ref).vals.dropLast.map encI) := Own.same' hot3 fun k hk => by
    rw [ownBlock_slSub] at hk
    have hk' := hvk k hk
    rw [hO5.block k (fun e => by have := h.inj _ _ _ hk' (by rw [e]; exact h.hb); cases this), hO4.block k (fun e => by have := h.inj _ _ _ hk' (by rw [e]; exact q2); cases this)]
   have hl1 : ((m.at ref).vals.dropLast.length : Int) = (m.at ref).vals.length - 1 := by rw [List.length_dropLast]; omega
   have key := arr_HAt (vals' := (m.at ref).vals.dropLast) (j := 0) (w9 := w5) (vv' := slSub vv2 1 0 ((m.at ref).vals.length - 1) ((m.at ref).vals.length - 1)) h ht hk12 hM hmp hps hev q2 (Fr.of (ext_refl _)) hn
    ((Fr.only hO4 (S := fun k => k = f ∨ k = Hb ∨ β (.vs ref) = some k) (.inl rfl)).trans (Fr.only hO5 (S := fun k => k = f ∨ k = Hb ∨ β (.vs ref) = some k) (.inr (.inl rfl))) (fun x h => .inl h)) (by omega) (by omega) (by omega) (by have := h.words; omega) (fun k hk => h.wf ref ht k (mem_refs_drop hk he)) (by
     have e : m.used - ((m.at ref).vals.length : Int) + ((m.at ref).vals.dropLast.length : Int) = m.used - 1 := by omega
     rw [e]; exact hd5) hb5 ho5 (fun b hb => by rw [ownBlock_slSub] at hb; exact .inl (hvk b hb))
   rw [paid_zero] at key
   simp
   rw [hs]
   exact ⟨rfl, _, _, key.1, key.2⟩
 ·have hs : m.rem ref = (0, m.arrayE ref, m) := by simp [MS.rem, MS.remE, hE]
  simp [hE]
  rw [hs]
  exact OpX.of h (ext_refl _)
end
end Go.L17
namespace Go.L17
open Go Go.Eng Go.RowKit Go.Proofs
set_option maxRecDepth 100000
set_option maxHeartbeats 2000000
section
variable {base Hb p f : Nat} {β : Lay} {m : MS} {c : Option Wh} {w w' : World} {kept : Int}
theorem ob_HAt (h : HAt base w Hb β m c) {ref : Int} (hr : m.there ref = true) {o' : MO} (hot : o'.there = true) (ht : o'.tag = (m.at ref).tag) (he : o'.elem = (m.at ref).elem) (hks : o'.kinds = (m.at ref).kinds) (hvs : o'.vals = (m.at ref).vals)
  (q1 : β (.ob ref) = some p) (q2 : β (.th ref) = some f) (hO : Only p w w') (hb : Blk w' p #[.iface (tyOf o') (ptr f), .int .i64 kept, .bool (decide (2 ≤ o'.age)), .bool o'.watched] 133) (hk : o'.age < 2 → kept = o'.age) :
  HAt base w' Hb β (m.put ref o') c ∧ Turn β w β w' := by
 obtain ⟨r1, r2⟩ := there_le hr
 obtain ⟨M, ps, onv, ev, hM, hd, hmp, hps, hwh, hev⟩ := h.hd
 have hot0 : (m.at ref).there = true := by
  have := hr
  simp only [MS.there, Bool.and_eq_true] at this
  exact this.2
 have stay : ∀ r x, β r = some x → r ≠ .ob ref → w'.heap[x]? = w.heap[x]? := fun r x hx hne => hO.block x fun e => hne (h.inj _ _ _ hx (by rw [e]; exact q1))
 have hth' : ∀ n, (m.put ref o').there n = m.there n := fun n => there_put hr hot
 have hat' : ∀ n, m.there n = true → (m.put ref o').at n = if n = ref then o' else m.at n := fun n hn => at_put ⟨r1, r2⟩ (there_le hn).1
 have hneed : o'.need = (m.at ref).need := by rw [need_there hot, need_there hot0, hvs]
 have hrefs : o'.refs = (m.at ref).refs := by unfold MO.refs; rw [he, hks, hvs]
 have hused : (m.put ref o').used = m.used := by rw [used_put hr, hneed]; omega
 have hlen : (m.put ref o').objs.length = m.objs.length := by simp [MS.put]
 refine ⟨⟨h.inj, h.lo, fun r b hb => by rw [hO.size]; exact h.hi r b hb, h.hb, ⟨M, ps, onv, ev, hM, ?_, hmp.block (stay .map M hM (by simp)), fun n => ?_, ?_, hev.keep fun k hk => stay .en k hk (by simp)⟩, ?_, ?_, ?_, ?_, ?_, ?_, h.ok⟩, Fr.only hO ⟨_, q1⟩, fun _ h => .inl h⟩
 ·rw [hused, hlen]; exact Blk.keep hd (stay .heap Hb h.hb (by simp))
 ·rw [hps n, hth' n]
 ·exact hwh.move rfl (fun s roots x hx hon hI => hI.watch hr o' hot hrefs hneed) (fun _ _ => rfl) fun r b hr2 hx => stay r b hx (by rintro rfl; cases hr2)
 ·intro n hn
  rw [hth' n] at hn
  rw [hat' n hn]
  by_cases e : n = ref
  ·subst e
   rw [if_pos rfl]
   obtain ⟨p2, f2, kept2, vv, a1, a2, a3, a4, a5, a6⟩ := (h.obs n hn).ex
   rw [q1] at a1; cases a1
   rw [q2] at a2; cases a2
   refine ⟨p, f, kept, vv, q1, q2, hb, hk, by rw [hvs]; exact a5.keep fun k hk => stay _ k hk (by simp), ?_⟩
   have hf := stay (.th n) f q2 (by simp)
   cases a6 with
   | fields kv b1 b2 b3 b4 b5 => exact .fields kv (by rw [he]; exact b1) (by rw [hks, hvs]; exact b2) (by rw [hks]; exact b3) (by rw [ht]; exact Blk.keep b4 hf) (by rw [hks]; exact b5.keep fun k hk => stay _ k hk (by simp))
   | array b1 b2 => exact .array (by rw [he]; exact b1) (by rw [he]; exact Blk.keep b2 hf)
  ·rw [if_neg e]
   refine (h.obs n hn).move rfl rfl rfl rfl fun b hb => ?_
   rcases hb with hb | hb | hb | hb
   ·exact stay _ b hb (by simpa using e)
   ·exact stay _ b hb (by simp)
   ·exact stay _ b hb (by simp)
   ·exact stay _ b hb (by simp)
 ·intro n hn
  rw [hth' n] at hn
  exact h.free n hn
 ·intro n hn k hk'
  rw [hth' n] at hn
  rw [hth' k]
  rw [refsOf_put hr (there_le hn).1] at hk'
  by_cases e : n = ref
  ·rw [if_pos e, hrefs] at hk'; exact h.wf ref hr k hk'
  ·rw [if_neg e] at hk'; exact h.wf n hn k hk'
 ·intro n hn
  rw [hth' n] at hn
  rw [hat' n hn]
  by_cases e : n = ref
  ·rw [if_pos e, hvs]; exact h.small ref hr
  ·rw [if_neg e]; exact h.small n hn
 ·rw [hused]; exact h.words
 ·rw [hlen]; exact h.len
theorem t_Watch (h : HAt base w Hb β m c) (ref : Int) :
  Calls Tryz.prog 43 #[ptr Hb, .int .i64 ref] w (OpX base w Hb β (.int .i64 (m.watch ref).1) (m.watch ref).2) := by
 refine ir43_calls fun ρ r0 r1 => ?_
 simp [ir43, r0, r1]
 refine (t_get h ref).mono ?_
 rintro _ w' ⟨rfl, rfl⟩
 cases ht : m.there ref with
 | false =>
  have hs : m.watch ref = (171, m) := by simp [MS.watch, ht]
  simp [ht]
  rw [hs]
  exact OpX.of h (ext_refl _)
 | true =>
  obtain ⟨p, f, kept, vv, q1, q2, q3, q4, q5, q6⟩ := (h.obs ref ht).ex
  have hot0 : (m.at ref).there = true := by
   have := ht
   simp only [MS.there, Bool.and_eq_true] at this
   exact this.2
  cases hw : (m.at ref).watched with
  | true =>
   have hs : m.watch ref = (6, m) := by simp [MS.watch, ht, hw]
   simp [ht, obP, q1, ptr, q3.cell, hw]
   rw [hs]
   exact OpX.of h (ext_refl _)
  | false =>
   have hs : m.watch ref = (0, m.put ref { m.at ref with watched := true }) := by simp [MS.watch, ht, hw]
   simp [ht, obP, q1, ptr, q3.cell, hw, ir43_k0]
   refine eff_store1 (B := p) (i := 3) (by simp) q3 (by simp) rfl rfl sz4 fun w2 hO2 hb2 => ?_
   simp at hb2 ⊢
   obtain ⟨hH, hT⟩ := ob_HAt (o' := { m.at ref with watched := true }) (kept := kept) h ht hot0 rfl rfl rfl rfl q1 q2 hO2 (by simpa [tyOf] using hb2) q4
   rw [hs]
   exact ⟨rfl, β, c, hH, hT⟩
end
end Go.L17
namespace Go.L17
open Go Go.Eng Go.RowKit Go.Proofs
set_option maxRecDepth 100000
set_option maxHeartbeats 2000000
theorem cb109 : callB Tryz.prog 109 = true := by kernel_rfl
section
variable {base Hb : Nat} {β : Lay} {m : MS} {c : Option Wh} {w : World}
theorem t_Addh (h : HAt base w Hb β m c) (hbw : base ≤ w.heap.size) (ref v : Int) :
  Calls Tryz.prog 41 #[ptr Hb, .int .i64 ref, .int .i64 v] w (OpX base w Hb β (.int .i64 (m.add ref v).1) (m.add ref v).2) := by
 refine ir41_calls fun ρ r0 r1 r2 => ?_
 simp -implicitDefEqProofs [-wps_asg, -wps_eff, wa2, we2, ir41]
 refine eff_box fun B0 W1 hB0 hE1 hb0 hs1 => ?_
 simp [r0, ptr, Value.cells] at hb0
 have h1 := h.ext hE1
 have z1 := hE1.size
 simp -implicitDefEqProofs [-wps_asg, -wps_eff, wa2, we2, hb0.cell, r1]
 refine (t_array h1 ref).mono ?_
 rintro _ w' ⟨rfl, rfl⟩
 by_cases hE : m.arrayE ref = 0
 rotate_left
 ·have hs : m.add ref v = (m.arrayE ref, m) := by simp [MS.add, MS.addE, hE]
  simp -implicitDefEqProofs [-wps_asg, -wps_eff, wa2, we2, hE, ir41_k3]
  rw [hs]
  exact OpX.of h hE1
 obtain ⟨ht, he⟩ := arrayE_zero.1 hE
 obtain ⟨M, ps, onv, ev, hM, hd, hmp, hps, hwh, hev⟩ := h.hd
 obtain ⟨p, f, kept, vv, q1, q2, q3, q4, q5, q6⟩ := (h.obs ref ht).ex
 obtain ⟨f2, vv2, hf2, hb2, hvs, hk12⟩ := h.arrayAt ht he
 rw [q2] at hf2
 cases hf2
 have hvv : vv2 = vv := by
  cases q6 with
  | fields kv' a1 a2 a3 a4 a5 => exact absurd a1 he
  | array a1 a2 => have := a2.heap.symm.trans hb2.heap; simp at this; exact this.symm
 subst hvv
 have hsm := h.small ref ht
 have hb21 := hb2.ext hE1
 have hvs1 := hvs.ext hE1
 simp -implicitDefEqProofs [-wps_asg, -wps_eff, wa2, we2, hE, thP, q2, ptr]
 refine raw_ord ir41_o3_ok (Ext w') fun W4 hE4 _ => ⟨hE4, ?_⟩
 have c1 : ∀ W5, Ext w' W5 → ∀ i, W5.cell? ⟨B0, i, none⟩ = #[ptr Hb][i]? := fun W5 h5 => (hb0.ext h5).cell
 have c2 : ∀ W5, Ext w' W5 → ∀ i, W5.cell? ⟨f, i, none⟩ = #[.int .u8 ((m.at ref).elem : Int), vv2][i]? := fun W5 h5 => (hb21.ext h5).cell
 simp +contextual -implicitDefEqProofs [ir41_o3, ptr, c1, c2, hE4, r2]
 have hE14 := hE1.trans' hE4
 have h4 := h.ext hE14
 refine (t_value h4 (m.at ref).elem v).mono ?_
 rintro _ W5 ⟨rfl, rfl⟩
 by_cases hv : m.value (m.at ref).elem v = 0
 rotate_left
 ·have hs : m.add ref v = (m.value (m.at ref).elem v, m) := by simp [MS.add, MS.addE, hE, hv]
  simp -implicitDefEqProofs [-wps_asg, -wps_eff, wa2, we2, hv, ir41_k3]
  rw [hs]
  exact OpX.of h hE14
 have hb24 := hb21.ext hE4
 have hvs4 := hvs1.ext hE4
 have hb04 := hb0.ext hE4
 simp -implicitDefEqProofs [-wps_asg, -wps_eff, wa2, we2, hv, ir41_k3, ir41_k2, hb24.cell, hvs4.is, hvs4.len]
 by_cases hlim : 200 ≤ (m.at ref).vals.length
 ·have hs : m.add ref v = (2, m) := by simp [MS.add, MS.addE, hE, hv, hlim]
  have hlimI : (200 : Int) ≤ ((m.at ref).vals.length : Int) := by omega
  simp -implicitDefEqProofs [-wps_asg, -wps_eff, wa2, we2, hlim, hlimI]
  rw [hs]
  exact OpX.of h hE14
 have hlimI : ¬ (200 : Int) ≤ ((m.at ref).vals.length : Int) := by omega
 simp -implicitDefEqProofs [-wps_asg, -wps_eff, wa2, we2, hlim, hlimI, ir41_k1, hb04.cell, ptr]
 have hHl := h.hi _ _ h.hb
 have lb0 := hb0.lt
 have z4 := hE4.size
 have hu0 := used_nonneg m
 have hwd := h.words
 have key := t_room (w := W5) (mv := ptr Hb) (f := 109) (caps := #[ptr B0]) (S := fun k => k = Hb)
  (A := fun W w2 => m.used + 1 ≤ m.words ∧ Blk w2 Hb #[.int .i64 m.words, .int .i64 (m.used + 1), .int .i64 m.objs.length, .map (some M), onv, ev] 96) (N := m.words < m.used + 1) cb109 (by rintro k rfl; omega) ?_
 rotate_left
 ·intro W hEW
  have q0 := hb04.ext hEW
  have qd := hd.ext (hE14.trans' hEW)
  refine ir109_calls fun ρ2 s0 => ?_
  simp [ir109, s0, ptr, q0.cell]
  refine (t_take qd (n := 1) ⟨hu0, by omega⟩ (by omega)).mono ?_
  rintro e w2 (⟨hf, rfl, wa, hEa, hOa, hb⟩ | ⟨hf, rfl, hE2⟩)
  ·simp
   exact ⟨(Fr.of hEa).trans (Fr.only hOa (S := fun k => k = Hb) rfl) (fun x h => .inl h), hf, hb⟩
  ·simp
   exact ⟨hf, hE2⟩
 refine key.mono ?_
 rintro e w5 ⟨W, B, hEW, hB, hBW, ⟨rfl, w2, hF, ⟨hfit, hd2⟩, hO⟩ | ⟨rfl, hN, hEw5⟩⟩
 rotate_left
 ·have hfits : m.fits 1 = false := by simp [MS.fits]; omega
  have hs : m.add ref v = (170, m) := by simp [MS.add, MS.addE, hE, hv, hlim, hfits]
  simp -implicitDefEqProofs [-wps_asg, -wps_eff, wa2, we2]
  rw [hs]
  exact OpX.of h (hE14.trans' hEw5)
 have hfits : m.fits 1 = true := by simp [MS.fits]; exact hfit
 have hs : m.add ref v = (0, (m.paid 1).put ref ((m.at ref).withVals ((m.at ref).vals ++ [v]))) := by simp [MS.add, MS.addE, hE, hv, hlim, hfits]
 have zW := hEW.size
 have hEW0 := hE14.trans' hEW
 have hF5 : Fr (fun k => k = Hb) w w5 := ((Fr.of hEW0 (S := fun k => k = Hb)).trans hF (fun x h => .inl h)).trans (Fr.only hO (S := fun k => k = B) rfl) (by rintro x rfl; right; omega)
 have hd5 := hO.blk hd2 (by omega)
 have z5 := hF5.size
 have stay5 : ∀ r x, β r = some x → r ≠ .heap → w5.heap[x]? = w.heap[x]? := fun r x hx hne => hF5.block x (h.hi r x hx) fun e => hne (h.inj _ _ _ hx (by rw [e]; exact h.hb))
 have hb05 : Blk w5 B0 #[ptr Hb] 25 := by
  have q0 := hb04.ext hEW
  exact hO.blk (hF.blk q0 (by omega)) (by omega)
 have ho5 : Own base 3 1 w5 vv2 ((m.at ref).vals.map encI) := Own.same' q5.own fun k hk => stay5 (.vs ref) k (by rw [← q5.blk]; exact hk) (by simp)
 have hvs5 : Sl encI w5 vv2 (m.at ref).vals := ho5.sl (by omega)
 simp -implicitDefEqProofs [-wps_asg, -wps_eff, wa2, we2, ir41_k0, hb05.cell, r1, ptr]
 have hl := hps ref
 rw [ht, q1] at hl
 refine (t_note (β := β) (f := f) (p := p) (ref := ref) (m := m) (c := c) (vv := vv2) h.inj (fun r b hr => by have := h.hi r b hr; omega) (by omega) hd5 (hmp.block (stay5 .map M hM (by simp))) hl (Blk.keep q3 (stay5 _ p q1 (by simp))) (q6.keep (stay5 _ f q2 (by simp)) (fun k hk => stay5 _ k hk (by simp))) hvs5 hsm rfl
  (hwh.move rfl (fun _ _ _ _ _ hI => hI) (fun _ _ => rfl) (fun r b hr2 hx => stay5 r b hx (by rintro rfl; cases hr2)))).mono ?_
 rintro _ w6 ⟨⟨u, rfl⟩, β1, hn⟩
 have z6 := hn.fr.size
 have stay6 : ∀ r x, β r = some x → r ≠ .wm → w6.heap[x]? = w5.heap[x]? := fun r x hx hne => hn.fr.block x (by have := h.hi r x hx; omega) fun e => hne (h.inj _ _ _ hx e)
 have ho6 : Own base 3 1 w6 vv2 ((m.at ref).vals.map encI) := Own.same' ho5 fun k hk => stay6 (.vs ref) k (by rw [← q5.blk]; exact hk) (by simp)
 have hvs6 : Sl encI w6 vv2 (m.at ref).vals := ho6.sl (by omega)
 have hb6 : Blk w6 f #[.int .u8 ((m.at ref).elem : Int), vv2] 112 := Blk.keep hb2 ((stay6 _ f q2 (by simp)).trans (stay5 _ f q2 (by simp)))
 have hd6 := Blk.keep hd5 (stay6 _ Hb h.hb (by simp))
 simp -implicitDefEqProofs [-wps_asg, -wps_eff, wa2, we2, hb6.cell, r2]
 refine eff_lit si35 (by decide) (by decide) (by simp [Value.cells]) fun B9 w7 hB9 hE7 hb9 _ => ?_
 simp [Value.cells] at hb9
 have hO9 : Own w5.heap.size 3 1 w7 (.slice (some ⟨B9, 0, none⟩) 1 1) [.int .i64 v] := Own.lit hb9 rfl (by omega) (by decide)
 have z7 := hE7.size
 have ho7 := ho6.ext hE7
 simp -implicitDefEqProofs [-wps_asg, -wps_eff, wa2, we2]
 refine eff_appendG ri35 (base := base) (by omega) (by simp) (by simp) ho7 (own_cells hO9) (by simp; rfl) (by simp; omega) (by simp; omega) fun vv' w8 ho8 hg8 hf8 => ?_
 have hvk : ∀ k, vv2.ownBlock = some k → β (.vs ref) = some k := fun k hk => by rw [← q5.blk]; exact hk
 have hflt := h.hi _ _ q2
 have hne8 : ∀ r x, β r = some x → r ≠ .vs ref → w8.heap[x]? = w7.heap[x]? := fun r x hx hne => hg8.block x (by have := h.hi _ _ hx; omega) fun e => hne (h.inj _ _ _ hx (hvk x e.symm))
 have hb8 := Blk.keep (hb6.ext hE7) (hne8 _ f q2 (by simp))
 have hd8 := Blk.keep (hd6.ext hE7) (hne8 _ Hb h.hb (by simp))
 have hone := own_one ho8
 simp -implicitDefEqProofs [-wps_asg, -wps_eff, wa2, we2]
 refine eff_store1 (B := f) (i := 1) (by simp) hb8 (by simp) (by simpa using hone.1) (by simpa using hone.2) sz35 fun w9 hO9' hb9' => ?_
 simp at hb9'
 have hnf : Hb ≠ f := fun e => by have := h.inj .heap (.th ref) f (by rw [h.hb, e]) q2; cases this
 have hvb : ∀ k, vv'.ownBlock = some k → β (.vs ref) = some k ∨ w6.heap.size ≤ k := fun k hk => by
  rcases hf8 with e | e
  ·exact .inl (hvk k (by rw [← e]; exact hk))
  ·rw [e] at hk; cases hk; exact .inr (by omega)
 have ho9 : Own base 3 1 w9 vv' (((m.at ref).vals ++ [v]).map encI) := by
  have : Own base 3 1 w8 vv' (((m.at ref).vals ++ [v]).map encI) := by simpa [encI] using ho8
  refine Own.same' this fun k hk => hO9'.block k fun e => ?_
  rcases hvb k hk with e' | e'
  ·have := h.inj _ _ _ e' (by rw [e]; exact q2); cases this
  ·omega
 have z8 := hg8.size
 have hF9 : Fr (fun k => k = f ∨ k = Hb ∨ β (.vs ref) = some k) w6 w9 := ((Fr.of hE7 (S := fun k => k = f ∨ k = Hb ∨ β (.vs ref) = some k)).trans (Fr.grown hg8) (fun x e => .inl (.inr (.inr (hvk x e))))).trans (Fr.only hO9' (S := fun k => k = f) rfl) (fun x e => .inl (.inl e))
 have hlen : (((m.at ref).vals ++ [v]).length : Int) = (m.at ref).vals.length + 1 := by simp
 have key2 := arr_HAt (vals' := (m.at ref).vals ++ [v]) (j := 1) (w9 := w9) (vv' := vv') h ht hk12 hM hmp hps hev q2 hF5 hn hF9 (by omega) (by omega) (by simp; omega) (by omega) (fun k hk => by
   rcases mem_refs_app hk he with hk | ⟨rfl, hv0, h2⟩
   ·exact h.wf ref ht k hk
   ·exact value_there hv h2 hv0) (by
   have e : m.used - ((m.at ref).vals.length : Int) + (((m.at ref).vals ++ [v]).length : Int) = m.used + 1 := by omega
   rw [e]; exact hO9'.blk hd8 hnf) hb9' ho9 hvb
 simp -implicitDefEqProofs [-wps_asg, -wps_eff, wa2, we2]
 rw [hs]
 exact ⟨rfl, _, _, key2.1, key2.2⟩
end
end Go.L17
namespace Go.L17
open Go Go.Eng Go.RowKit Go.Proofs
set_option maxRecDepth 100000
set_option maxHeartbeats 2000000
@[simp] theorem cb83 : callB Tryz.prog 83 = true := by kernel_rfl
@[simp] theorem cb54 : callB Tryz.prog 54 = true := by kernel_rfl
@[simp] theorem cb85 : callB Tryz.prog 85 = true := by kernel_rfl
@[simp] theorem cb45 : callB Tryz.prog 45 = true := by kernel_rfl
theorem cb125 : callB Tryz.prog 125 = true := by kernel_rfl
def fI (p : Int → Bool) : List Int → Int
 | [] => -1
 | a :: l => if p a then 0 else (if fI p l < 0 then -1 else fI p l + 1)
theorem fI_none {p : Int → Bool} : ∀ {l : List Int}, (∀ x ∈ l, p x = false) → fI p l = -1
 | [], _ => rfl
 | a :: l, h => by
  unfold fI
  rw [h a (by simp), fI_none (l := l) fun x hx => h x (by simp [hx])]
  simp
theorem fI_some {p : Int → Bool} : ∀ {l : List Int} {k : Nat} (hk : k < l.length), p l[k] = true → (∀ j (hj : j < k), p (l[j]'(by omega)) = false) → fI p l = k
 | a :: l, 0, _, h, _ => by
  have : p a = true := h
  unfold fI; rw [if_pos this]; rfl
 | a :: l, k + 1, hk, h, hn => by
  have h0 : p a = false := hn 0 (by omega)
  have ih := fI_some (p := p) (l := l) (k := k) (by simpa using hk) h fun j hj => hn (j + 1) (by omega)
  unfold fI
  rw [if_neg (by simp [h0]), ih, if_neg (by omega)]
  omega
theorem fI_any {p : Int → Bool} : ∀ (l : List Int), decide (0 ≤ fI p l) = l.any p
 | [] => rfl
 | a :: l => by
  have ih := fI_any (p := p) l
  unfold fI
  rw [List.any_cons, ← ih]
  cases p a with
  | true => simp
  | false =>
   simp
   by_cases h : fI p l < 0
   ·rw [if_pos h]; simp; omega
   ·rw [if_neg h]; omega
theorem t_indexI {w : World} {v : Value} {l : List Int} {gf : FuncId} {fs caps : Array Value} {p : Int → Bool} (hl : Sl encI w v l) (hcb : callB Tryz.prog gf = true) (hf : ∀ x ∈ l, Calls Tryz.prog gf (fs ++ #[.int .i64 x] ++ caps) w fun e w' => e = .returned (.bool (p x)) ∧ w' = w) :
  Calls Tryz.prog 83 #[v, .func (.func gf) fs caps] w fun e w' => e = .returned (.int .i64 (fI p l)) ∧ w' = w := by
 have hbd := hl.bd
 refine ir83_calls fun ρ h0 h1 => ?_
 simp [ir83, h0, hl.is, hl.len]
 refine loopC 8 l.length (fun k ρ' w' => w' = w ∧ ρ' 0 = v ∧ ρ' 1 = .func (.func gf) fs caps ∧ ρ' 7 = .int .i64 l.length ∧ ∀ j (hj : j < l.length), j < k → p l[j] = false) (by simp) ⟨rfl, by simp [h0], by simp [h1], by simp, by simp⟩ ?_
 rintro k ρ' w' hk h8 ⟨rfl, h0, h1, h7, hall⟩
 by_cases hlt : k < l.length
 ·simp [ir83_l2, ir83_k1, h8, h7, hlt, h0, h1, hl.is, hl.len, hl.cell k hlt, encI]
  refine eff_callv (f := gf) (fs := fs) (caps := caps) hcb (by simp) ?_
  simp
  have := hf l[k] (List.getElem_mem hlt)
  simp at this
  refine this.mono ?_
  rintro _ w2 ⟨rfl, rfl⟩
  cases hk2 : p l[k] with
  | true =>
   simp [hk2]
   exact (fI_some hlt hk2 fun j hj => hall j (by omega) hj).symm
  | false =>
   simp [hk2, ir83_k0, h8, i64w (n := (k : Int) + 1) (by omega), h0, h1, h7]
   intro j hj hjk
   by_cases e : j = k
   ·subst e; exact hk2
   ·exact hall j hj (by omega)
 ·have hk' : k = l.length := by omega
  subst hk'
  simp [ir83_l2, h8, h7, ir83_k3]
  exact (fI_none fun x hx => by
   obtain ⟨j, hj, rfl⟩ := List.getElem_of_mem hx
   exact hall j hj hj).symm
theorem t_containsI {w : World} {v : Value} {l : List Int} {gf : FuncId} {fs caps : Array Value} {p : Int → Bool} (hl : Sl encI w v l) (hcb : callB Tryz.prog gf = true) (hf : ∀ x ∈ l, Calls Tryz.prog gf (fs ++ #[.int .i64 x] ++ caps) w fun e w' => e = .returned (.bool (p x)) ∧ w' = w) :
  Calls Tryz.prog 54 #[v, .func (.func gf) fs caps] w fun e w' => e = .returned (.bool (l.any p)) ∧ w' = w := by
 refine ir54_calls fun ρ h0 h1 => ?_
 simp [ir54, h0, h1]
 refine (t_indexI hl hcb hf).mono ?_
 rintro _ w' ⟨rfl, rfl⟩
 simp
 exact fI_any l
theorem flatMap_filter_eq {m : MS} : m.count = ((m.nums.filter m.there).length : Int) := by
 unfold MS.count
 have : ∀ (l : List MO), (l.filter MO.there).length = ((List.range l.length).filter fun i => (l.getD i noMO).there).length := by
  intro l
  induction l with
  | nil => rfl
  | cons a l ih =>
   rw [List.length_cons, List.range_succ_eq_map, List.filter_cons, List.filter_cons, List.filter_map]
   have e : ((fun i => ((a :: l).getD i noMO).there) ∘ Nat.succ) = fun i => (l.getD i noMO).there := by
    funext i; simp
   rw [e]
   have e0 : ((a :: l).getD 0 noMO).there = a.there := rfl
   rw [e0]
   cases h : a.there with
   | true => rw [if_pos rfl, if_pos rfl, List.length_cons, List.length_cons, List.length_map, ih]
   | false => rw [if_neg (by simp), if_neg (by simp), List.length_map, ih]
 rw [this, MS.nums, List.filter_map, List.length_map]
 congr 2
 apply List.filter_congr
 intro i hi
 have hi' : i < m.objs.length := List.mem_range.1 hi
 show _ = m.there ((i : Int) + 1)
 unfold MS.there MS.at
 have h1 : decide (1 ≤ (i : Int) + 1) = true := by simp; omega
 have h2 : decide ((i : Int) + 1 ≤ (m.objs.length : Int)) = true := by simp; omega
 rw [h1, h2]
 simp
def MS.thereL (m : MS) : List Int := m.nums.filter m.there
theorem nums_sorted (m : MS) : m.nums.Pairwise (· < ·) := by
 unfold MS.nums
 rw [List.pairwise_map]
 exact List.pairwise_lt_range.imp fun h => by omega
theorem thereL_sorted (m : MS) : m.thereL.Pairwise (· < ·) := (nums_sorted m).filter _
theorem mem_thereL {m : MS} {n : Int} : n ∈ m.thereL ↔ m.there n = true := by
 unfold MS.thereL
 rw [List.mem_filter, mem_nums]
 exact ⟨fun h => h.2, fun h => ⟨there_le h, h⟩⟩
section
variable {base Hb : Nat} {β : Lay} {m : MS} {c : Option Wh} {w : World}
theorem HAt.keys {M : Nat} {ps : List (Int × Value)} (h : HAt base w Hb β m c) (hmp : I.MapB w M ps) (hps : ∀ n, I.lookP ps n = if m.there n then (β (.ob n)).map ptr else none) : (ps.map (·.1)).Perm m.thereL := by
 rw [List.perm_ext_iff_of_nodup hmp.nodup ((thereL_sorted m).imp fun h e => by omega)]
 intro n
 rw [I.mem_keys_look, hps, mem_thereL]
 cases ht : m.there n with
 | false => simp
 | true =>
  obtain ⟨p, f, kept, vv, q1, _⟩ := (h.obs n ht).ex
  simp [q1]
theorem t_Count (h : HAt base w Hb β m c) : Calls Tryz.prog 45 #[ptr Hb] w fun e w' => e = .returned (.int .i64 m.count) ∧ w' = w := by
 obtain ⟨M, ps, onv, ev, h1, hd, hm, hps, _, _⟩ := h.hd
 refine ir45_calls fun ρ r0 => ?_
 simp [ir45, r0]
 refine eff_eqlNilP (p := some ⟨Hb, 0, none⟩) und25 (by simp [ptr]) ?_
 simp [ir45_k0, r0, ptr, hd.cell]
 refine eff_lenMap und91 (by simp) hm ?_
 have e : (ps.length : Int) = m.count := by
  have := (h.keys hm hps).length_eq
  rw [List.length_map] at this
  rw [flatMap_filter_eq, this]; rfl
 simp [e]
theorem t_rooted (h : HAt base w Hb β m c) {v : Value} {l : List Int} (hl : Sl encI w v l) : Calls Tryz.prog 85 #[ptr Hb, v] w fun e w' => e = .returned (.int .i64 (m.rootE l)) ∧ Ext w w' := by
 refine ir85_calls fun ρ r0 r1 => ?_
 simp [ir85]
 refine eff_box fun B W hB hE hb hs1 => ?_
 simp [r0, Value.cells] at hb
 have hl1 := hl.ext hE
 by_cases hlen : 10000 < l.length
 ·have hI : (10000 : Int) < (l.length : Int) := by omega
  simp [r1, hl1.is, hl1.len, hI, MS.rootE, hlen]
  exact hE
 ·have hI : ¬ (10000 : Int) < (l.length : Int) := by omega
  simp [r1, hl1.is, hl1.len, hI]
  refine (t_containsI (p := fun r => decide (r ≠ 0) && !m.there r) (gf := 125) (fs := #[]) (caps := #[.pointer (some ⟨B, 0, none⟩)]) hl1 cb125 fun x hx => ?_).mono ?_
  ·simp
   refine ir125_calls fun ρ2 s0 s1 => ?_
   by_cases h0 : x = 0
   ·simp [ir125, s0, h0]
   ·simp [ir125, s0, h0, s1, hb.cell, ptr]
    refine (t_there (h.ext hE) x).mono ?_
    rintro _ w2 ⟨rfl, rfl⟩
    simp [h0]
  ·rintro _ w2 ⟨rfl, rfl⟩
   have hr : m.rootE l = if (l.any fun r => decide (r ≠ 0) && !m.there r) then 171 else 0 := by unfold MS.rootE; rw [if_neg hlen]
   rw [hr]
   generalize (l.any fun r => decide (r ≠ 0) && !m.there r) = b
   cases b with
   | true =>
    simp
    exact hE
   | false =>
    simp [ir85_k0]
    exact hE
end
end Go.L17
namespace Go.L17
open Go Go.Eng Go.RowKit Go.Proofs
set_option maxRecDepth 100000
set_option maxHeartbeats 2000000
section
variable {P : Program} {Q : Ks} {d : Option Nat} {ty : TypeId} {K : Env → World → Prop} {ρ : Env} {w : World}
theorem zeroCells_one (zv : Value) (n : Nat) : (Builtin.zeroCells #[zv] n).toList = List.replicate n zv := by
 apply List.ext_getElem
 ·simp [Builtin.zeroCells]
 ·intro i h1 h2
  have hm : i % 1 = 0 := Nat.mod_one i
  simp [Builtin.zeroCells, hm]
theorem eff_clearOwn {t e e' : TypeId} {zv : Value} (ht : P.underlying t = some (.slice e)) (hz : ∀ w, (zeroValue e).run P w = .ok zv w) (hc : zv.cells = #[zv]) (h1 : zv.oneCell = true) {x : Operand} {sv : Value} {xs : List Value} {base i : Nat} (hown : Own base e' 1 w sv xs) (hi : i ≤ xs.length)
  (hx : evE ρ x = slSub sv 1 i (slLen sv) (slCap sv)) (h : ∀ W, (W = w ∨ ∃ b, sv.ownBlock = some b ∧ Only b w W) → Own base e' 1 W (slSub sv 1 0 i (slCap sv)) (xs.take i) → K (updO ρ d (.tuple #[])) W) :
  effW P Q d (.call { callee := .builtin .clear, args := #[x], argTypes := #[t] }) ty K ρ w := by
 have cut : ∀ W (v : Value), Own base e' 1 W v xs → Own base e' 1 W (slSub v 1 0 i (slCap v)) (xs.take i) := by
  intro W v hv
  rcases hv with ⟨rfl, rfl⟩ | ⟨g, off, n, cap, cur, rfl, hb, hg, hlen, hc, hm, hs, hh⟩
  ·have : i = 0 := by simpa using hi
   subst this
   exact .inl ⟨by simp [slSub, slCap], rfl⟩
  ·have es : slSub (.slice (some ⟨g, off, none⟩) n cap) 1 0 i (slCap (.slice (some ⟨g, off, none⟩) n cap)) = .slice (some ⟨g, off, none⟩) i cap := by
    simp [slSub, slCap]
   rw [es]
   refine .inr ⟨g, off, i, cap, cur, rfl, hb, hg, by simp; omega, by omega, hm, hs, ?_⟩
   rw [← hh, List.take_take]
   congr 1
   omega
 show effE P Q d _ ty K ρ w
 rcases hown with ⟨rfl, rfl⟩ | ⟨g, off, n, cap, cur, rfl, hb, hg, hlen, hcp, hm, hs, hh⟩
 ·have : i = 0 := by simpa using hi
  subst this
  refine effE_ok (v := .tuple #[]) (w' := w) ?_ (h w (.inl rfl) (cut w _ (.inl ⟨rfl, rfl⟩)))
  have hx' : evE ρ x = .slice none 0 0 := by rw [hx]; simp [slSub, slLen, slCap]
  simp [execOp, effOp, resolve, invoke, builtin, hx', Builtin.clear_, run_underlying ht]
 ·have hn : n = xs.length := by omega
  by_cases hni : n - i = 0
  ·refine effE_ok (v := .tuple #[]) (w' := w) ?_ (h w (.inl rfl) (cut w _ (.inr ⟨g, off, n, cap, cur, rfl, hb, hg, hlen, hcp, hm, hs, hh⟩)))
   have hx' : ∃ a c, evE ρ x = .slice a 0 c := by rw [hx]; simp [slSub, slLen, slCap, hni]
   obtain ⟨a, c, hx'⟩ := hx'
   cases a <;> simp [execOp, effOp, resolve, invoke, builtin, hx', Builtin.clear_, run_underlying ht]
  ·have hcap : ¬ cap = i := by omega
   have hx' : evE ρ x = .slice (some ⟨g, off + i, none⟩) (n - i) (cap - i) := by
    rw [hx]; simp [slSub, slLen, slCap, hcap]
   have hB : Blk w g cur e' := ⟨hg⟩
   obtain ⟨W, hW, hO, hBlk⟩ := run_storeCells (P := P) ⟨g, off + i, none⟩ (List.replicate (n - i) zv) 0 (fun W => Only g w W ∧ Blk W g (cur.toList.take (off + i + 0) ++ List.replicate (n - i) zv ++ cur.toList.drop (off + i + 0 + (List.replicate (n - i) zv).length)).toArray e') w
    (storesW_shift _ 0 w (storesW_blk (List.replicate (n - i) zv) (off + i + 0) w cur hB (by simp; omega) (fun v hv => by rw [List.mem_replicate] at hv; rw [hv.2]; exact h1) fun W hO hB => ⟨hO, hB⟩))
   refine effE_ok (v := .tuple #[]) (w' := W) ?_ (h W (.inr ⟨g, rfl, hO⟩) ?_)
   ·obtain ⟨m, hm'⟩ : ∃ m, n - i = m + 1 := ⟨n - i - 1, by omega⟩
    rw [hm'] at hx' hW
    have hr : (storeCells ⟨g, off + i, none⟩ (Builtin.zeroCells zv.cells (m + 1)).toList).run P w = .ok () W := by
     rw [hc, zeroCells_one]; exact hW
    simp [execOp, effOp, resolve, invoke, builtin, hx', Builtin.clear_, run_underlying ht, hz, hr, Result.andThen]
   ·have es : slSub (.slice (some ⟨g, off, none⟩) n cap) 1 0 i (slCap (.slice (some ⟨g, off, none⟩) n cap)) = .slice (some ⟨g, off, none⟩) i cap := by
     simp [slSub, slCap]
    rw [es]
    refine .inr ⟨g, off, i, cap, _, rfl, hb, hBlk.heap, by simp; omega, by omega, hm, by simp; omega, ?_⟩
    rw [← hh]
    simp only [Nat.add_zero, List.toList_toArray]
    rw [List.append_assoc, List.drop_append_of_le_length (by simp; omega), List.take_append_of_le_length (by simp; omega), List.drop_take, List.take_take, List.take_take]
    congr 1
    omega
end
@[simp] theorem cb17 : callB Tryz.prog 17 = true := by kernel_rfl
theorem zv3 (w : World) : (zeroValue 3).run Tryz.prog w = .ok (.int .i64 0) w := by kernel_rfl
theorem und35 : Tryz.prog.underlying 35 = some (.slice 3) := by kernel_rfl
def DelF (v : Value) (w w' : World) : Prop := w' = w ∨ ∃ b, v.ownBlock = some b ∧ Only b w w'
theorem DelF.trans {v : Value} {a b c : World} (h : DelF v a b) (k : DelF v b c) : DelF v a c := by
 rcases h with rfl | ⟨x, hx, h⟩
 ·exact k
 ·rcases k with rfl | ⟨y, hy, k⟩
  ·exact .inr ⟨x, hx, h⟩
  ·rw [hx] at hy; cases hy
   exact .inr ⟨x, hx, h.trans k⟩
theorem t_Delete {w : World} {base : Nat} {v : Value} {l : List Int} {gf : FuncId} {fs caps : Array Value} {p : Int → Bool} (hl : Own base 3 1 w v (l.map encI)) (hlen : l.length < 4611686018427387904) (hcb : callB Tryz.prog gf = true)
  (hf : ∀ x ∈ l, ∀ W, DelF v w W → Calls Tryz.prog gf (fs ++ #[.int .i64 x] ++ caps) W fun e w' => e = .returned (.bool (p x)) ∧ w' = W) :
  Calls Tryz.prog 17 #[v, .func (.func gf) fs caps] w fun e w' => ∃ x, e = .returned x ∧ x.ownBlock = v.ownBlock ∧ Own base 3 1 w' x ((l.filter fun a => !p a).map encI) ∧ DelF v w w' := by
 have hs := hl.sl (enc := encI) hlen
 refine ir17_calls fun ρ r0 r1 => ?_
 simp [ir17, r0, r1]
 refine (t_indexI (p := p) hs hcb fun x hx => hf x hx w (.inl rfl)).mono ?_
 rintro _ w' ⟨rfl, rfl⟩
 by_cases hany : l.any p = true
 rotate_left
 ·have hall : ∀ x ∈ l, p x = false := fun x hx => by
   have := List.any_eq_false.1 (by simpa using hany : l.any p = false) x hx
   simpa using this
  have hfl : l.filter (fun a => !p a) = l := List.filter_eq_self.2 fun a ha => by simp [hall a ha]
  simp [fI_none hall, r0]
  exact ⟨by rw [hfl]; exact hl, .inl rfl⟩
 ·obtain ⟨i0, hi0, hpi, hbefore, hfi⟩ : ∃ k, ∃ hk : k < l.length, p l[k] = true ∧ (∀ j (hj : j < k), p (l[j]'(by omega)) = false) ∧ fI p l = k := by
   have h0 := fI_any (p := p) l
   rw [hany] at h0
   obtain ⟨k, hk⟩ : ∃ k : Nat, fI p l = k := ⟨(fI p l).toNat, by have := of_decide_eq_true h0; omega⟩
   clear h0
   have : ∀ (l : List Int) (k : Nat), fI p l = k → ∃ hk : k < l.length, p l[k] = true ∧ ∀ j (hj : j < k), p (l[j]'(by omega)) = false := by
    intro l
    induction l with
    | nil => intro k hk; simp [fI] at hk
    | cons a l ih =>
     intro k hk
     unfold fI at hk
     split at hk
     ·rename_i ha
      have : k = 0 := by omega
      subst this
      exact ⟨by simp, ha, fun j hj => absurd hj (by omega)⟩
     ·rename_i ha
      split at hk
      ·omega
      ·obtain ⟨k', rfl⟩ : ∃ k', k = k' + 1 := ⟨k - 1, by omega⟩
       obtain ⟨h1, h2, h3⟩ := ih k' (by omega)
       refine ⟨by simpa using h1, by simpa using h2, fun j hj => ?_⟩
       cases j with
       | zero => simpa using ha
       | succ j => simpa using h3 j (by omega)
   obtain ⟨h1, h2, h3⟩ := this l k hk
   exact ⟨k, h1, h2, h3, hk⟩
  have hne : ¬ ((i0 : Int) = -1) := by omega
  rw [hfi]
  simp [hne, ir17_k4, i64w (n := (i0 : Int) + 1) (by omega)]
  have hf0 : (l.take (i0 + 1)).filter (fun a => !p a) = l.take i0 := by
   rw [List.take_add_one, List.getElem?_eq_getElem hi0, List.filter_append]
   simp only [Option.toList_some]
   rw [List.filter_eq_self.2, List.filter_cons_of_neg (by simp [hpi]), List.filter_nil, List.append_nil]
   intro a ha
   obtain ⟨j, hj, rfl⟩ := List.getElem_of_mem ha
   rw [List.getElem_take]
   have hj' : j < i0 := by simp at hj; omega
   simp [hbefore j hj']
  obtain ⟨q, hq⟩ : ∃ q : Int → Bool, q = fun a => !p a := ⟨_, rfl⟩
  rw [← hq] at hf0 ⊢
  refine loopI (fun ρ' w'' => ∃ (j i : Nat) (ys : List Int), ρ' 6 = .int .i64 j ∧ ρ' 5 = .int .i64 i ∧ j ≤ l.length ∧ i < j ∧ ρ' 0 = v ∧ ρ' 1 = .func (.func gf) fs caps ∧ Own base 3 1 w'' v (ys.map encI) ∧ ys.length = l.length ∧ ys.take i = (l.take j).filter q ∧ ys.drop j = l.drop j ∧ DelF v w' w'')
   (fun ρ' _ => l.length - (RowKit.intOf (ρ' 6)).toNat) ⟨i0 + 1, i0, l, by simp, by simp [hfi], by omega, by omega, by simp [r0], by simp [r1], hl, rfl, hf0.symm, rfl, .inl rfl⟩ ?_
  rintro ρ' w'' ⟨j, i, ys, h6, h5, hj, hij, h0, h1, hown, hyl, hyt, hyd, hD⟩
  have hys := hown.sl (enc := encI) (by omega)
  by_cases hlt : j < l.length
  ·have hjy : j < ys.length := by omega
   have hyj : ys[j] = l[j] := by
    have e1 : (ys.drop j)[0]? = (l.drop j)[0]? := by rw [hyd]
    simp only [List.getElem?_drop, Nat.add_zero] at e1
    rw [List.getElem?_eq_getElem hjy, List.getElem?_eq_getElem hlt] at e1
    exact Option.some.inj e1
   have hltI : (j : Int) < (ys.length : Int) := by omega
   have hd1 : ys.drop (j + 1) = l.drop (j + 1) := by
    have : (ys.drop j).drop 1 = (l.drop j).drop 1 := by rw [hyd]
    simpa [List.drop_drop, Nat.add_comm] using this
   simp [ir17_l2, ir17_k1, h6, h0, h1, hys.is, hys.len, hltI, hjy, hys.cell j hjy, encI]
   refine eff_callv (f := gf) (fs := fs) (caps := caps) hcb (by simp) ?_
   have hcall := hf l[j] (List.getElem_mem hlt) w'' hD
   simp [hyj] at hcall ⊢
   refine hcall.mono ?_
   rintro _ w2 ⟨rfl, rfl⟩
   have ht1 : (l.take (j + 1)).filter q = (l.take j).filter q ++ (if q l[j] then [l[j]] else []) := by
    rw [List.take_add_one, List.getElem?_eq_getElem hlt, List.filter_append, Option.toList_some]
    cases hqq : q l[j] <;> simp [hqq]
   cases hk2 : p l[j] with
   | true =>
    have hqj : q l[j] = false := by rw [hq]; simp [hk2]
    rw [hqj] at ht1
    simp [hk2, ir17_k0, h6, h5, h0, h1, i64w (n := (j : Int) + 1) (by omega)]
    exact ⟨⟨j + 1, by simp, by omega, by omega, ys, hown, hyl, by rw [hyt, ht1]; simp, hd1, hD⟩, by omega⟩
   | false =>
    have hqj : q l[j] = true := by rw [hq]; simp [hk2]
    rw [hqj] at ht1
    have hiy : i < ys.length := by omega
    have hiI : (i : Int) < (ys.length : Int) := by omega
    simp [hk2, h5, h0, hys.is, hys.len, hiI, hiy]
    refine eff_storeG (i := i) hown (by simpa using hiy) (by simp) (by simp [Value.cells]) (by simp) (by simp) fun b w3 hb hO3 ho3 => ?_
    simp at ho3
    rw [map_set_enc] at ho3
    simp [ir17_k0, h6, h5, h0, h1, i64w (n := (j : Int) + 1) (by omega), i64w (n := (i : Int) + 1) (by omega)]
    refine ⟨⟨j + 1, by simp, i + 1, by simp, by omega, by omega, ys.set i l[j], ho3, by simpa using hyl, ?_, ?_, hD.trans (.inr ⟨b, hb, hO3⟩)⟩, by omega⟩
    ·rw [ht1, ← hyt]
     simp
     rw [List.take_add_one, List.getElem?_set_self hiy, List.take_set_of_le (Nat.le_refl i)]
     rfl
    ·rw [List.drop_set_of_lt (by omega)]; exact hd1
  ·have hjl : j = l.length := by omega
   subst hjl
   have hnl : ¬ ((l.length : Int) < (ys.length : Int)) := by omega
   have hcapy : (ys.length : Nat) ≤ slCap v := by have := isSl_len_cap hys.is; have := hys.len; omega
   have hi1 : (i : Int) ≤ (ys.length : Int) := by omega
   have hi2 : (i : Int) ≤ (slCap v : Int) := by omega
   have hi3 : i ≤ slCap v := by omega
   have hi4 : i ≤ ys.length := by omega
   simp [ir17_l2, h6, h0, hys.is, hys.len, hnl, ir17_k3, h5, hi1, hi4]
   refine eff_clearOwn (i := i) und35 zv3 (by simp [Value.cells]) rfl hown (by simp; omega) (by simp [hys.len]) fun w3 hD3 ho3 => ?_
   simp [h0, hys.is, h5, hi2, hi3]
   refine ⟨ownBlock_slSub _ _ _ _ _, ?_, hD.trans hD3⟩
   rw [← List.map_take, hyt, List.take_length] at ho3
   exact ho3
end Go.L17
namespace Go.L17
open Go Go.Eng Go.RowKit Go.Proofs
set_option maxRecDepth 100000
set_option maxHeartbeats 2000000
theorem least {P : Nat → Prop} (h : ∃ n, P n) : ∃ n, P n ∧ ∀ k, k < n → ¬ P k := by
 obtain ⟨n, hn⟩ := h
 induction n using Nat.strongRecOn with
 | _ n ih =>
  by_cases hk : ∃ k, k < n ∧ P k
  ·obtain ⟨k, hk, hp⟩ := hk
   exact ih k hk hp
  ·exact ⟨n, hn, fun k hk' hp => hk ⟨k, hk', hp⟩⟩
section
variable {cx : Cx} {K : Env → World → Prop} {Q : Ks} {ρ : Env} {w : World}
theorem loopN (I : Nat → Env → World → Prop) (n0 : Nat) {a : IR} (h0 : I n0 ρ w) (h : ∀ n ρ' w', I n ρ' w' → a.wp cx (fun ρ'' w'' => ∃ m, m < n ∧ I m ρ'' w'') Q ρ' w') : (IR.loop a).wp cx K Q ρ w := by
 classical
 refine loopI (fun ρ w => ∃ n, I n ρ w) (fun ρ w => if h : ∃ n, I n ρ w then Classical.choose (least h) else 0) ⟨n0, h0⟩ ?_
 intro ρ' w' hx
 obtain ⟨hs, _⟩ := Classical.choose_spec (least hx)
 rw [dif_pos hx]
 refine IR.wp_mono (h _ ρ' w' hs) ?_ (fun _ _ _ h => h) (fun _ _ h => h) (fun _ _ _ h => h) (fun h => h) ⟨fun h => h, fun h => h⟩
 rintro ρ'' w'' ⟨m, hm, hI⟩
 refine ⟨⟨m, hI⟩, ?_⟩
 have hy : ∃ n, I n ρ'' w'' := ⟨m, hI⟩
 rw [dif_pos hy]
 obtain ⟨_, hmin⟩ := Classical.choose_spec (least hy)
 have : Classical.choose (least hy) ≤ m := Nat.le_of_not_lt fun hlt => hmin m hlt hI
 omega
end
theorem leaves_marks {P : Program} {rs : List RV} {R : Ending → World → Prop} {ρ : Env} {u : FrameMode} (hu : u ≠ .run) : ∀ {ds : List Nat} {w : World}, ds.Nodup → (∀ d ∈ ds, w.heap[d]? = some (.deferred (some []))) →
  (∀ w', Fr (fun k => k ∈ ds) w w' → LeavesV P rs R ρ [] u w') → LeavesV P rs R ρ (ds.map fun d : Nat => Value.int .i64 (d : Int)) u w
 | [], w, _, _, h => h w (Fr.of (ext_refl _))
 | d :: ds, w, hn, hd, h => by
  obtain ⟨h1, h2⟩ := List.nodup_cons.1 hn
  refine leaves_mark hu (hd d (by simp)) fun w1 hO => leaves_marks hu h2 (fun x hx => ?_) fun w2 hF => ?_
  ·rw [hO.block x (fun e => h1 (e ▸ hx))]; exact hd x (by simp [hx])
  ·exact h w2 ((Fr.only hO (S := fun k => k ∈ d :: ds) (by simp)).trans hF fun x hx => .inl (by simp [hx]))
theorem end_marks {P : Program} {rs : List RV} {R : Ending → World → Prop} {ρ : Env} {w : World} {ds : List Nat} (hg : ρ gS = .tuple (ds.map fun d : Nat => Value.int .i64 (d : Int)).toArray) (hn : ds.Nodup) (hb : ∀ d ∈ ds, w.heap[d]? = some (.deferred (some []))) (h : ∀ w', Fr (fun k => k ∈ ds) w w' → retK rs R ρ w') : endK P rs R .returning ρ w := by
 simp only [endK, hg]
 exact leaves_marks (by simp) hn hb fun w' hF => h w' hF
structure RP (m : MS) (roots ks ws : List Int) : Prop where
 nd : ks.Nodup
 kmet : ∀ n ∈ ks, m.met roots n = true
 wmet : ∀ n ∈ ws, m.met roots n = true
 root : ∀ n ∈ roots, n ≠ 0 → n ∈ ks ∨ n ∈ ws
 closed : ∀ n ∈ ks, ∀ k ∈ m.refsOf n, k ∈ ks ∨ k ∈ ws
theorem RP.start (m : MS) (roots : List Int) : RP m roots [] (roots.filter fun a => !decide (a = 0)) := by
 refine ⟨List.nodup_nil, fun _ h => (by cases h), fun n hn => ?_, fun n hn h0 => .inr (List.mem_filter.2 ⟨hn, by simp [h0]⟩), fun _ h => (by cases h)⟩
 obtain ⟨h1, h2⟩ := List.mem_filter.1 hn
 exact met_iff.2 (.root h1 (by simpa using h2))
theorem RP.done {m : MS} {roots ks : List Int} (h : RP m roots ks []) (n : Int) : n ∈ ks ↔ m.met roots n = true := by
 refine ⟨h.kmet n, fun hm => ?_⟩
 have hr := met_iff.1 hm
 clear hm
 induction hr with
 | root h1 h2 => rcases h.root _ h1 h2 with h | h; exact h; cases h
 | step _ hk ih => rcases h.closed _ ih _ hk with h | h; exact h; cases h
theorem RP.skip {m : MS} {roots ks ws : List Int} {n : Int} (h : RP m roots ks (ws ++ [n])) (hn : n ∈ ks) : RP m roots ks ws := by
 have key : ∀ k, k ∈ ks ∨ k ∈ ws ++ [n] → k ∈ ks ∨ k ∈ ws := by
  intro k hk
  rcases hk with hk | hk
  ·exact .inl hk
  ·rcases List.mem_append.1 hk with hk | hk
   ·exact .inr hk
   ·rw [List.mem_singleton] at hk; subst hk; exact .inl hn
 exact ⟨h.nd, h.kmet, fun k hk => h.wmet k (by simp [hk]), fun k hk h0 => key k (h.root k hk h0), fun a ha k hk => key k (h.closed a ha k hk)⟩
theorem RP.visit {m : MS} {roots ks ws : List Int} {n : Int} (h : RP m roots ks (ws ++ [n])) (hn : n ∉ ks) : RP m roots (ks ++ [n]) (ws ++ m.refsOf n) := by
 have hnm := h.wmet n (by simp)
 have key : ∀ k, k ∈ ks ∨ k ∈ ws ++ [n] → k ∈ ks ++ [n] ∨ k ∈ ws ++ m.refsOf n := by
  intro k hk
  rcases hk with hk | hk
  ·exact .inl (by simp [hk])
  ·rcases List.mem_append.1 hk with hk | hk
   ·exact .inr (by simp [hk])
   ·exact .inl (List.mem_append_right _ hk)
 refine ⟨?_, ?_, ?_, fun k hk h0 => key k (h.root k hk h0), ?_⟩
 ·rw [List.nodup_append]
  refine ⟨h.nd, by simp, fun a ha b hb => ?_⟩
  rw [List.mem_singleton] at hb
  subst hb
  exact fun e => hn (e ▸ ha)
 ·intro k hk
  rcases List.mem_append.1 hk with hk | hk
  ·exact h.kmet k hk
  ·rw [List.mem_singleton] at hk; subst hk; exact hnm
 ·intro k hk
  rcases List.mem_append.1 hk with hk | hk
  ·exact h.wmet k (by simp [hk])
  ·exact met_iff.2 (.step (met_iff.1 hnm) hk)
 ·intro a ha k hk
  rcases List.mem_append.1 ha with ha | ha
  ·exact key k (h.closed a ha k hk)
  ·rw [List.mem_singleton] at ha; subst ha
   exact .inr (by simp [hk])
def MS.un (m : MS) (ks : List Int) : Nat := (m.thereL.filter fun n => !ks.contains n).length
theorem un_visit {m : MS} {ks : List Int} {n : Int} (hn : n ∉ ks) (ht : m.there n = true) : m.un (ks ++ [n]) + 1 ≤ m.un ks := by
 unfold MS.un
 have hm : n ∈ m.thereL.filter (fun n => !ks.contains n) := List.mem_filter.2 ⟨mem_thereL.2 ht, by simp [hn]⟩
 have e : m.thereL.filter (fun k => !(ks ++ [n]).contains k) = (m.thereL.filter fun n => !ks.contains n).filter fun k => decide (k ≠ n) := by
  rw [List.filter_filter]
  apply List.filter_congr
  intro k hk
  simp only [List.contains_eq_mem, List.mem_append, List.mem_singleton]
  by_cases h1 : k ∈ ks <;> by_cases h2 : k = n <;> simp [h1, h2]
 rw [e]
 have : ∀ l : List Int, n ∈ l → (l.filter fun k => decide (k ≠ n)).length + 1 ≤ l.length := by
  intro l
  induction l with
  | nil => intro h; cases h
  | cons a l ih =>
   intro h
   by_cases ha : a = n
   ·subst ha
    rw [List.filter_cons_of_neg (by simp), List.length_cons]
    have := List.length_filter_le (fun k => decide (k ≠ a)) l
    omega
   ·rw [List.filter_cons_of_pos (by simpa using ha), List.length_cons, List.length_cons]
    have : n ∈ l := by
     rcases List.mem_cons.1 h with e | e
     ·exact absurd e.symm ha
     ·exact e
    have := ih this
    omega
 exact this _ hm
theorem count_used (m : MS) : 2 * (m.thereL.length : Int) ≤ m.used := by
 have h1 := flatMap_filter_eq (m := m)
 unfold MS.thereL
 rw [← h1]
 unfold MS.count MS.used
 have : ∀ l : List MO, 2 * ((l.filter MO.there).length : Int) ≤ (l.map MO.need).sum := by
  intro l
  induction l with
  | nil => simp
  | cons a l ih =>
   rw [List.map_cons, List.sum_cons]
   cases ht : a.there with
   | true =>
    rw [List.filter_cons_of_pos ht, List.length_cons, need_there ht]
    omega
   | false =>
    rw [List.filter_cons_of_neg (by simp [ht])]
    have := need_nonneg a
    omega
 exact this _
theorem un_nil (m : MS) : m.un [] = m.thereL.length := by
 unfold MS.un
 rw [List.filter_eq_self.2 (by simp)]
end Go.L17
namespace Go.L17
open Go Go.Eng Go.RowKit Go.Proofs
set_option maxRecDepth 100000
set_option maxHeartbeats 2000000
@[simp] theorem cb88 : callB Tryz.prog 88 = true := by kernel_rfl
theorem cb128 : callB Tryz.prog 128 = true := by kernel_rfl
theorem und106 : Tryz.prog.underlying 106 = some (.map 3 4) := by kernel_rfl
theorem zi4 : ((Tryz.prog.info? 4).bind fun i => i.zero) = some (.bool false) := by kernel_rfl
theorem z35 : zeroCellsOf Tryz.prog 35 = some #[.slice none 0 0] := by kernel_rfl
theorem t_isZero (x : Int) (w : World) : Calls Tryz.prog 128 #[.int .i64 x] w fun e w' => e = .returned (.bool (decide (x = 0))) ∧ w' = w := by
 refine ir128_calls fun ρ h0 => ?_
 simp [ir128, h0]
 by_cases h : x = 0 <;> simp [h]
def setPs (ks : List Int) : List (Int × Value) := ks.map fun n => (n, .bool true)
theorem look_set (ks : List Int) (n : Int) : (I.lookP (setPs ks) n).getD (.bool false) = .bool (decide (n ∈ ks)) := by
 induction ks with
 | nil => simp [setPs]
 | cons a l ih =>
  unfold setPs at ih ⊢
  rw [List.map_cons, I.look_cons]
  by_cases h : a = n
  ·subst h; simp
  ·have h' : ¬ n = a := fun e => h e.symm
   rw [if_neg h, ih]; simp [h']
theorem set_set {ks : List Int} {n : Int} (h : n ∉ ks) : I.setP (setPs ks) n (.bool true) = setPs (ks ++ [n]) := by
 have : I.lookP (setPs ks) n = none := by
  cases hl : I.lookP (setPs ks) n with
  | none => rfl
  | some v =>
   have hm : n ∈ (setPs ks).map (·.1) := I.mem_keys_look.2 (by rw [hl]; rfl)
   exfalso
   apply h
   simpa [setPs] using hm
 rw [setP_none this]
 simp [setPs]
structure RJ (w : World) (M2 S : Nat) (ks ws : List Int) (lv : Value) (ds : List Nat) (W : World) : Prop where
 ext : Ext w W
 map : I.MapB W M2 (setPs ks)
 bl : Blk W S #[lv] 35
 own : Own w.heap.size 3 1 W lv (ws.map encI)
 ne : ∀ k, lv.ownBlock = some k → k ≠ S ∧ k ≠ M2 ∧ k ∉ ds
 dn : ds.Nodup
 dc : ∀ d ∈ ds, W.heap[d]? = some (.deferred (some []))
 dlo : ∀ d ∈ ds, w.heap.size ≤ d ∧ d ≠ S ∧ d ≠ M2
 lo : w.heap.size ≤ M2 ∧ w.heap.size ≤ S ∧ M2 ≠ S
def ReachedR (w : World) (m : MS) (roots : List Int) : Ending → World → Prop := fun e w' => ∃ B ks, e = .returned (.map (some B)) ∧ w.heap.size ≤ B ∧ I.MapB w' B (setPs ks) ∧ ks.Nodup ∧ (∀ n, n ∈ ks ↔ m.met roots n = true) ∧ Ext w w'
def LI (w : World) (Hb : Nat) (m : MS) (roots : List Int) (M2 S : Nat) (n : Nat) (ρ' : Env) (W : World) : Prop :=
 ∃ ks ws lv ds, RJ w M2 S ks ws lv ds W ∧ RP m roots ks ws ∧ ρ' 0 = ptr Hb ∧ ρ' 5 = .map (some M2) ∧ ρ' 6 = .pointer (some ⟨S, 0, none⟩) ∧ ρ' 1000000000 = .tuple (ds.map fun d : Nat => Value.int .i64 (d : Int)).toArray ∧ n = 201 * m.un ks + ws.length ∧ n ≤ 201 * m.thereL.length + roots.length
section
variable {base Hb : Nat} {β : Lay} {m : MS} {c : Option Wh} {w : World}
theorem t_reached (h : HAt base w Hb β m c) {v : Value} {roots : List Int} (hl : Sl encI w v roots) (hlen : roots.length ≤ 1000000) (hroots : ∀ n ∈ roots, n ≠ 0 → m.there n = true) :
  Calls Tryz.prog 88 #[ptr Hb, v] w (ReachedR w m roots) := by
 obtain ⟨R, hR⟩ : ∃ R, R = ReachedR w m roots := ⟨_, rfl⟩
 rw [← hR]
 have hcnt := count_used m
 have hwd := h.words
 refine ir88_calls fun ρ r0 r1 rg => ?_
 have rg' : ρ 1000000000 = .tuple #[] := rg
 simp -implicitDefEqProofs [-wps_asg, -wps_eff, wa2, we2, ir88]
 refine I.eff_makeMap fun M2 W1 hM2 hE1 hm1 _ => ?_
 simp -implicitDefEqProofs [-wps_asg, -wps_eff, wa2, we2, r1]
 refine (t_Clone (hl.ext hE1) hlen).mono ?_
 rintro _ W2 ⟨x, rfl, hx, hE2⟩
 simp -implicitDefEqProofs [-wps_asg, -wps_eff, wa2, we2]
 refine (t_Delete (p := fun a => decide (a = 0)) (gf := 128) (fs := #[]) (caps := #[]) hx (by omega) cb128 fun y _ W _ => by simpa using t_isZero y W).mono ?_
 rintro _ W3 ⟨y, rfl, hyb, hy, hD3⟩
 have hxB := Own.blk hx
 have z1 := hE1.size
 have z2 := hE2.size
 have lm1 := hm1.lt
 have sz3 : W3.heap.size = W2.heap.size := by
  rcases hD3 with rfl | ⟨b, _, hO⟩
  ·rfl
  ·exact hO.size
 have hE13 : Ext W1 W3 := by
  rcases hD3 with rfl | ⟨b, hb, hO⟩
  ·exact hE2
  ·exact hO.ext hE2 (hxB b hb).1
 have hE03 := hE1.trans' hE13
 have hfl : (List.filter (fun a => !decide (a = 0)) roots).length ≤ roots.length := List.length_filter_le _ _
 simp -implicitDefEqProofs [-wps_asg, -wps_eff, wa2, we2]
 refine eff_alloc z35 fun S W4 hS hE4 hb4 _ => ?_
 have hy4 := hy.ext hE4
 have hone := own_one hy4
 have lS := hb4.lt
 simp -implicitDefEqProofs [-wps_asg, -wps_eff, wa2, we2]
 refine eff_store1 (B := S) (i := 0) (by simp) hb4 (by simp) (by simpa using hone.1) (by simpa using hone.2) sz35 fun W5 hO5 hb5 => ?_
 simp at hb5
 have hE05 : Ext w W5 := hO5.ext (hE03.trans' hE4) (by omega)
 have hyW : ∀ k, y.ownBlock = some k → W1.heap.size ≤ k ∧ k < W3.heap.size := fun k hk => by
  rw [hyb] at hk
  have := hxB k hk
  omega
 have hy5 : Own w.heap.size 3 1 W5 y ((roots.filter fun a => !decide (a = 0)).map encI) := Own.low (Own.same' hy4 fun k hk => hO5.block k (by have := hyW k hk; omega)) (by omega)
 have hJ0 : RJ w M2 S [] (roots.filter fun a => !decide (a = 0)) y [] W5 :=
  ⟨hE05, I.MapB.block ((hm1.ext hE13).ext hE4) (hO5.block M2 (by omega)), hb5, hy5, fun k hk => ⟨by have := hyW k hk; omega, by have := hyW k hk; omega, by simp⟩, List.nodup_nil, fun _ h => (by cases h), fun _ h => (by cases h), ⟨hM2, by omega, by omega⟩⟩
 simp -implicitDefEqProofs [-wps_asg, -wps_eff, wa2, we2]
 refine loopN (LI w Hb m roots M2 S)
  (201 * m.un [] + (roots.filter fun a => !decide (a = 0)).length) ⟨[], _, y, [], hJ0, RP.start m roots, by simp [r0], by simp, by simp, by simp [rg'], rfl, by rw [un_nil]; omega⟩ ?_
 rintro n ρ' W ⟨ks, ws, lv, ds, hJ, hP, s0, s5, s6, sg, hn, hnb⟩
 have hws := hJ.own.sl (enc := encI) (by omega)
 simp -implicitDefEqProofs [-wps_asg, -wps_eff, wa2, we2, ir88_l2, s6, hJ.bl.cell, hws.is, hws.len]
 by_cases hw0 : ws = []
 ·subst hw0
  simp -implicitDefEqProofs [-wps_asg, -wps_eff, wa2, we2, ir88_k3, s5]
  refine end_marks (ds := ds) (by simp [gS, sg]) hJ.dn hJ.dc fun W' hF => ?_
  simp
  rw [hR]
  refine ⟨M2, ks, rfl, hJ.lo.1, hJ.map.block (hF.block M2 hJ.map.lt fun hd => (hJ.dlo M2 hd).2.2 rfl), hP.nd, hP.done, hF.ext hJ.ext fun d hd => (hJ.dlo d hd).1⟩
 ·have hpos : 0 < ws.length := List.length_pos_iff.2 hw0
  obtain ⟨hlast, hsp⟩ := last_mem hw0
  generalize hnn : ws.getLastD 0 = ref at hlast hsp
  have hmet := hP.wmet ref hlast
  have hth := reach_there h.wf hroots hmet
  obtain ⟨M, ps, onv, ev, hM, hd, hmp, hps, _, _⟩ := h.hd
  obtain ⟨p, f, kept, vv, q1, q2, q3, q4, q5, q6⟩ := (h.obs ref hth).ex
  have hsm := h.small ref hth
  have hMl := h.hi _ _ hM
  have hHl := h.hi _ _ h.hb
  have hlI : (0 : Int) < ws.length := by omega
  have hw1 : IntKind.i64.wrap ((ws.length : Int) - 1) = (ws.length : Int) - 1 := i64w (by omega)
  have hge : 0 ≤ (ws.length : Int) - 1 := by omega
  have hll : (ws.length : Int) - 1 < ws.length := by omega
  have h1l : (1 : Int) ≤ (ws.length : Int) := by omega
  have hcell := hws.cell (ws.length - 1) (by omega)
  have hwl : ws[ws.length - 1]'(by omega) = ref := by
   rw [← hnn, List.getLastD_eq_getLast?, List.getLast?_eq_getElem?, List.getElem?_eq_getElem (by omega)]; rfl
  have hcap : ws.length ≤ slCap lv := by have := isSl_len_cap hws.is; have := hws.len; omega
  have hcapI : (ws.length : Int) - 1 ≤ (slCap lv : Int) := by omega
  have hdl : ws.dropLast.length = ws.length - 1 := List.length_dropLast
  have hP' := hP
  rw [hsp] at hP'
  obtain ⟨Z, hZ⟩ : ∃ Z : Env → World → Prop, Z = fun ρ'' w'' => ∃ m_1, m_1 < n ∧ LI w Hb m roots M2 S m_1 ρ'' w'' := ⟨_, rfl⟩
  rw [← hZ]
  simp -implicitDefEqProofs [-wps_asg, -wps_eff, wa2, we2, hlI, hpos, ir88_k1, s6, s5, hJ.bl.cell, hws.is, hws.len, hw1, hge, hll, h1l, hcell, hwl, hcapI, encI]
  have hot : Own w.heap.size 3 1 W (slSub lv 1 0 (ws.length - 1) (ws.length - 1)) (ws.dropLast.map encI) := by
   have := Own.take hJ.own (ws.length - 1) (by simp)
   rw [← List.map_take, ← List.dropLast_eq_take] at this
   exact this
  have hone := own_one hot
  refine eff_store1 (B := S) (i := 0) (by simp [s6]) hJ.bl (by simp) (by simpa using hone.1) (by simpa using hone.2) sz35 fun W6 hO6 hb6 => ?_
  simp at hb6
  have hSl := hJ.bl.lt
  have hJ6 : RJ w M2 S ks ws.dropLast (slSub lv 1 0 (ws.length - 1) (ws.length - 1)) ds W6 := by
   refine ⟨hO6.ext hJ.ext hJ.lo.2.1, hJ.map.block (hO6.block M2 hJ.lo.2.2), hb6, Own.same' hot fun k hk => hO6.block k ?_, fun k hk => ?_, hJ.dn, fun d hd => (hO6.block d (hJ.dlo d hd).2.1).trans (hJ.dc d hd), hJ.dlo, hJ.lo⟩
   ·rw [ownBlock_slSub] at hk; exact (hJ.ne k hk).1
   ·rw [ownBlock_slSub] at hk; exact hJ.ne k hk
  generalize slSub lv 1 0 (ws.length - 1) (ws.length - 1) = lv6 at hJ6 ⊢
  simp -implicitDefEqProofs [-wps_asg, -wps_eff, wa2, we2, s5]
  refine I.eff_lookup (s := ref) und106 und3 zi4 (by simp) (by simp) hJ6.map false ?_
  simp -implicitDefEqProofs [-wps_asg, -wps_eff, wa2, we2]
  rw [look_set]
  by_cases hin : ref ∈ ks
  ·simp -implicitDefEqProofs [-wps_asg, -wps_eff, wa2, we2, hin]
   rw [hZ]
   exact ⟨201 * m.un ks + ws.dropLast.length, by omega, ks, ws.dropLast, _, ds, hJ6, hP'.skip hin, by simp [s0], by simp [s5], by simp [s6], by simp [sg], rfl, by omega⟩
  ·have hun := un_visit hin hth
   simp -implicitDefEqProofs [-wps_asg, -wps_eff, wa2, we2, hin, ir88_k0, s5]
   refine I.eff_mapUpdate (s := ref) und106 und3 (by simp) (by simp) hJ6.map fun W7 hO7 hm7 => ?_
   simp at hm7
   rw [set_set hin] at hm7
   have hE7 : Ext w W7 := hO7.ext hJ6.ext hJ.lo.1
   have hd7 := hd.ext hE7
   have q37 := q3.ext hE7
   have hlk := hps ref
   rw [hth, q1] at hlk
   simp -implicitDefEqProofs [-wps_asg, -wps_eff, wa2, we2, s0, ptr, hd7.cell]
   refine I.eff_lookup (s := ref) und91 und3 zi129 (by simp) (by simp) (hmp.ext hE7) false ?_
   simp -implicitDefEqProofs [-wps_asg, -wps_eff, wa2, we2, hlk, ptr, q37.cell]
   obtain ⟨bA, bB, hrf, hpA, hpB⟩ := ir88_rf0
   rw [hrf]
   have hbl7 := hO7.blk hJ6.bl (Ne.symm hJ.lo.2.2)
   have hown7 : Own w.heap.size 3 1 W7 lv6 (ws.dropLast.map encI) := Own.same' hJ6.own fun k hk => hO7.block k (hJ6.ne k hk).2.1
   have dc7 : ∀ d ∈ ds, W7.heap[d]? = some (.deferred (some [])) := fun d hd => (hO7.block d (hJ.dlo d hd).2.2).trans (hJ6.dc d hd)
   have dl7 : ∀ d ∈ ds, d < W7.heap.size := fun d hd => (Array.getElem?_eq_some_iff.1 (dc7 d hd)).1
   have z7 := hE7.size
   have lM7 := hm7.lt
   have lS7 := hbl7.lt
   have hrl := refs_len (m.at ref)
   have hvs := q5.sl (enc := encI) (by omega)
   refine raw_refs (o := m.at ref) (f := f) (n := ref) (β := β) (base := base) (W0 := w) rfl (by simp [dAny]) (by simp [ptr]) (by decide) q6 hvs (by omega) fun a rec W8 hag hrt hrp hra hrb hrs hrpd hE8 hsz8 hL8 => ?_
   have hF : CF w (fun k => k = M2 ∨ k ∈ ds) W8 S (W7.heap.size + 1) W7.heap.size := by
    refine ⟨⟨hJ.lo.2.1, by omega, by omega⟩, ⟨by omega, by omega, by omega⟩, ⟨?_, ?_, ?_⟩, ?_⟩
    ·rintro (e | e)
     ·exact hJ.lo.2.2 e.symm
     ·exact (hJ.dlo S e).2.1 rfl
    ·rintro (e | e)
     ·omega
     ·have := dl7 _ e; omega
    ·rintro (e | e)
     ·omega
     ·have := dl7 _ e; omega
    ·rintro k (rfl | e)
     ·omega
     ·have := dl7 _ e; omega
   have hlv7 := Own.blk hown7
   refine ⟨fun xs W => ∃ lv, CJ w (fun k => k = M2 ∨ k ∈ ds) W8 S (W7.heap.size + 1) W7.heap.size rec lv (ws.dropLast ++ xs) W, fun xs W h => h.elim fun lv h => h.ext, fun xs x r' W hxr h => ?_, ⟨lv6, hE7.trans' hE8, hL8, hbl7.ext hE8, by simpa using hown7.ext hE8, fun k hk => ⟨(hJ6.ne k hk).1, by have := hlv7 k hk; omega, by have := hlv7 k hk; omega, ?_⟩, fun _ _ => rfl, Nat.le_refl _⟩, fun v W h => ?_⟩
   ·obtain ⟨lv, hC⟩ := h
    have hxl : xs.length + 1 ≤ (m.at ref).refs.length := by rw [hxr]; simp
    refine yield_of hC.lp hrs hag hrt hrp (by rfl) (by decide) (by rw [hra]; exact hpA) (by rw [hrb]; exact hpB) ?_
    simp -implicitDefEqProofs [-wps_asg, -wps_eff, wa2, we2, parEnv, ir88_a0]
    refine ⟨hC.lp, fun W3 hO3 hL3 => ?_⟩
    have hC3 := hC.round hF hO3 hL3
    simp -implicitDefEqProofs [-wps_asg, -wps_eff, wa2, we2, ir88_b0, s6, hC3.bl.cell]
    refine eff_lit si35 (by decide) (by decide) (by simp [Value.cells]) fun B9 W4 hB9 hE4 hb9 _ => ?_
    simp [Value.cells] at hb9
    have hC4 := hC3.new hF hE4
    have hO9 : Own w.heap.size 3 1 W4 (.slice (some ⟨B9, 0, none⟩) 1 1) [.int .i64 x] := Own.lit hb9 rfl (by have := hC3.ext.size; omega) (by decide)
    simp -implicitDefEqProofs [-wps_asg, -wps_eff, wa2, we2]
    refine eff_appendG ri35 hC4.ext.size (by simp) (by simp) hC4.own (own_cells hO9) (by simp; rfl) (by simp; omega) (by simp; omega) fun lv' W5 ho5 hg5 hf5 => ?_
    have hone := own_one ho5
    have hbl5 : Blk W5 S #[lv] 35 := ⟨(hg5.block S hC4.bl.lt (fun e => (hC4.ne S e.symm).1 rfl)).trans hC4.bl.heap⟩
    simp -implicitDefEqProofs [-wps_asg, -wps_eff, wa2, we2]
    refine eff_store1 (B := S) (i := 0) (by simp [s6]) hbl5 (by simp) (by simpa using hone.1) (by simpa using hone.2) sz35 fun W6' hO6' hb6' => ?_
    simp at hb6'
    have hC6 := hC4.app (ys := ws.dropLast ++ (xs ++ [x])) hF (ext_refl _) hg5 (by simpa [encI] using ho5) hf5 hO6' hb6'
    simp [roundK]
    refine ⟨hC6.lp, fun W7' hO7' hL7' => ?_⟩
    exact ⟨lv', hC6.round hF hO7' (hL7'.ready hrs hrpd)⟩
   ·rintro (e | e)
    ·exact (hJ6.ne k hk).2.1 e
    ·exact (hJ6.ne k hk).2.2 e
   ·obtain ⟨lv, hC⟩ := h
    refine ⟨.ready, none, by simp, hC.lp.ready' hrs hrpd, fun W7' hO7' hL7' => ?_⟩
    have hC7 := hC.round hF hO7' hL7'
    have kM : W7'.heap[M2]? = W7.heap[M2]? := (hC7.kept M2 (.inl rfl)).trans (hE8.block M2 lM7)
    have kd : ∀ d ∈ ds, W7'.heap[d]? = W7.heap[d]? := fun d hd => (hC7.kept d (.inr hd)).trans (hE8.block d (dl7 d hd))
    rw [hZ]
    refine ⟨201 * m.un (ks ++ [ref]) + (ws.dropLast ++ (m.at ref).refs).length, by rw [List.length_append]; omega, ks ++ [ref], ws.dropLast ++ (m.at ref).refs, lv, W7.heap.size :: ds, ⟨hC7.ext, hm7.block kM, hC7.bl, hC7.own, fun k hk => ?_, ?_, ?_, ?_, hJ.lo⟩, hP'.visit hin, by simp [gS, s0], by simp [gS, s5], by simp [gS, s6], ?_, rfl, by rw [List.length_append]; omega⟩
    ·have := hC7.ne k hk
     refine ⟨this.1, fun e => this.2.2.2 (.inl e), fun e => ?_⟩
     rcases List.mem_cons.1 e with e | e
     ·exact this.2.2.1 e
     ·exact this.2.2.2 (.inr e)
    ·exact List.nodup_cons.2 ⟨fun e => by have := dl7 _ e; omega, hJ.dn⟩
    ·intro d hd
     rcases List.mem_cons.1 hd with rfl | hd
     ·exact hC7.lp.col
     ·rw [kd d hd]; exact dc7 d hd
    ·intro d hd
     rcases List.mem_cons.1 hd with rfl | hd
     ·exact ⟨by omega, by omega, by omega⟩
     ·exact hJ.dlo d hd
    ·simp [gS, sg]
end
end Go.L17
