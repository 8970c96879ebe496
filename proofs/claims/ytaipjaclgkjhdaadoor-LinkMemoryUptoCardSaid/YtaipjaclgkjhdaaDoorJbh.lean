/- Texts of mine for the claims about layer 16 (link), joined: L16k, L16l, L16m, L16n, L16o. -/
import Derived.Test.YtaipjaclgkjhdaaDoorJbf
import Derived.Test.YtaipjaclgkjhdaaDoorJbg
set_option linter.all false
set_option linter.unusedSimpArgs false
set_option linter.unusedVariables false
/- Layer 16: contracts of the link package: Needs (a loop over a function). -/
namespace Go.L16
open Go Go.Eng Go.RowKit Go.Proofs
set_option maxRecDepth 10000

theorem lk_needs {w : World} {n c r : Value} {o : Obj} (ho : ObjC w n c r o) :
    Calls Tryd.prog 71 #[.agg #[n, c, r]] w fun e w' => ∃ B, e = .returned (.func (.func 85) #[] #[.pointer (some ⟨B, 0, none⟩)]) ∧ w.heap.size ≤ B ∧ Blk w' B #[n, c, r] 45 ∧ Ext w w' := by
  refine ir71_calls fun ρ h0 => ?_
  simp [ir71, h0]
  refine eff_box fun B W hB hE hb _ => ?_
  simp [h0, Value.cells] at hb
  simp
  exact ⟨hB, hb, hE⟩

/-- The iterator over what an object needs: J: what holds when k rounds are over. -/
theorem it_needs {W : World} {B l : Nat} {n c r : Value} {o : Obj} (J : Nat → World → Prop) (hm : ∀ k W, J k W → Blk W B #[n, c, r] 45 ∧ ObjC W n c r o) (hJ : ∀ k W W', J k W → Ext W W' → J k W')
    (hY : ∀ k (h : k < o.relocs.length) W, J k W → YieldR Tryd.prog l #[.string o.relocs[k].name] W fun e W' => e = .returned (.bool true) ∧ J (k + 1) W') (h0 : J 0 W) :
    Calls Tryd.prog 85 #[.func (.yield l) #[] #[], .pointer (some ⟨B, 0, none⟩)] W fun e W' => (∃ v, e = .returned v) ∧ J o.relocs.length W' := by
  obtain ⟨hb0, ho0⟩ := hm 0 W h0
  have hbd := ho0.rels.bd
  refine jr85_calls fun ρ h0' h1 => ?_
  simp [jr85, h1, hb0.cell, ho0.rels.is, ho0.rels.len]
  refine loopC 8 o.relocs.length (fun k ρ' w' => ρ' 0 = .func (.yield l) #[] #[] ∧ ρ' 6 = r ∧ ρ' 7 = .int .i64 o.relocs.length ∧ J k w') (by simp) ⟨by simp [h0'], by simp, by simp, h0⟩ ?_
  rintro k ρ' w' hk h8 ⟨h0', h6, h7, hj⟩
  obtain ⟨hb, ho⟩ := hm k w' hj
  by_cases hlt : k < o.relocs.length
  · simp [jr85_l2, jr85_k1, h8, h7, h6, hlt, ho.rels.is, ho.rels.len, ho.rels.pos k hlt, ho.rels.name k hlt]
    refine eff_var z54 (fun v => by simp) (by simp [Value.cells]) (by simp [Value.cells]) sz54 fun Br W3 hBr hE3 hbr _ => ?_
    simp [Value.cells] at hbr
    simp [hbr.cell]
    refine eff_yield (l := l) (by simp [h0']) (by simp) ?_
    simp
    refine (hY k hlt W3 (hJ _ _ _ hj hE3)).mono ?_
    rintro _ W4 ⟨rfl, hj4⟩
    simp [jr85_k0, h8, h7, h6, h0', i64w (n := (k : Int) + 1) (by omega)]
    exact hj4
  · have hk' : k = o.relocs.length := by omega
    subst hk'
    simp [jr85_l2, h8, h7]
    exact hj

theorem setP_len (k : ByteArray) (v : Value) : ∀ l : List (ByteArray × Value), (setP l k v).length ≤ l.length + 1
  | [] => by simp [setP]
  | p :: l => by
    have := setP_len k v l
    unfold setP
    split <;> simp <;> omega
theorem mem_setP {k : ByteArray} {v : Value} {x : ByteArray × Value} : ∀ {l : List (ByteArray × Value)}, x ∈ setP l k v → x = (k, v) ∨ x ∈ l
  | [], h => by simp [setP] at h; exact .inl h
  | p :: l, h => by
    unfold setP at h
    split at h
    · rcases List.mem_cons.1 h with h | h
      · exact .inl h
      · exact .inr (by simp [h])
    · rcases List.mem_cons.1 h with h | h
      · exact .inr (by simp [h])
      · rcases mem_setP h with h | h
        · exact .inl h
        · exact .inr (by simp [h])

/-- A set of names, by its map. -/
structure SetB (W : World) (B : Nat) (S : List ByteArray) (m : Nat) : Prop where
  ex : ∃ ps, MapB W B ps ∧ ((∀ s, s ∈ S → lookP ps s = some (.bool true)) ∧ ∀ s, s ∉ S → lookP ps s = none) ∧ ps.length ≤ m ∧ ∀ p ∈ ps, p.1.size ≤ maxLen
theorem SetB.block {W W' : World} {B m : Nat} {S : List ByteArray} (h : SetB W B S m) (hE : W'.heap[B]? = W.heap[B]?) : SetB W' B S m := by
  obtain ⟨ps, h1, h2⟩ := h.ex
  exact ⟨ps, h1.block hE, h2⟩
theorem SetB.lt {W : World} {B m : Nat} {S : List ByteArray} (h : SetB W B S m) : B < W.heap.size := by
  obtain ⟨ps, h1, _⟩ := h.ex
  exact h1.lt
theorem SetB.ext {W W' : World} {B m : Nat} {S : List ByteArray} (h : SetB W B S m) (hE : Ext W W') : SetB W' B S m := h.block (hE.block B h.lt)
theorem SetB.nil {W : World} {B : Nat} (h : MapB W B []) : SetB W B [] 0 := ⟨[], h, by simp, by simp, by simp⟩
theorem SetB.le {W : World} {B m m' : Nat} {S : List ByteArray} (h : SetB W B S m) (hm : m ≤ m') : SetB W B S m' := by
  obtain ⟨ps, h1, h2, h3, h4⟩ := h.ex
  exact ⟨ps, h1, h2, by omega, h4⟩
theorem SlS.only {W W' : World} {B : Nat} {v : Value} {ss : List ByteArray} (h : SlS W v ss) (hO : Only B W W') (hv : ∀ g, v.ownBlock = some g → g ≠ B) : SlS W' v ss := by
  refine ⟨h.1.kept (only_grownBy hO) ?_, h.2⟩
  cases hb : v.ownBlock with
  | none => exact .inl rfl
  | some g => exact .inr fun e => hv g hb (by simpa using e)
theorem SetB.put {W' : World} {B m : Nat} {S : List ByteArray} {ps : List (ByteArray × Value)} {s : ByteArray} (h2 : (∀ s, s ∈ S → lookP ps s = some (.bool true)) ∧ ∀ s, s ∉ S → lookP ps s = none) (h3 : ps.length ≤ m) (h4 : ∀ p ∈ ps, p.1.size ≤ maxLen)
    (hs : s.size ≤ maxLen) (hm : MapB W' B (setP ps s (.bool true))) : SetB W' B (s :: S) (m + 1) := by
  refine ⟨_, hm, ⟨fun t ht => ?_, fun t ht => ?_⟩, by have := setP_len s (.bool true) ps; omega, fun p hp => ?_⟩
  · rw [look_setP]
    by_cases h : s = t
    · simp [h]
    · have : ¬ t = s := fun e => h e.symm
      simp only [h, if_false]
      exact h2.1 t (by simpa [this] using ht)
  · rw [look_setP]
    have h : ¬ s = t := by rintro rfl; exact ht (by simp)
    simp only [h, if_false]
    exact h2.2 t fun hh => ht (by simp [hh])
  · rcases mem_setP hp with rfl | h
    · exact hs
    · exact h4 p h

theorem lk_sortedS {w : World} {B m : Nat} {S : List ByteArray} (hm : SetB w B S m) (hlen : m ≤ 1099511627776) :
    Calls Tryd.prog 72 #[.map (some B)] w fun e w' => ∃ x R, e = .returned x ∧ SlS w' x R ∧ Asc R ∧ (∀ s, s ∈ R ↔ s ∈ S) ∧ Ext w w' ∧ (∀ g, x.ownBlock = some g → w.heap.size ≤ g) := by
  obtain ⟨ps, h1, h2, h3, h4⟩ := hm.ex
  refine (lk_sorted h1 (by omega) h4).mono ?_
  rintro _ w' ⟨x, R, rfl, hx, ha, hR, hE, hown⟩
  refine ⟨x, R, rfl, hx, ha, fun s => ?_, hE, hown⟩
  rw [hR, mem_keys_look]
  constructor
  · intro h
    apply Classical.byContradiction
    intro hn
    rw [h2.2 s hn] at h
    cases h
  · intro h
    rw [h2.1 s h]; rfl

theorem asc_needsOf (o : Obj) : Asc (needsOf o) := by
  have key : ∀ (rs : List Rel) (acc : List ByteArray), Asc acc → Asc (rs.foldl (fun acc r => putS acc r.name) acc) := by
    intro rs
    induction rs with
    | nil => intro acc h; exact h
    | cons r rs ih => intro acc h; exact ih _ (asc_putS h)
  exact key _ _ List.Pairwise.nil

/-- The names that the first k relocations need. -/
def needK (o : Obj) : Nat → List ByteArray
  | 0 => []
  | k + 1 => (o.relocs.getD k ⟨0, .empty⟩).name :: needK o k
theorem mem_needK {o : Obj} {s : ByteArray} : ∀ {k : Nat}, k ≤ o.relocs.length → (s ∈ needK o k ↔ ∃ i, ∃ h : i < o.relocs.length, i < k ∧ o.relocs[i].name = s)
  | 0, _ => by simp [needK]
  | k + 1, hk => by
    have hlt : k < o.relocs.length := by omega
    have ih := mem_needK (o := o) (s := s) (k := k) (by omega)
    simp only [needK, List.mem_cons, ih, List.getD_eq_getElem?_getD, List.getElem?_eq_getElem hlt, Option.getD_some]
    constructor
    · rintro (rfl | ⟨i, h, hi, he⟩)
      · exact ⟨k, hlt, by omega, rfl⟩
      · exact ⟨i, h, by omega, he⟩
    · rintro ⟨i, h, hi, he⟩
      by_cases hik : i = k
      · subst hik; exact .inl he.symm
      · exact .inr ⟨i, h, by omega, he⟩

theorem lk_Needs {w : World} {n c r : Value} {o : Obj} (ho : ObjC w n c r o) :
    Calls Tryd.prog 42 #[.agg #[n, c, r]] w fun e w' => ∃ x, e = .returned (.tuple #[x, .int .i64 (checkObj o)]) ∧ SlS w' x (needsR o) ∧ Ext w w' := by
  refine jr42_calls fun ρ h0 hg => ?_
  simp [jr42, h0]
  refine eff_box fun B W hB hE hb _ => ?_
  simp [h0, Value.cells] at hb
  simp [hb.cell]
  refine (lk_Check (ho.ext hE)).mono ?_
  rintro _ w1 ⟨rfl, hw1⟩
  have hE1 := hE.trans' hw1
  by_cases hck : checkObj o = 0
  · have hlen := checkObj_len hck
    simp [hck, jr42_k1]
    refine eff_makeMap fun M W2 hM hE2 hm _ => ?_
    simp
    refine eff_var (z := #[.map none]) (by kernel_rfl) (fun v => by simp) (by simp [Value.cells]) (by simp [Value.cells]; rfl) (by kernel_rfl) fun S W3 hS hE3 hs _ => ?_
    simp [Value.cells] at hs
    have hb3 := ((hb.ext hw1).ext hE2).ext hE3
    have hE13 := (hE1.trans' hE2).trans' hE3
    simp [hb3.cell]
    refine (lk_needs (ho.ext hE13)).mono ?_
    rintro _ w4 ⟨Bo, rfl, hBo, hbo, hw4⟩
    obtain ⟨A, Bd, hrf, hpA, hpB⟩ := jr42_rf0
    simp only [updO_some, callK_ret, wpi_seq, wpi_block, hrf]
    refine raw_range (gf := 85) (lb := #[.pointer (some ⟨Bo, 0, none⟩)]) (by simp [dAny]) (by simp) (by decide) (by simp) fun a rec W5 hag hrt hrp hra hrb hrs hrpd hE5 hsz5 hL5 => ?_
    have hE15 := (hE13.trans' hw4).trans' hE5
    have hm5 := ((hm.ext hE3).ext hw4).ext hE5
    have hs5 := (hs.ext hw4).ext hE5
    have hbo5 := hbo.ext hE5
    have hsM : M < S := by have := hE2.size; have := hm.lt; omega
    have hSo : S < Bo := by have := hs.lt; omega
    have hBo4 := hbo.lt
    simp
    have hwM : w.heap.size ≤ M := by have := hE1.size; omega
    refine (it_needs (o := o) (fun k W => Below M W5 W ∧ W5.heap.size ≤ W.heap.size ∧ LoopB W (w4.heap.size + 1) w4.heap.size rec ∧ SetB W M (needK o k) k ∧ Blk W S #[.map (some M)] 100 ∧ Blk W Bo #[n, c, r] 45) (fun k W h => ⟨h.2.2.2.2.2, ?_⟩) (fun k W W' h hE => ?_) (fun k hk W h => ?_) ?_).mono ?_
    · have : Ext w W := Below.trans hE15 (h.1.mono hwM)
      exact ho.ext this
    · obtain ⟨h1, h2, h3, h4, h5, h6⟩ := h
      exact ⟨Below.trans h1 (hE.mono (by omega)), Nat.le_trans h2 hE.size, h3.ext hE, h4.ext hE, h5.ext hE, h6.ext hE⟩
    · obtain ⟨h1, h2, h3, h4, h5, h6⟩ := h
      refine yield_of h3 hrs hag hrt hrp (by rfl) (by decide) (by rw [hra]; exact hpA) (by rw [hrb]; exact hpB) ?_
      simp [parEnv, jr42_a0, jr42_b0]
      refine ⟨h3, fun W2 hO2 hL2 => ?_⟩
      have hl2 := h3.lt
      have hS2 := h5.lt
      have hs2 : Blk W2 S #[.map (some M)] 100 := ⟨(hO2.block S (by omega)).trans h5.heap⟩
      have hm2 : SetB W2 M (needK o k) k := h4.block (hO2.block M (by omega))
      obtain ⟨ps, hp1, hp2, hp3, hp4⟩ := hm2.ex
      simp [hs2.cell]
      refine eff_mapUpdate (s := o.relocs[k].name) (kt := 9) (et := 4) (by kernel_rfl) (by kernel_rfl) (by simp) (by simp) hp1 fun W6 hO6 hm6 => ?_
      simp [roundK]
      refine ⟨hL2.keep (hO6.block _ (by omega)) (hO6.block _ (by omega)), fun W7 hO7 hL7 => ?_⟩
      have hB6 : Below M W W6 := (only_below hO2 (by omega)).trans (only_below hO6 (Nat.le_refl _))
      have hB7 : Below M W W7 := hB6.trans (only_below hO7 (by omega))
      have hne : o.relocs[k].name.size ≤ maxLen := (ho.rels.wf _ (List.getElem_mem hk)).2
      have e1 : needK o (k + 1) = o.relocs[k].name :: needK o k := by simp [needK, hk]
      refine ⟨h1.trans hB7, Nat.le_trans h2 hB7.size, hL7.ready hrs hrpd, ?_, ⟨?_⟩, ⟨?_⟩⟩
      · rw [e1]
        exact SetB.block (SetB.put hp2 hp3 hp4 hne (by simpa using hm6)) (hO7.block M (by omega))
      · rw [hO7.block S (by omega), hO6.block S (by omega), hO2.block S (by omega)]; exact h5.heap
      · rw [hO7.block Bo (by omega), hO6.block Bo (by omega), hO2.block Bo (by omega)]; exact h6.heap
    · exact ⟨Below.refl _ _, Nat.le_refl _, hL5, by obtain h0 := SetB.nil hm5; simpa [needK] using h0, hs5, hbo5⟩
    · rintro e W3 ⟨⟨v, rfl⟩, h1, h2, h3, h4, h5, h6⟩
      refine ⟨.ready, none, by simp, h3.ready' hrs hrpd, fun W4 hO4 hL4 => ?_⟩
      have hl3 := h3.lt
      have hs4 : Blk W4 S #[.map (some M)] 100 := ⟨(hO4.block S (by omega)).trans h5.heap⟩
      have hm4 : SetB W4 M (needK o o.relocs.length) o.relocs.length := h4.block (hO4.block M (by omega))
      simp [jr42_k0, hs4.cell]
      refine (lk_sortedS hm4 (by omega)).mono ?_
      rintro _ w5 ⟨x, R, rfl, hx, hasc, hR, hE5', hown⟩
      simp
      refine end_mark (Db := w4.heap.size) (by simp [hg]) ?_ fun w6 hO6 => ?_
      · exact (hL4.ext hE5').col
      · have hB4 : Below w.heap.size w W4 := Below.trans hE15 ((h1.mono hwM).trans (only_below hO4 (by omega)))
        have hsz4 := hO4.size
        have hE6 : Ext w w6 := hO6.ext (Below.trans hB4 (hE5'.mono (by have := hB4.size; omega))) (by have := hE13.size; have := hw4.size; omega)
        have hRe : R = needsR o := by
          refine hasc.ext (by rw [needsR, if_pos hck]; exact asc_needsOf o) fun s => ?_
          rw [hR, mem_needK (Nat.le_refl _), needsR, if_pos hck, mem_needsOf]
          constructor
          · rintro ⟨i, hi, _, he⟩; exact ⟨_, List.getElem_mem hi, he⟩
          · rintro ⟨r, hr, he⟩
            obtain ⟨i, hi, rfl⟩ := List.getElem_of_mem hr
            exact ⟨i, hi, hi, he⟩
        subst hRe
        simp
        exact ⟨hx.only hO6 fun g hg => by have := hown g hg; omega, hE6⟩
  · have h161 : checkObj o = 161 := (checkObj_cases _).resolve_left hck
    simp [h161]
    refine end_none (by simp [hg]) ?_
    simp [needsR, h161]
    exact ⟨⟨Sl.nil _ _, by simp⟩, hE1⟩
end Go.L16
/- Layer 16: contracts of the link package: visit (a closure that calls itself in a loop over a function). -/
namespace Go.L16
open Go Go.Eng Go.RowKit Go.Proofs
set_option maxRecDepth 10000

/-! ### Plainly -/
theorem reach_trans {l : List Obj} {D : List ByteArray} {s : ByteArray} {d : ByteArray} (hd : ∀ x ∈ D, x ∈ needsAt l d) (h : Reach l D s) : Reach l [d] s := by
  induction h with
  | root h => exact .step (.root (by simp)) (hd _ h)
  | step _ hn ih => exact .step ih hn
theorem reach_mono {l : List Obj} {D D' : List ByteArray} (hd : ∀ x ∈ D, x ∈ D') {s : ByteArray} (h : Reach l D s) : Reach l D' s := by
  induction h with
  | root h => exact .root (hd _ h)
  | step _ hn ih => exact .step ih hn

/-- What going over the names D makes of the names seen and the names lost. -/
structure VP (l : List Obj) (S T S' T' D : List ByteArray) : Prop where
  sub : ∀ s, s ∈ S → s ∈ S'
  new : ∀ s, s ∈ S' → s ∈ S ∨ Reach l D s
  closed : ∀ s, s ∈ S' → s ∈ S ∨ ∀ n, n ∈ needsAt l s → n ∈ S'
  lost : ∀ s, s ∈ T' ↔ s ∈ T ∨ (s ∈ S' ∧ s ∉ S ∧ idxO l s < 0)
  has : ∀ d, d ∈ D → d ∈ S'
theorem VP.nil (l : List Obj) (S T : List ByteArray) : VP l S T S T [] := ⟨fun _ h => h, fun _ h => .inl h, fun _ h => .inl h, fun s => ⟨.inl, fun h => h.elim id fun h => absurd h.1 h.2.1⟩, by simp⟩
theorem VP.trans {l : List Obj} {S T S1 T1 S2 T2 D1 D2 : List ByteArray} (h : VP l S T S1 T1 D1) (k : VP l S1 T1 S2 T2 D2) : VP l S T S2 T2 (D1 ++ D2) := by
  refine ⟨fun s hs => k.sub s (h.sub s hs), fun s hs => ?_, fun s hs => ?_, fun s => ?_, fun d hd => ?_⟩
  · rcases k.new s hs with h1 | h1
    · rcases h.new s h1 with h2 | h2
      · exact .inl h2
      · exact .inr (reach_mono (fun x hx => List.mem_append_left _ hx) h2)
    · exact .inr (reach_mono (fun x hx => List.mem_append_right _ hx) h1)
  · rcases k.closed s hs with h1 | h1
    · rcases h.closed s h1 with h2 | h2
      · exact .inl h2
      · exact .inr fun n hn => k.sub n (h2 n hn)
    · exact .inr h1
  · rw [k.lost, h.lost]
    constructor
    · rintro ((h1 | ⟨h1, h2, h3⟩) | ⟨h1, h2, h3⟩)
      · exact .inl h1
      · exact .inr ⟨k.sub s h1, h2, h3⟩
      · exact .inr ⟨h1, fun hh => h2 (h.sub s hh), h3⟩
    · rintro (h1 | ⟨h1, h2, h3⟩)
      · exact .inl (.inl h1)
      · by_cases hs : s ∈ S1
        · exact .inl (.inr ⟨hs, h2, h3⟩)
        · exact .inr ⟨h1, hs, h3⟩
  · rcases List.mem_append.1 hd with h1 | h1
    · exact k.sub d (h.has d h1)
    · exact k.has d h1
/-- A name that has been seen. -/
theorem VP.old {l : List Obj} {S T : List ByteArray} {s : ByteArray} (hs : s ∈ S) : VP l S T S T [s] := ⟨fun _ h => h, fun _ h => .inl h, fun _ h => .inl h, fun s => ⟨.inl, fun h => h.elim id fun h => absurd h.1 h.2.1⟩, by simpa using hs⟩
/-- A new name: what it needs is gone over. -/
theorem VP.new1 {l : List Obj} {S T T0 S' T' D : List ByteArray} {s : ByteArray} (hs : s ∉ S) (hT : ∀ x, x ∈ T0 ↔ x ∈ T ∨ (x = s ∧ idxO l s < 0)) (hD : ∀ n, n ∈ needsAt l s ↔ n ∈ D) (h : VP l (s :: S) T0 S' T' D) : VP l S T S' T' [s] := by
  have hs' : s ∈ S' := h.sub s (by simp)
  refine ⟨fun x hx => h.sub x (by simp [hx]), fun x hx => ?_, fun x hx => ?_, fun x => ?_, by simpa using hs'⟩
  · rcases h.new x hx with h1 | h1
    · rcases List.mem_cons.1 h1 with rfl | h1
      · exact .inr (.root (by simp))
      · exact .inl h1
    · exact .inr (reach_trans (fun y hy => (hD y).2 hy) h1)
  · rcases h.closed x hx with h1 | h1
    · rcases List.mem_cons.1 h1 with rfl | h1
      · exact .inr fun n hn => h.has n ((hD n).1 hn)
      · exact .inl h1
    · exact .inr h1
  · rw [h.lost, hT]
    constructor
    · rintro ((h1 | ⟨rfl, h1⟩) | ⟨h1, h2, h3⟩)
      · exact .inl h1
      · exact .inr ⟨hs', hs, h1⟩
      · exact .inr ⟨h1, fun hh => h2 (by simp [hh]), h3⟩
    · rintro (h1 | ⟨h1, h2, h3⟩)
      · exact .inl (.inl h1)
      · by_cases hx : x = s
        · exact .inl (.inr ⟨hx, hx ▸ h3⟩)
        · exact .inr ⟨h1, by simp [hx, h2], h3⟩

/-- How many of U are not in S. -/
noncomputable def cntN (U S : List ByteArray) : Nat := by classical exact (U.filter fun u => decide (u ∉ S)).length
theorem cntN_le {U S S' : List ByteArray} (h : ∀ s, s ∈ S → s ∈ S') : cntN U S' ≤ cntN U S := by
  classical
  unfold cntN
  induction U with
  | nil => simp
  | cons u U ih =>
    by_cases h1 : u ∈ S
    · simp only [List.filter_cons, h1, h u h1, not_true_eq_false, decide_false, Bool.false_eq_true, if_false]
      exact ih
    · by_cases h2 : u ∈ S'
      · simp only [List.filter_cons, h1, h2, not_true_eq_false, not_false_eq_true, decide_false, decide_true, Bool.false_eq_true, if_false, if_true, List.length_cons]
        omega
      · simp only [List.filter_cons, h1, h2, not_false_eq_true, decide_true, if_true, List.length_cons]
        omega
theorem cntN_lt {U S : List ByteArray} {s : ByteArray} (hU : s ∈ U) (hs : s ∉ S) : cntN U (s :: S) < cntN U S := by
  classical
  unfold cntN
  induction U with
  | nil => simp at hU
  | cons u U ih =>
    have hle := cntN_le (U := U) (S := S) (S' := s :: S) fun x hx => by simp [hx]
    unfold cntN at hle
    by_cases h1 : u = s
    · subst h1
      simp only [List.filter_cons, hs, List.mem_cons, true_or, not_true_eq_false, not_false_eq_true, decide_false, decide_true, Bool.false_eq_true, if_false, if_true, List.length_cons]
      simp only [List.mem_cons] at hle
      omega
    · have hU' : s ∈ U := by
        rcases List.mem_cons.1 hU with h | h
        · exact absurd h.symm h1
        · exact h
      have := ih hU'
      by_cases h2 : u ∈ S
      · simp only [List.filter_cons, h2, List.mem_cons, or_true, not_true_eq_false, decide_false, Bool.false_eq_true, if_false]
        simpa using this
      · simp only [List.filter_cons, h1, h2, List.mem_cons, or_self, not_false_eq_true, decide_true, if_true, List.length_cons]
        simp only [List.mem_cons] at this
        omega

/-! ### What is kept -/
/-- All cells hold what they held. -/
def CK (W W' : World) : Prop := ∀ a v, W.cell? a = some v → W'.cell? a = some v
theorem CK.trans {A B C : World} (h : CK A B) (k : CK B C) : CK A C := fun a v hv => k a v (h a v hv)
theorem CK.refl (A : World) : CK A A := fun _ _ h => h
theorem ck_ext {W W' : World} (h : Ext W W') : CK W W' := fun _ _ hv => h.cell hv
theorem ck_only {W W' : World} {B : Nat} {o : Go.Obj} (h : Only B W W') (ho : W.heap[B]? = some o) (hc : ∀ cs t z, o ≠ .cells cs t z) : CK W W' := by
  intro a v hv
  have hne : a.block ≠ B := by
    rintro rfl
    simp only [World.cell?, ho] at hv
    cases o <;> first | (cases hv; done) | exact absurd rfl (hc _ _ _)
  rw [World.cell?_of_block (h.block a.block hne)]
  exact hv
theorem Sl.ck {α : Type} {enc : α → Value} {w w' : World} {v : Value} {xs : List α} (h : Sl enc w v xs) (hE : CK w w') : Sl enc w' v xs := ⟨h.is, h.len, h.bd, fun i hi => hE _ _ (h.cell i hi)⟩
theorem ObjC.ck {w w' : World} {n c r : Value} {o : Obj} (h : ObjC w n c r o) (hE : CK w w') : ObjC w' n c r o :=
  ⟨h.name, h.size, Sl.ck h.code hE, ⟨h.rels.is, h.rels.len, h.rels.bd, fun i hi => hE _ _ (h.rels.pos i hi), fun i hi => hE _ _ (h.rels.name i hi), h.rels.wf⟩⟩

/-- The blocks below b but for two lie as they lay. -/
structure KT (Ms Ml b : Nat) (W W' : World) : Prop where
  os : W'.os = W.os
  tape : W'.tape = W.tape
  output : W'.output = W.output
  size : W.heap.size ≤ W'.heap.size
  block : ∀ k, k < b → k ≠ Ms → k ≠ Ml → W'.heap[k]? = W.heap[k]?
section
variable {Ms Ml b : Nat} {A B C : World}
theorem KT.refl (A : World) : KT Ms Ml b A A := ⟨rfl, rfl, rfl, Nat.le_refl _, fun _ _ _ _ => rfl⟩
theorem KT.trans (h : KT Ms Ml b A B) (k : KT Ms Ml b B C) : KT Ms Ml b A C :=
  ⟨k.os.trans h.os, k.tape.trans h.tape, k.output.trans h.output, Nat.le_trans h.size k.size, fun i hi h1 h2 => (k.block i hi h1 h2).trans (h.block i hi h1 h2)⟩
theorem KT.mono {b' : Nat} (h : KT Ms Ml b A B) (hb : b' ≤ b) : KT Ms Ml b' A B := ⟨h.os, h.tape, h.output, h.size, fun k hk => h.block k (by omega)⟩
theorem kt_below (h : Below b A B) : KT Ms Ml b A B := ⟨h.os, h.tape, h.output, h.size, fun k hk _ _ => h.block k hk⟩
theorem kt_ext (h : Ext A B) (hb : b ≤ A.heap.size) : KT Ms Ml b A B := kt_below (h.mono hb)
theorem kt_only {X : Nat} (h : Only X A B) (hX : X = Ms ∨ X = Ml ∨ b ≤ X) : KT Ms Ml b A B :=
  ⟨h.os, h.tape, h.output, by rw [h.size]; exact Nat.le_refl _, fun k hk h1 h2 => h.block k (by rintro rfl; omega)⟩
end
end Go.L16
/- Layer 16: contracts of the link package: visit. -/
namespace Go.L16
open Go Go.Eng Go.RowKit Go.Proofs
set_option maxRecDepth 10000

/-- The blocks that visit goes by. -/
structure VB where
  Cs : Nat
  BL : Nat
  Cl : Nat
  CV : Nat
  Ms : Nat
  Ml : Nat
  Bl : Nat
  b : Nat
def VB.clo (x : VB) : Value := .func (.func 84) #[] #[.pointer (some ⟨x.Cs, 0, none⟩), .pointer (some ⟨x.BL, 0, none⟩), .pointer (some ⟨x.Cl, 0, none⟩), .pointer (some ⟨x.CV, 0, none⟩)]
structure VB.ok (x : VB) : Prop where
  lt : x.Cs < x.b ∧ x.BL < x.b ∧ x.Cl < x.b ∧ x.CV < x.b ∧ x.Ms < x.b ∧ x.Ml < x.b ∧ x.Bl < x.b
  ns : x.Cs ≠ x.Ms ∧ x.BL ≠ x.Ms ∧ x.Cl ≠ x.Ms ∧ x.CV ≠ x.Ms ∧ x.Bl ≠ x.Ms
  nl : x.Cs ≠ x.Ml ∧ x.BL ≠ x.Ml ∧ x.Cl ≠ x.Ml ∧ x.CV ≠ x.Ml ∧ x.Bl ≠ x.Ml
  sl : x.Ms ≠ x.Ml

theorem LibM.ck {w w' : World} {B k : Nat} {l : List Obj} (h : LibM w B l k) (hb : w'.heap[B]? = w.heap[B]?) (hc : CK w w') : LibM w' B l k := by
  obtain ⟨ps, h1, h2, h3⟩ := h.ex
  exact ⟨ps, h1.block hb, h2, fun i hi hk => let ⟨n, c, r, e, o⟩ := h3 i hi hk; ⟨n, c, r, e, ObjC.ck o hc⟩⟩

/-- How the world lies between two calls of visit. -/
structure VI (x : VB) (l : List Obj) (W : World) (S T : List ByteArray) : Prop where
  cs : Blk W x.Cs #[.map (some x.Ms)] 100
  bl : Blk W x.BL #[.map (some x.Bl)] 104
  cl : Blk W x.Cl #[.map (some x.Ml)] 100
  cv : Blk W x.CV #[x.clo] 127
  lib : LibM W x.Bl l l.length
  seen : SetB W x.Ms S S.length
  lost : SetB W x.Ml T T.length
  snd : S.Nodup
  tnd : T.Nodup
  ts : ∀ t ∈ T, t ∈ S
  size : x.b ≤ W.heap.size

theorem _root_.Go.Eng.Blk.kt {Ms Ml b B : Nat} {W W' : World} {cs : Array Value} {t : TypeId} (h : Blk W B cs t) (k : KT Ms Ml b W W') (h1 : B < b) (h2 : B ≠ Ms) (h3 : B ≠ Ml) : Blk W' B cs t := ⟨(k.block B h1 h2 h3).trans h.heap⟩
theorem VI.step {x : VB} {l : List Obj} {W W' : World} {S T S' T' : List ByteArray} (hx : x.ok) (h : VI x l W S T) (k : KT x.Ms x.Ml x.b W W') (hc : CK W W') (hs : SetB W' x.Ms S' S'.length) (ht : SetB W' x.Ml T' T'.length)
    (h1 : S'.Nodup) (h2 : T'.Nodup) (h3 : ∀ t ∈ T', t ∈ S') : VI x l W' S' T' := by
  obtain ⟨a1, a2, a3, a4, a5, a6, a7⟩ := hx.lt
  obtain ⟨b1, b2, b3, b4, b5⟩ := hx.ns
  obtain ⟨c1, c2, c3, c4, c5⟩ := hx.nl
  exact ⟨h.cs.kt k a1 b1 c1, h.bl.kt k a2 b2 c2, h.cl.kt k a3 b3 c3, h.cv.kt k a4 b4 c4, h.lib.ck (k.block _ a7 b5 c5) hc, hs, ht, h1, h2, h3, Nat.le_trans h.size k.size⟩
theorem VI.below {x : VB} {l : List Obj} {W W' : World} {S T : List ByteArray} (hx : x.ok) (h : VI x l W S T) (k : Below x.b W W') (hc : CK W W') : VI x l W' S T :=
  h.step hx (kt_below k) hc (h.seen.block (k.block _ hx.lt.2.2.2.2.1)) (h.lost.block (k.block _ hx.lt.2.2.2.2.2.1)) h.snd h.tnd h.ts
theorem VI.ext {x : VB} {l : List Obj} {W W' : World} {S T : List ByteArray} (hx : x.ok) (h : VI x l W S T) (hE : Ext W W') : VI x l W' S T := h.below hx (hE.mono h.size) (ck_ext hE)

theorem idxO_none {l : List Obj} {s : ByteArray} (h : idxO l s = -1) (i : Nat) (hi : i < l.length) : l[i].name ≠ s := by
  intro he
  unfold idxO at h
  have := List.findIdx_lt_length_of_exists (xs := l) (p := fun o => decide (o.name = s)) ⟨l[i], List.getElem_mem hi, by simpa using he⟩
  rw [if_pos this] at h
  omega

/-- The object with a name; a missing one needs nothing. -/
theorem lib_found {W : World} {B : Nat} {l : List Obj} (h : LibM W B l l.length) (hok : LibOk l) (s : ByteArray) : ∃ ps n c r o, MapB W B ps ∧ ObjC W n c r o ∧ (∀ m, m ∈ needsAt l s ↔ ∃ i, ∃ h : i < o.relocs.length, o.relocs[i].name = m) ∧
    (lookP ps s).getD (.agg #[.string ⟨#[]⟩, .slice none 0 0, .slice none 0 0]) = .agg #[n, c, r] ∧ (lookP ps s).isSome = !decide (idxO l s < 0) := by
  obtain ⟨ps, h1, h2, h3⟩ := h.ex
  rcases idxO_cases l s with hi | ⟨k, hk, hi, hn⟩
  · refine ⟨ps, .string .empty, .slice none 0 0, .slice none 0 0, emptyO, h1, ⟨rfl, by decide, Sl.nil _ _, ⟨rfl, rfl, by simp [emptyO], by simp [emptyO], by simp [emptyO], by simp [emptyO]⟩⟩, ?_, ?_⟩
    · intro m
      simp [needsAt, hi, emptyO]
    · rw [h2 s fun i hi' _ he => idxO_none hi i hi' he, hi]
      exact ⟨rfl, rfl⟩
  · obtain ⟨n, c, r, he, ho⟩ := h3 k hk hk
    rw [hn] at he
    refine ⟨ps, n, c, r, l[k], h1, ho, fun m => ?_, by rw [he, hi]; exact ⟨rfl, by simp⟩⟩
    unfold needsAt
    rw [hi, if_pos (by omega)]
    simp only [Int.toNat_natCast]
    have : l.getD k emptyO = l[k] := by simp [hk]
    rw [this, needsR, if_pos (hok.ok _ (List.getElem_mem hk)), mem_needsOf]
    constructor
    · rintro ⟨r, hr, he⟩
      obtain ⟨i, hi, rfl⟩ := List.getElem_of_mem hr
      exact ⟨i, hi, he⟩
    · rintro ⟨i, hi, he⟩
      exact ⟨_, List.getElem_mem hi, he⟩

def VisitPost (x : VB) (l : List Obj) (U : List ByteArray) (W : World) (S T : List ByteArray) (s : ByteArray) (e : Ending) (W' : World) : Prop :=
  (∃ v, e = .returned v) ∧ ∃ S' T', VI x l W' S' T' ∧ VP l S T S' T' [s] ∧ KT x.Ms x.Ml W.heap.size W W' ∧ CK W W' ∧ ∀ s, s ∈ S' → s ∈ U

theorem lk_visit {x : VB} {l : List Obj} {U : List ByteArray} (hx : x.ok) (hok : LibOk l) (hU : ∀ s, ∀ n, n ∈ needsAt l s → n ∈ U) :
    ∀ (μ : Nat) (W : World) (S T : List ByteArray) (s : ByteArray), VI x l W S T → (∀ s, s ∈ S → s ∈ U) → s ∈ U → s.size ≤ maxLen → cntN U S ≤ μ →
      Calls Tryd.prog 84 #[.string s, .pointer (some ⟨x.Cs, 0, none⟩), .pointer (some ⟨x.BL, 0, none⟩), .pointer (some ⟨x.Cl, 0, none⟩), .pointer (some ⟨x.CV, 0, none⟩)] W (VisitPost x l U W S T s) := by
  intro μ
  induction μ using Nat.strongRecOn with
  | _ μ ih =>
    intro W S T s hv hSU hsU hsz hμ
    obtain ⟨Post, hPost⟩ : ∃ P, P = VisitPost x l U W S T s := ⟨_, rfl⟩
    rw [← hPost]
    obtain ⟨ps, p1, p2, p3, p4⟩ := hv.seen.ex
    refine jr84_calls fun ρ h0 h1 h2 h3 h4 hg => ?_
    simp [jr84, h0, h1, hv.cs.cell]
    refine eff_lookup (s := s) (kt := 9) (et := 4) (z := .bool false) (by kernel_rfl) (by kernel_rfl) (by kernel_rfl) (by simp) (by simp) p1 false ?_
    by_cases hs : s ∈ S
    · simp [p2.1 s hs]
      refine end_none (by simp [hg]) ?_
      simp [hPost]
      exact ⟨⟨_, rfl⟩, S, T, hv, VP.old hs, KT.refl _, CK.refl _, hSU⟩
    · simp [p2.2 s hs, jr84_k1, h1, hv.cs.cell, h0]
      refine eff_mapUpdate (s := s) (kt := 9) (et := 4) (by kernel_rfl) (by kernel_rfl) (by simp) (by simp) p1 fun W1 hO1 hm1 => ?_
      have hl := hv.size
      obtain ⟨a1, a2, a3, a4, a5, a6, a7⟩ := hx.lt
      obtain ⟨b1, b2, b3, b4, b5⟩ := hx.ns
      obtain ⟨c1, c2, c3, c4, c5⟩ := hx.nl
      have k1 : KT x.Ms x.Ml W.heap.size W W1 := kt_only hO1 (.inl rfl)
      have ck1 : CK W W1 := by
        obtain ⟨es, cl, hm, _⟩ := p1.ex
        exact ck_only hO1 hm (by simp)
      have hv1 : VI x l W1 (s :: S) T := hv.step hx (k1.mono hl) ck1 (SetB.put p2 p3 p4 hsz (by simpa using hm1)) (hv.lost.block (hO1.block _ (Ne.symm hx.sl))) (List.nodup_cons.2 ⟨hs, hv.snd⟩) hv.tnd fun t ht => by simp [hv.ts t ht]
      obtain ⟨pl, n, c, r, o, l1, ho, hneed, hlk1, hlk2⟩ := lib_found hv1.lib hok s
      simp [h2, hv1.bl.cell, h0]
      refine eff_lookup (s := s) (kt := 9) (et := 45) (z := .agg #[.string ⟨#[]⟩, .slice none 0 0, .slice none 0 0]) (by kernel_rfl) (by kernel_rfl) (by kernel_rfl) (by simp) (by simp) l1 true ?_
      simp [hlk1, hlk2]
      refine eff_var z45 (fun v => by simp) (by simp [Value.cells]) (by simp [Value.cells, ho.name, isSl_one ho.code.is, isSl_one ho.rels.is]) sz45 fun Bo W2 hBo hE2 hbo _ => ?_
      simp [Value.cells] at hbo
      have hv2 := hv1.ext hx hE2
      have k2 : KT x.Ms x.Ml W.heap.size W W2 := k1.trans (kt_ext hE2 k1.size)
      have ck2 : CK W W2 := ck1.trans (ck_ext hE2)
      have ho2 := ho.ext hE2
      -- what stands behind the store into the names lost
      have rest : ∀ (ρ' : Env) (W3 : World) (T0 : List ByteArray), ρ' gS = .tuple #[] → ρ' 6 = .pointer (some ⟨Bo, 0, none⟩) → ρ' 4 = .pointer (some ⟨x.CV, 0, none⟩) → VI x l W3 (s :: S) T0 → (∀ y, y ∈ T0 ↔ y ∈ T ∨ (y = s ∧ idxO l s < 0)) →
          KT x.Ms x.Ml W.heap.size W W3 → CK W W3 → Blk W3 Bo #[n, c, r] 45 → ObjC W3 n c r o → jr84_k0.wp ⟨Tryd.prog, 30, jr84_V, dAny⟩ (endK Tryd.prog [] Post .returning) (ksD Tryd.prog [] Post) ρ' W3 := by
        intro ρ' W3 T0 hg' h6 h4' hv3 hT0 k3 ck3 hbo3 ho3
        have hlt := cntN_lt hsU hs
        simp [jr84_k0, h6, hbo3.cell]
        refine (lk_needs ho3).mono ?_
        rintro _ w4 ⟨Bn, rfl, hBn, hbn, hw4⟩
        have hv4 := hv3.ext hx hw4
        have hbn4 := hbn.lt
        have hl4 := hv4.size
        have hl3 := hv3.size
        obtain ⟨A, Bd, hrf, hpA, hpB⟩ := jr84_rf0
        simp only [updO_some, callK_ret, hrf]
        refine raw_range (gf := 85) (lb := #[.pointer (some ⟨Bn, 0, none⟩)]) (by simp [dAny]) (by simp) (by decide) (by simp) fun a rec W5 hag hrt hrp hra hrb hrs hrpd hE5 hsz5 hL5 => ?_
        have hv5 := hv4.ext hx hE5
        have ho5 := (ho3.ext hw4).ext hE5
        have hbn5 := hbn.ext hE5
        simp
        refine (it_needs (n := n) (c := c) (r := r) (o := o) (fun k W' => ∃ S' T', VI x l W' S' T' ∧ VP l (s :: S) T0 S' T' ((o.relocs.map (·.name)).take k) ∧ KT x.Ms x.Ml w4.heap.size W5 W' ∧ CK W5 W' ∧ LoopB W' (w4.heap.size + 1) w4.heap.size rec ∧ (∀ y, y ∈ S' → y ∈ U) ∧ W5.heap.size ≤ W'.heap.size)
          (fun k W' h => ?_) (fun k W' W'' h hE => ?_) (fun k hk W' h => ?_) ?_).mono ?_
        · obtain ⟨S', T', h1, h2, h3, h4, h5, h6⟩ := h
          exact ⟨hbn5.kt h3 hbn4 (by omega) (by omega), ObjC.ck ho5 h4⟩
        · obtain ⟨S', T', h1, h2, h3, h4, h5, h6, h7⟩ := h
          exact ⟨S', T', h1.ext hx hE, h2, h3.trans (kt_ext hE (by omega)), h4.trans (ck_ext hE), h5.ext hE, h6, Nat.le_trans h7 hE.size⟩
        · obtain ⟨S', T', h1, h2, h3, h4, h5, h6, h7⟩ := h
          refine yield_of h5 hrs hag hrt hrp (by rfl) (by decide) (by rw [hra]; exact hpA) (by rw [hrb]; exact hpB) ?_
          simp [parEnv, jr84_a0, jr84_b0]
          refine ⟨h5, fun W6 hO6 hL6 => ?_⟩
          have ck6 : CK W' W6 := ck_only hO6 h5.rcd (by simp)
          have hv6 : VI x l W6 S' T' := h1.below hx (only_below hO6 (by omega)) ck6
          have hw6 := hO6.size
          simp [h4', hv6.cv.cell]
          refine eff_callv (f := 84) (by simp) (fs := #[]) (caps := #[.pointer (some ⟨x.Cs, 0, none⟩), .pointer (some ⟨x.BL, 0, none⟩), .pointer (some ⟨x.Cl, 0, none⟩), .pointer (some ⟨x.CV, 0, none⟩)]) (by simp [VB.clo]) ?_
          simp
          refine (ih (cntN U (s :: S)) (by omega) W6 S' T' o.relocs[k].name hv6 h6 (hU s _ ((hneed _).2 ⟨k, hk, rfl⟩)) (ho.rels.wf _ (List.getElem_mem hk)).2 (cntN_le h2.sub)).mono ?_
          rintro _ W7 ⟨⟨v, rfl⟩, S7, T7, h71, h72, h73, h74, h75⟩
          simp [roundK]
          refine ⟨hL6.keep (h73.block _ (by omega) (by omega) (by omega)) (h73.block _ (by omega) (by omega) (by omega)), fun W8 hO8 hL8 => ?_⟩
          have hl7 := h73.size
          have hL7 : W7.heap[w4.heap.size + 1]? = some (.loop { rec with state := .busy }) := (h73.block _ (by omega) (by omega) (by omega)).trans hL6.rcd
          have ck8 : CK W7 W8 := ck_only hO8 hL7 (by simp)
          refine ⟨S7, T7, h71.below hx (only_below hO8 (by omega)) ck8, ?_, ?_, ((h4.trans ck6).trans h74).trans ck8, hL8.ready hrs hrpd, h75, by rw [hO8.size]; omega⟩
          · rw [List.take_succ_eq_append_getElem (by simpa using hk)]
            simpa using h2.trans h72
          · exact ((h3.trans (kt_only hO6 (.inr (.inr (by omega))))).trans (h73.mono (by omega))).trans (kt_only hO8 (.inr (.inr (by omega))))
        · exact ⟨s :: S, T0, hv5, by simpa using VP.nil l (s :: S) T0, KT.refl _, CK.refl _, hL5, fun y hy => by
            rcases List.mem_cons.1 hy with rfl | hy
            · exact hsU
            · exact hSU y hy, Nat.le_refl _⟩
        · rintro e W6 ⟨⟨v, rfl⟩, S', T', h1, h2, h3, h4, h5, h6, h7⟩
          refine ⟨.ready, none, by simp, h5.ready' hrs hrpd, fun W7 hO7 hL7 => ?_⟩
          have ck7 : CK W6 W7 := ck_only hO7 h5.rcd (by simp)
          have hv7 : VI x l W7 S' T' := h1.below hx (only_below hO7 (by omega)) ck7
          have hs7 := hO7.size
          refine end_mark (Db := w4.heap.size) (by simp [hg']) hL7.col fun W8 hO8 => ?_
          have ck8 : CK W7 W8 := ck_only hO8 hL7.col (by simp)
          have hk3 := k3.size
          have hk4 := hw4.size
          simp [hPost]
          refine ⟨⟨_, rfl⟩, S', T', hv7.below hx (only_below hO8 (by omega)) ck8, ?_, ?_, ((((ck3.trans (ck_ext hw4)).trans (ck_ext hE5)).trans h4).trans ck7).trans ck8, h6⟩
          · refine VP.new1 hs hT0 (fun m => ?_) h2
            rw [hneed, List.take_of_length_le (by simp), List.mem_map]
            constructor
            · rintro ⟨i, hi, he⟩; exact ⟨_, List.getElem_mem hi, he⟩
            · rintro ⟨r, hr, he⟩
              obtain ⟨i, hi, rfl⟩ := List.getElem_of_mem hr
              exact ⟨i, hi, he⟩
          · exact ((((k3.trans (kt_ext hw4 (by omega))).trans (kt_ext hE5 (by omega))).trans (h3.mono (by omega))).trans (kt_only hO7 (.inr (.inr (by omega))))).trans (kt_only hO8 (.inr (.inr (by omega))))
      simp [h0, h3, h4]
      by_cases hi : idxO l s < 0
      · have hL := hv2.lost
        obtain ⟨pt, t1, t2, t3, t4⟩ := hL.ex
        have hsT : s ∉ T := fun h => hs (hv.ts s h)
        simp [hi, h3, hv2.cl.cell, h0]
        refine eff_mapUpdate (s := s) (kt := 9) (et := 4) (by kernel_rfl) (by kernel_rfl) (by simp) (by simp) t1 fun W3 hO3 hm3 => ?_
        have ck3 : CK W2 W3 := by
          obtain ⟨es, cl, hm, _⟩ := t1.ex
          exact ck_only hO3 hm (by simp)
        have k3 : KT x.Ms x.Ml W.heap.size W W3 := k2.trans (kt_only hO3 (.inr (.inl rfl)))
        simp
        refine rest _ W3 (s :: T) (by simp [hg]) (by simp) (by simp [h4]) ?_ (fun y => ?_) k3 (ck2.trans ck3) ⟨(hO3.block Bo ?_).trans hbo.heap⟩ (ObjC.ck ho2 ck3)
        · refine hv2.step hx (kt_only hO3 (.inr (.inl rfl))) ck3 (hv2.seen.block (hO3.block _ hx.sl)) (SetB.put t2 t3 t4 hsz (by simpa using hm3)) hv2.snd (List.nodup_cons.2 ⟨hsT, hv2.tnd⟩) fun t ht => ?_
          rcases List.mem_cons.1 ht with rfl | ht
          · simp
          · simp [hv.ts t ht]
        · simp [hi]; exact or_comm
        · have := k1.size; omega
      · simp [hi]
        exact rest _ W2 T (by simp [hg]) (by simp) (by simp [h4]) hv2 (fun y => by simp [hi]) k2 ck2 hbo ho2
end Go.L16
/- Layer 16: contracts of the link package: reached. -/
namespace Go.L16
open Go Go.Eng Go.RowKit Go.Proofs
set_option maxRecDepth 10000

theorem vp_reach {l : List Obj} {S T roots : List ByteArray} (h : VP l [] [] S T roots) (s : ByteArray) : s ∈ S ↔ Reach l roots s := by
  constructor
  · intro hs
    rcases h.new s hs with h1 | h1
    · simp at h1
    · exact h1
  · intro hr
    induction hr with
    | root hs => exact h.has _ hs
    | step _ hn ih =>
      rcases h.closed _ ih with h1 | h1
      · simp at h1
      · exact h1 _ hn
theorem asc_filter {l : List ByteArray} (h : Asc l) (p : ByteArray → Bool) : Asc (l.filter p) := List.Pairwise.filter p h
theorem vp_missing {l : List Obj} {S T roots R M : List ByteArray} (h : VP l [] [] S T roots) (hR : IsReached l roots R) (hM : Asc M) (hm : ∀ s, s ∈ M ↔ s ∈ T) : missingL l roots = M := by
  unfold missingL
  rw [reachedL_eq hR]
  refine (asc_filter hR.1 _).ext hM fun s => ?_
  rw [List.mem_filter, hm, h.lost, hR.2, vp_reach h]
  simp

theorem _root_.Go.Eng.Blk.only' {W W' : World} {B B' : Nat} {cs : Array Value} {t : TypeId} (hb : Blk W B' cs t) (h : Only B W W') (hne : B' ≠ B) : Blk W' B' cs t := h.blk hb hne

theorem lk_reached {w : World} {Bl : Nat} {u : Value} {l : List Obj} {roots : List ByteArray} (hl : LibM w Bl l l.length) (hok : LibOk l) (hr : SlS w u roots) (h60 : roots.length ≤ 60) :
    Calls Tryd.prog 68 #[.map (some Bl), u] w fun e w' => ∃ y z, e = .returned (.tuple #[y, z]) ∧ SlS w' y (reachedL l roots) ∧ SlS w' z (missingL l roots) ∧ IsReached l roots (reachedL l roots) ∧ Ext w w' := by
  obtain ⟨Post, hPost⟩ : ∃ P : Ending → World → Prop, P = fun e w' => ∃ y z, e = .returned (.tuple #[y, z]) ∧ SlS w' y (reachedL l roots) ∧ SlS w' z (missingL l roots) ∧ IsReached l roots (reachedL l roots) ∧ Ext w w' := ⟨_, rfl⟩
  rw [← hPost]
  refine jr68_calls fun ρ h0 h1 => ?_
  simp [jr68, h0]
  refine eff_box fun BL W1 hB1 hE1 hb1 hS1 => ?_
  simp [h0, Value.cells] at hb1
  simp
  refine eff_makeMap fun Ms W2 hB2 hE2 hb2 hS2 => ?_
  simp
  refine eff_makeMap fun Ml W3 hB3 hE3 hb3 hS3 => ?_
  simp
  refine eff_alloc (z := #[.map none]) (by kernel_rfl) fun Cs W4 hB4 hE4 hb4 hS4 => ?_
  simp
  refine eff_alloc (z := #[.map none]) (by kernel_rfl) fun Cl W5 hB5 hE5 hb5 hS5 => ?_
  simp
  have hb45 := hb4.ext hE5
  refine eff_store1 (B := Cs) (i := 0) (by simp) hb45 (by simp) (by simp; rfl) (by simp; rfl) (by kernel_rfl) fun W6 hO6 hb6 => ?_
  simp at hb6 ⊢
  have hne : Cs ≠ Cl := by omega
  have hb56 := hO6.blk hb5 (Ne.symm hne)
  refine eff_store1 (B := Cl) (i := 0) (by simp) hb56 (by simp) (by simp; rfl) (by simp; rfl) (by kernel_rfl) fun W7 hO7 hb7 => ?_
  simp at hb7 ⊢
  have hb67 := hO7.blk hb6 hne
  refine eff_alloc (z := #[.nilFunc]) (by kernel_rfl) fun CV W8 hB8 hE8 hb8 hS8 => ?_
  simp
  refine eff_store1 (B := CV) (i := 0) (by simp) hb8 (by simp) (by simp; rfl) (by simp; rfl) (by kernel_rfl) fun W9 hO9 hb9 => ?_
  simp at hb9 ⊢
  have hBl : Bl < w.heap.size := by obtain ⟨ps, h, _⟩ := hl.ex; exact h.lt
  have s6 := hO6.size
  have s7 := hO7.size
  have s9 := hO9.size
  have hE7 : Ext w W7 := hO7.ext (hO6.ext ((((hE1.trans' hE2).trans' hE3).trans' hE4).trans' hE5) (by omega)) (by omega)
  have hE9 : Ext w W9 := hO9.ext (hE7.trans' hE8) (by omega)
  obtain ⟨x, hxe⟩ : ∃ x : VB, x = ⟨Cs, BL, Cl, CV, Ms, Ml, Bl, W9.heap.size⟩ := ⟨_, rfl⟩
  have hx : x.ok := by
    rw [hxe]
    refine ⟨?_, ?_, ?_, ?_⟩ <;> simp only <;> omega
  have hm2 : MapB W9 Ms [] := hb2.block (by
    rw [hO9.block Ms (by omega), hE8.block Ms (by omega), hO7.block Ms (by omega), hO6.block Ms (by omega), hE5.block Ms (by omega), hE4.block Ms (by omega), hE3.block Ms (by omega)])
  have hm3 : MapB W9 Ml [] := hb3.block (by
    rw [hO9.block Ml (by omega), hE8.block Ml (by omega), hO7.block Ml (by omega), hO6.block Ml (by omega), hE5.block Ml (by omega), hE4.block Ml (by omega)])
  have hv9 : VI x l W9 [] [] := by
    rw [hxe]
    refine ⟨(hb67.ext hE8).only' hO9 (by omega), ?_, (hb7.ext hE8).only' hO9 (by omega), hb9, hl.ext hE9, by simpa using SetB.nil hm2, by simpa using SetB.nil hm3, List.nodup_nil, List.nodup_nil, by simp, Nat.le_refl _⟩
    exact ⟨by rw [hO9.block BL (by omega), hE8.block BL (by omega), hO7.block BL (by omega), hO6.block BL (by omega), hE5.block BL (by omega), hE4.block BL (by omega), hE3.block BL (by omega), hE2.block BL (by omega)]; exact hb1.heap⟩
  have hU : ∀ s, ∀ n, n ∈ needsAt l s → n ∈ allNames l roots := fun s n hn => needsAt_all hn
  have hUl := allNames_len (roots := roots) hok h60
  have hr9 := hr.ext hE9
  have hxe' := hxe
  simp [h1, hr9.1.is, hr9.1.len]
  refine loopC 16 roots.length (fun k ρ' W' => ρ' 8 = .pointer (some ⟨CV, 0, none⟩) ∧ ρ' 6 = .pointer (some ⟨Cs, 0, none⟩) ∧ ρ' 7 = .pointer (some ⟨Cl, 0, none⟩) ∧ ρ' 14 = u ∧ ρ' 15 = .int .i64 roots.length ∧
    ∃ S T, VI x l W' S T ∧ VP l [] [] S T (roots.take k) ∧ KT x.Ms x.Ml W9.heap.size W9 W' ∧ CK W9 W' ∧ (∀ y, y ∈ S → y ∈ allNames l roots)) (by simp) ⟨by simp, by simp, by simp, by simp, by simp, [], [], hv9, by simpa using VP.nil l [] [], KT.refl _, CK.refl _, by simp⟩ ?_
  rintro k ρ' W' hk h16 ⟨h8, h6, h7, h14, h15, S, T, hv, hvp, hkt, hck, hSU⟩
  have hbd := hr.1.bd
  by_cases hlt : k < roots.length
  · have hrs := hck _ _ (hr9.1.cell k hlt)
    have hcv : Blk W' CV #[x.clo] 127 := by have := hv.cv; rw [hxe] at this ⊢; exact this
    simp [jr68_l2, jr68_k1, h16, h15, hlt, h14, hr.1.is, hr.1.len, hrs, h8, hcv.cell]
    refine eff_callv (f := 84) (by simp) (fs := #[]) (caps := #[.pointer (some ⟨x.Cs, 0, none⟩), .pointer (some ⟨x.BL, 0, none⟩), .pointer (some ⟨x.Cl, 0, none⟩), .pointer (some ⟨x.CV, 0, none⟩)]) (by simp [VB.clo]) ?_
    simp
    refine (lk_visit hx hok hU _ W' S T roots[k] hv hSU (by simp [allNames]) (hr.2 _ (List.getElem_mem hlt)) (Nat.le_refl _)).mono ?_
    rintro _ W2' ⟨⟨v, rfl⟩, S', T', g1, g2, g3, g4, g5⟩
    simp [jr68_k0, h16, h15, h14, h8, h6, h7, i64w (n := (k : Int) + 1) (by omega)]
    refine ⟨S', T', g1, ?_, hkt.trans (g3.mono hkt.size), hck.trans g4, g5⟩
    rw [List.take_succ_eq_append_getElem hlt]
    exact hvp.trans g2
  · have hk' : k = roots.length := by omega
    subst hk'
    simp [jr68_l2, h16, h15]
    simp only [jr68_k4, wpi_seq]
    rw [List.take_length] at hvp
    have hSl : S.length ≤ 120060 := Nat.le_trans (nodup_le _ _ hv.snd hSU) hUl
    have hTl : T.length ≤ 120060 := Nat.le_trans (nodup_le _ _ hv.tnd fun t ht => hSU t (hv.ts t ht)) hUl
    have hEW : Ext w W' := by
      refine ⟨hkt.os.trans hE9.os, hkt.tape.trans hE9.tape, hkt.output.trans hE9.output, Nat.le_trans hE9.size hkt.size, fun i hi => ?_⟩
      rw [hkt.block i (by omega) (by rw [hxe]; simp only; omega) (by rw [hxe]; simp only; omega)]
      exact hE9.block i hi
    refine raw_ord jr68_o9_ok (Ext W') fun w2 hw2 _ => ⟨hw2, ?_⟩
    have hcs : ∀ w', Ext W' w' → w'.cell? ⟨Cs, 0, none⟩ = some (.map (some Ms)) := fun w' h => by have := (hv.cs.ext h).cell 0; rw [hxe] at this; simpa using this
    have hcl : ∀ w', Ext W' w' → w'.cell? ⟨Cl, 0, none⟩ = some (.map (some Ml)) := fun w' h => by have := (hv.cl.ext h).cell 0; rw [hxe] at this; simpa using this
    simp +contextual [jr68_o9, h6, h7, hcs, hcl, hw2]
    have hse : SetB w2 Ms S S.length := by have := hv.seen.ext hw2; rw [hxe] at this; exact this
    refine (lk_sortedS hse (by omega)).mono ?_
    rintro _ w3 ⟨y, R, rfl, hy, hasc, hR, hE3', _⟩
    have hlo : SetB w3 Ml T T.length := by have := (hv.lost.ext hw2).ext hE3'; rw [hxe] at this; exact this
    simp
    refine ⟨hw2.trans' hE3', ?_⟩
    refine (lk_sortedS hlo (by omega)).mono ?_
    rintro _ w4 ⟨z, M, rfl, hz, hascM, hM, hE4', _⟩
    have hIR : IsReached l roots R := ⟨hasc, fun s => (hR s).trans (vp_reach hvp s)⟩
    simp [jr68_k3, hPost]
    refine ⟨y, z, ⟨rfl, rfl⟩, ?_, ?_, ?_, ((hEW.trans' hw2).trans' hE3').trans' hE4'⟩
    · rw [reachedL_eq hIR]; exact hy.ext hE4'
    · rw [vp_missing hvp hIR hascM hM]; exact hz
    · rw [reachedL_eq hIR]; exact hIR
end Go.L16
/- Layer 16: contracts of the link package: Reached, Missing. -/
namespace Go.L16
open Go Go.Eng Go.RowKit Go.Proofs
set_option maxRecDepth 10000

theorem lk_Reached {w : World} {v u : Value} {l : List Obj} {roots : List ByteArray} (hl : SlO w v l) (hr : SlS w u roots) :
    Calls Tryd.prog 34 #[v, u] w fun e w' => ∃ x, e = .returned (.tuple #[x, .int .i64 (askedE l roots)]) ∧ SlS w' x (reachedA l roots) ∧ Ext w w' := by
  refine ir34_calls fun ρ h0 h1 => ?_
  simp [ir34, h0, h1]
  refine (lk_opened hl hr).mono ?_
  rintro _ w1 ⟨x, rfl, hx, hw1⟩
  by_cases ha : askedE l roots = 0
  · obtain ⟨B, rfl, hB, hL⟩ := hx ha
    obtain ⟨hok, h60⟩ := asked_ok ha
    simp [ha, ir34_k0, h1]
    refine (lk_reached hL hok (hr.ext hw1) h60).mono ?_
    rintro _ w2 ⟨y, z, rfl, hy, hz, hR, hw2⟩
    simp [reachedA, ha]
    exact ⟨hy, hw1.trans' hw2⟩
  · simp [ha, reachedA]
    exact ⟨⟨Sl.nil _ _, by simp⟩, hw1⟩

theorem lk_Missing {w : World} {v u : Value} {l : List Obj} {roots : List ByteArray} (hl : SlO w v l) (hr : SlS w u roots) :
    Calls Tryd.prog 36 #[v, u] w fun e w' => ∃ x, e = .returned (.tuple #[x, .int .i64 (askedE l roots)]) ∧ SlS w' x (missingA l roots) ∧ Ext w w' := by
  refine ir36_calls fun ρ h0 h1 => ?_
  simp [ir36, h0, h1]
  refine (lk_opened hl hr).mono ?_
  rintro _ w1 ⟨x, rfl, hx, hw1⟩
  by_cases ha : askedE l roots = 0
  · obtain ⟨B, rfl, hB, hL⟩ := hx ha
    obtain ⟨hok, h60⟩ := asked_ok ha
    simp [ha, ir36_k0, h1]
    refine (lk_reached hL hok (hr.ext hw1) h60).mono ?_
    rintro _ w2 ⟨y, z, rfl, hy, hz, hR, hw2⟩
    simp [missingA, ha]
    exact ⟨hz, hw1.trans' hw2⟩
  · simp [ha, missingA]
    exact ⟨⟨Sl.nil _ _, by simp⟩, hw1⟩
end Go.L16
