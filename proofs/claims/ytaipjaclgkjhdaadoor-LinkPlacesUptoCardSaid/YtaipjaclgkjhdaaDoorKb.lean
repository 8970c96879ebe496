/- Texts of mine for the claims about layer 16 (link), joined: L16Lm, L16Ln. -/
import Derived.Test.YtaipjaclgkjhdaaDoorKa
import Derived.Laws.MakeOwn
set_option linter.all false
set_option linter.unusedSimpArgs false
set_option linter.unusedVariables false
/- Layer 16: a list of objects in another order. -/
namespace Go.Eng
open Go.RowKit
/-- A slice type's element that takes one cell: it, its zero, its bytes. -/
def makeInfo (P : Program) (t : TypeId) : Option (TypeId × Value × Nat) :=
  match P.underlying t with
  | some (.slice e) => (P.info? e).bind fun i => i.zero.bind fun z => if i.size = 1 then some (e, z.cells[0]!, i.bytes) else none
  | _ => none
section
variable {P : Program} {Q : Ks} {d : Option Nat} {ty : TypeId} {K : Env → World → Prop} {ρ : Env} {w : World}
theorem eff_make {t e : TypeId} {zc : Value} {bytes n : Nat} {kl kc : IntKind} {x y : Operand} (hi : makeInfo P t = some (e, zc, bytes)) (hx : evE ρ x = .int kl n) (hy : evE ρ y = .int kc n) (hb : bytes * n ≤ 281474976710656) (hn : n ≤ 1099511627776)
    (hz1 : ∀ i z, P.info? e = some i → i.zero = some z → z.cells.size = 1)
    (h : ∀ (B : Nat) (W : World), w.heap.size ≤ B → Ext w W → Blk W B (List.replicate n zc).toArray e → K (updO ρ d (.slice (some ⟨B, 0, none⟩) n n)) W) : effW P Q d (.makeSlice t x y) ty K ρ w := by
  unfold makeInfo at hi
  split at hi
  · rename_i e' hu
    simp only [Option.bind_eq_some_iff] at hi
    obtain ⟨i, hie, z, hz, hc⟩ := hi
    split at hc
    · rename_i hsz
      cases hc
      have hb' : (i.bytes : Int) * (n : Int) ≤ 281474976710656 := by
        have h : ((i.bytes * n : Nat) : Int) ≤ 281474976710656 := by omega
        rwa [Int.natCast_mul] at h
      have hr := run_make (P := P) w t e i z hu hie hz kl kc n n (by omega) (Int.le_refl _) hb' (by omega)
      simp only [Int.toNat_natCast, hsz, Nat.mul_one] at hr
      have hz2 := hz1 i z hie hz
      have hcells : madeCells z.cells n = (List.replicate n z.cells[0]!).toArray := by
        apply Array.toList_inj.1
        apply List.ext_getElem?
        intro j
        by_cases hj : j < n
        · simp [madeCells, hj, hz2, Nat.mod_one]
        · simp [madeCells, hj]
      rw [hcells] at hr
      refine effE_ok (v := .slice (some ⟨w.heap.size, 0, none⟩) n n) (w' := w.alloc (.cells (List.replicate n z.cells[0]!).toArray e)) ?_ (h w.heap.size _ (Nat.le_refl _) (ext_alloc w _) (blk_alloc w _ _))
      simp only [execOp, effOp, hx, hy, Sem.run_bind, hr, Result.andThen_ok, Sem.run_pure]
    · cases hc
  · cases hi
end
end Go.Eng
namespace Go.L16
open Go Go.Eng Go.RowKit Go.Proofs
set_option maxRecDepth 100000
set_option maxHeartbeats 2000000

theorem mi99 : makeInfo Tryd.prog 99 = some (4, .bool false, 1) := by kernel_rfl
theorem sz4 : sizeIs Tryd.prog 4 1 = true := by kernel_rfl
theorem z4 : ∀ i z, Tryd.prog.info? 4 = some i → i.zero = some z → z.cells.size = 1 := by
  intro i z hi hz
  have h : (Tryd.prog.info? 4).bind (fun i => i.zero.map fun z => z.cells.size) = some 1 := by kernel_rfl
  rw [hi] at h
  simpa [hz] using h

/-- Which of n places are taken. -/
def usedV (n : Nat) (is : List Nat) : List Value := (List.range n).map fun j => .bool (decide (j ∈ is))
theorem usedV_nil (n : Nat) : usedV n [] = List.replicate n (.bool false) := by
  apply List.ext_getElem (by simp [usedV])
  intro i h1 h2
  simp [usedV]
theorem usedV_len (n : Nat) (is : List Nat) : (usedV n is).length = n := by simp [usedV]
theorem usedV_get {n : Nat} {is : List Nat} {k : Nat} (h : k < n) : (usedV n is)[k]'(by rw [usedV_len]; exact h) = .bool (decide (k ∈ is)) := by simp [usedV]
theorem usedV_set {n : Nat} {is : List Nat} {k : Nat} (_h : k < n) : (usedV n is).set k (.bool true) = usedV n (is ++ [k]) := by
  apply List.ext_getElem (by simp [usedV])
  intro i h1 h2
  rw [List.getElem_set]
  simp only [usedV, List.getElem_map, List.getElem_range, List.mem_append, List.mem_singleton]
  split
  · rename_i e; subst e; simp
  · rename_i e
    have : ¬ i = k := fun h => e h.symm
    simp [this]

structure T30 (w W : World) (l : List Obj) (rows : List (Value × Value × Value)) (is js : List Nat) (uv ov : Value) : Prop where
  ext : Ext w W
  own : OwnS w.heap.size W [⟨uv, 4, 1, usedV l.length is⟩, ⟨ov, 45, 3, rowsV (js.map fun i => rows.getD i default)⟩]
  nodup : js.Nodup
  lt : ∀ i ∈ js, i < l.length

theorem used_at {base : Nat} {W : World} {uv : Value} {n : Nat} {is : List Nat} (h : Own base 4 1 W uv (usedV n is)) {k : Nat} (hk : k < n) : isSl uv = true ∧ slLen uv = n ∧ W.cell? (slAddr uv k) = some (.bool (decide (k ∈ is))) := by
  have hc := h.toCells
  have h1 := hc.len
  rw [usedV_len] at h1
  refine ⟨hc.is, by omega, ?_⟩
  rw [hc.cell k (by rw [usedV_len]; exact hk), usedV_get hk]

theorem law_turned {w : World} {v u : Value} {l : List Obj} {ns : List Int} (hl : SlO w v l) (hn : SlI w u ns) (h63 : l.length ≤ 63) :
    Calls Tryd.prog 30 #[v, u] w fun e w' => ∃ x os, e = .returned x ∧ SlO w' x os ∧ os.Perm l ∧ Ext w w' := by
  refine ir30_calls fun ρ h0 h1 => ?_
  obtain ⟨rows, hrl, hrc, hro⟩ := hl.rows
  have hnbd := hn.1.bd
  have hone := one_rows hrl hro
  obtain ⟨Post, hPost⟩ : ∃ P : Ending → World → Prop, P = fun e w' => ∃ x os, e = .returned x ∧ SlO w' x os ∧ os.Perm l ∧ Ext w w' := ⟨_, rfl⟩
  rw [← hPost]
  -- one more object
  have addOne : ∀ {W : World} {is js : List Nat} {uv ov : Value} {k : Nat}, T30 w W l rows is js uv ov → (hk : k < l.length) → k ∉ js → ∀ {K : Env → World → Prop} {Q : Ks} {d : Nat} {s x : Operand} {ρ' : Env} {ty : TypeId} {B : Nat}, evE ρ' s = ov → evE ρ' x = .slice (some ⟨B, 0, none⟩) 1 1 →
      Blk W B #[(rows.getD k default).1, (rows.getD k default).2.1, (rows.getD k default).2.2] 45 →
      (∀ ov' W', T30 w W' l rows is (js ++ [k]) uv ov' → K (updO ρ' (some d) ov') W') → effW Tryd.prog Q (some d) (.call { callee := .builtin .append, args := #[s, x], argTypes := #[42, 42] }) ty K ρ' W := by
    intro W is js uv ov k hT hk hkj K Q d s x ρ' ty B hs hx hb hK
    have hjl : js.length ≤ l.length := by
      have := (List.nodup_range (n := l.length))
      have h2 := hT.nodup.length_le_of_subset (l₂ := List.range l.length) fun i hi => List.mem_range.2 (hT.lt i hi)
      simpa using h2
    refine eff_appendS ri42 hT.ext.size hs hx hT.own.swap (news := [(rows.getD k default).1, (rows.getD k default).2.1, (rows.getD k default).2.2]) (hb.cells (n := 1) (by simp)) ?_ (by simp [rowsV_len]; omega) (by simp [rowsV_len]; omega) fun ov' W' hB' own' => ?_
    · intro y hy
      refine hone y ?_
      have e : rows.getD k default = rows[k]'(by omega) := by simp [show k < rows.length by omega]
      rw [e] at hy
      exact List.mem_flatMap.2 ⟨_, List.getElem_mem (by omega), hy⟩
    · refine hK ov' W' ⟨ext_of_below hT.ext hB', ?_, ?_, ?_⟩
      · have := own'.swap
        simpa [rowsV] using this
      · rw [List.nodup_append]
        exact ⟨hT.nodup, by simp, fun a ha b hb => by simp at hb; subst hb; rintro rfl; exact hkj ha⟩
      · intro i hi
        rcases List.mem_append.1 hi with hi | hi
        · exact hT.lt i hi
        · simp at hi; omega
  have cellsAt : ∀ {W : World}, Ext w W → ∀ k (hk : k < l.length), W.cell? (slAddr v (k * 3)) = some (rows.getD k default).1 ∧ W.cell? (slAddr v (k * 3 + 1)) = some (rows.getD k default).2.1 ∧ W.cell? (slAddr v (k * 3 + 2)) = some (rows.getD k default).2.2 := by
    intro W hE k hk
    have e : rows.getD k default = rows[k]'(by omega) := by simp [show k < rows.length by omega]
    obtain ⟨e0, e1, e2⟩ := rowsV_get rows k (by omega)
    have key : ∀ j x, (rowsV rows)[j]? = some x → W.cell? (slAddr v j) = some x := fun j x hx => by
      obtain ⟨hj, rfl⟩ := List.getElem?_eq_some_iff.1 hx
      exact hE.cell (hrc.cell j hj)
    rw [e]
    exact ⟨key _ _ e0, key _ _ e1, key _ _ e2⟩
  have one3 : ∀ k, k < l.length → (rows.getD k default).1.cells = #[(rows.getD k default).1] ∧ (rows.getD k default).2.1.cells = #[(rows.getD k default).2.1] ∧ (rows.getD k default).2.2.cells = #[(rows.getD k default).2.2] := by
    intro k hk
    have e : rows.getD k default = rows[k]'(by omega) := by simp [show k < rows.length by omega]
    have ho := hro k (by omega) hk
    rw [e]
    exact ⟨by rw [ho.name]; rfl, isSl_cells ho.code.is, isSl_cells ho.rels.is⟩
  simp -implicitDefEqProofs [ir30, h0, hl.is, hl.len]
  refine eff_make (n := l.length) (kl := .i64) (kc := .i64) mi99 (by simp) (by simp) (by omega) (by omega) z4 fun B W1 hB hE1 hb1 => ?_
  have hT1 : T30 w W1 l rows [] [] (.slice (some ⟨B, 0, none⟩) l.length l.length) (.slice none 0 0) := by
    refine ⟨hE1, ⟨?_, by simp [Apart], Own.nil _ _ _ _, by simp, trivial⟩, List.nodup_nil, by simp⟩
    rw [← usedV_nil] at hb1
    exact Own.lit hb1 (by simp [usedV]) hB (by simp only [maxLen]; omega)
  simp -implicitDefEqProofs
  obtain ⟨uv, huv⟩ : ∃ uv : Value, uv = .slice (some ⟨B, 0, none⟩) l.length l.length := ⟨_, rfl⟩
  rw [← huv] at hT1
  have second : ∀ (ρ2 : Env) (W2 : World) (is : List Nat), ρ2 0 = v → ρ2 6 = uv → T30 w W2 l rows is is uv (ρ2 5) →
      ir30_k7.wp ⟨Tryd.prog, 68, ir30_V, []⟩ (retK [.tmp 4] Post) (ksOf [.tmp 4] Post) ρ2 W2 := by
    intro ρ2 W2 is h0 h6 hT
    simp -implicitDefEqProofs [ir30_k7]
    refine loopC 9 l.length (fun k ρ' W => ρ' 0 = v ∧ ρ' 6 = uv ∧ T30 w W l rows is (is ++ (List.range k).filter fun j => !decide (j ∈ is)) uv (ρ' 5)) (by simp) ⟨by simp [h0], by simp [h6], by simpa using hT⟩ ?_
    rintro k ρ3 W hk h9 ⟨h0, h6, hT⟩
    have lW := hl.ext hT.ext
    by_cases hlt : k < l.length
    · obtain ⟨c0, c1, c2⟩ := cellsAt hT.ext k hlt
      obtain ⟨o0, o1, o2⟩ := one3 k hlt
      obtain ⟨u1, u2, u3⟩ := used_at hT.own.head hlt
      have hrange : (List.range (k + 1)).filter (fun j => !decide (j ∈ is)) = (List.range k).filter (fun j => !decide (j ∈ is)) ++ if k ∈ is then [] else [k] := by
        rw [List.range_succ, List.filter_append]
        congr 1
        by_cases hki : k ∈ is <;> simp [hki]
      simp -implicitDefEqProofs [ir30_l5, ir30_k4, h9, h0, lW.is, lW.len, hlt, h6, u1, u2, u3]
      by_cases hki : k ∈ is
      · simp -implicitDefEqProofs [hki, ir30_k3, h9, i64w (n := (k : Int) + 1) (by omega)]
        refine ⟨by simp [h0], by simp [h6], ?_⟩
        rw [hrange, if_pos hki, List.append_nil]
        exact hT
      · simp -implicitDefEqProofs [hki, h9, h0, lW.is, lW.len, hlt, c0, c1, c2]
        refine eff_lit si42 (by decide) (by decide) (by simp [Value.cells]) fun B4 W4 hB4 hE4 hb4 _ => ?_
        simp [Value.cells] at hb4
        have hT4 : T30 w W4 l rows is (is ++ (List.range k).filter fun j => !decide (j ∈ is)) uv (ρ3 5) := ⟨hT.ext.trans' hE4, hT.own.ext hE4, hT.nodup, hT.lt⟩
        simp -implicitDefEqProofs
        refine addOne hT4 hlt (by simp [hki]) (by simp) (by simp) hb4 fun ov' W' hT' => ?_
        simp -implicitDefEqProofs [ir30_k3, h9, i64w (n := (k : Int) + 1) (by omega)]
        refine ⟨by simp [h0], by simp [h6], ?_⟩
        rw [hrange, if_neg hki, ← List.append_assoc]
        exact hT'
    · have hk' : k = l.length := by omega
      subst hk'
      simp -implicitDefEqProofs [ir30_l5, h9, h0, lW.is, lW.len, ir30_k6]
      subst hPost
      obtain ⟨js, hjs⟩ : ∃ js, js = is ++ (List.range l.length).filter fun j => !decide (j ∈ is) := ⟨_, rfl⟩
      rw [← hjs] at hT
      have hmem : ∀ i, i ∈ js ↔ i ∈ List.range l.length := by
        intro i
        constructor
        · intro hi; exact List.mem_range.2 (hT.lt i hi)
        · intro hi
          rw [hjs, List.mem_append]
          by_cases hii : i ∈ is
          · exact .inl hii
          · exact .inr (List.mem_filter.2 ⟨hi, by simp [hii]⟩)
      have hperm : js.Perm (List.range l.length) := (List.perm_ext_iff_of_nodup hT.nodup List.nodup_range).2 hmem
      have hjl : js.length = l.length := by rw [hperm.length_eq, List.length_range]
      refine ⟨_, js.map fun i => l.getD i emptyO, rfl, ?_, ?_, hT.ext⟩
      · refine SlO.ofOwn (show Own w.heap.size 45 3 W (ρ3 5) (rowsV (js.map fun i => rows.getD i default)) from hT.own.tail.head) (by simp) (by simp; omega) fun i h1 h2 => ?_
        simp only [List.length_map] at h1
        have hi := hT.lt _ (List.getElem_mem h1)
        have ho := (hro js[i] (by omega) hi).ext hT.ext
        simpa [hi, show js[i] < rows.length by omega] using ho
      · have := hperm.map (fun i => l.getD i emptyO)
        have e : (List.range l.length).map (fun i => l.getD i emptyO) = l := by
          apply List.ext_getElem (by simp)
          intro i h1 h2
          simp [h2]
        rw [e] at this
        exact this
  refine loopC 7 ns.length (fun k ρ' W => ρ' 0 = v ∧ ρ' 1 = u ∧ ρ' 6 = uv ∧ ∃ is, T30 w W l rows is is uv (ρ' 5)) (by simp) ⟨by simp [h0], by simp [h1], by simp [huv], [], by simpa using hT1⟩ ?_
  rintro k ρ3 W hk h7 ⟨h0, h1, h6, is, hT⟩
  have lW := hl.ext hT.ext
  have nW := hn.ext hT.ext
  by_cases hlt : k < ns.length
  · by_cases hpos : 0 < l.length
    · obtain ⟨i, hi, hi1, hi2, hi3⟩ := rem_k ns[k] l.length hpos (by omega)
      rw [hi2] at hi3
      obtain ⟨c0, c1, c2⟩ := cellsAt hT.ext i hi
      obtain ⟨o0, o1, o2⟩ := one3 i hi
      obtain ⟨u1, u2, u3⟩ := used_at hT.own.head hi
      have hne : ¬ l.length = 0 := by omega
      simp -implicitDefEqProofs [ir30_l2, h7, h0, h1, h6, lW.is, lW.len, nW.1.is, nW.1.len, hlt, hpos, ir30_k1, nW.1.cell k hlt, Eng.encI, hi2, hi3, hne, show IntKind.i64.wrap (i : Int) = i from i64w (by omega), u1, u2, u3, hi]
      by_cases hki : i ∈ is
      · simp -implicitDefEqProofs [hki, ir30_k0, h7, i64w (n := (k : Int) + 1) (by omega)]
        exact ⟨by simp [h0], by simp [h1], by simp [h6], is, by simpa using hT⟩
      · simp -implicitDefEqProofs [hki, h6, u1, u2, hi]
        refine eff_storeS (i := i) hT.ext.size hT.own (by simp [usedV, hi]) (by simp) (by simp [Value.cells]) (by simp) sz4 fun W4 hB4 own4 => ?_
        have hT4 : T30 w W4 l rows (is ++ [i]) is uv (ρ3 5) := ⟨ext_of_below hT.ext hB4, by simpa [usedV_set hi] using own4, hT.nodup, hT.lt⟩
        obtain ⟨c0, c1, c2⟩ := cellsAt hT4.ext i hi
        have lW4 := hl.ext hT4.ext
        simp -implicitDefEqProofs [h0, lW4.is, lW4.len, hi, c0, c1, c2]
        refine eff_lit si42 (by decide) (by decide) (by simp [Value.cells]) fun B5 W5 hB5 hE5 hb5 _ => ?_
        simp [Value.cells] at hb5
        have hT5 : T30 w W5 l rows (is ++ [i]) is uv (ρ3 5) := ⟨hT4.ext.trans' hE5, hT4.own.ext hE5, hT.nodup, hT.lt⟩
        simp -implicitDefEqProofs
        refine addOne hT5 hi hki (by simp) (by simp) hb5 fun ov' W' hT' => ?_
        simp -implicitDefEqProofs [ir30_k0, h7, i64w (n := (k : Int) + 1) (by omega)]
        exact ⟨by simp [h0], by simp [h1], by simp [h6], _, hT'⟩
    · simp -implicitDefEqProofs [ir30_l2, h7, h0, h1, lW.is, lW.len, nW.1.is, nW.1.len, hlt, hpos]
      exact second _ W is (by simp [h0]) (by simp [h6]) (by simpa using hT)
  · have hk' : k = ns.length := by omega
    subst hk'
    simp -implicitDefEqProofs [ir30_l2, h7, h0, h1, lW.is, lW.len, nW.1.is, nW.1.len]
    exact second _ W is (by simp [h0]) (by simp [h6]) (by simpa using hT)
end Go.L16
/- Layer 16: the law LinkOrders. -/
namespace Go.L16
open Go Go.Eng Go.RowKit Go.Proofs
set_option maxRecDepth 100000
set_option maxHeartbeats 2000000

/-- The slots of the law behind its first link. -/
structure L5 (v u o : Value) (E : Int) (B7 B9 : Nat) (ρ : Env) : Prop where
  h0 : ρ 0 = v
  h1 : ρ 1 = u
  h2 : ρ 2 = o
  h7 : ρ 7 = .pointer (some ⟨B7, 0, none⟩)
  h9 : ρ 9 = .pointer (some ⟨B9, 0, none⟩)
  h10 : ρ 10 = .int .i64 E

/-- The wide list. -/
theorem law5_k4 {w0 w W : World} {v u o x : Value} {B7 B9 : Nat} {ρ : Env} {l : List Obj} {more : Obj} {roots : List ByteArray} {a1 a2 a3 : Value} (hE0 : Ext w0 w) (hEW : Ext w W) (hf : L5 v u o 0 B7 B9 ρ) (h15 : ρ 15 = x)
    (hx : SlO W x (l ++ [more])) (hr : SlS w u roots) (hb : Blk w B9 #[a1, a2, a3] 26) (hi : ImgC w a1 a2 a3 (linkI l roots)) (he : linkE l roots = 0) :
    ir5_k4.wp ⟨Tryd.prog, 119, ir5_V, []⟩ (retK [.tmp 8] fun e w' => e = .returned (.bool true) ∧ Ext w0 w') (ksOf [.tmp 8] fun e w' => e = .returned (.bool true) ∧ Ext w0 w') ρ W := by
  obtain ⟨h0, h1, h2, h7, h9, h10⟩ := hf
  simp -implicitDefEqProofs [ir5_k4, h15]
  refine (lk_CheckAll hx).mono ?_
  rintro _ W1 ⟨rfl, hE1⟩
  have hEW1 := hEW.trans' hE1
  by_cases hg : (checkAll (l ++ [more])).2 = 0
  · have hlw := libOk_of hg
    have hsame := link_same (l' := l ++ [more]) (roots' := roots) he hlw (link_ok he).2.1 (fun s => Iff.rfl) fun o ho _ => List.mem_append_left _ ho
    simp -implicitDefEqProofs [hg, ir5_k3, h15, h1]
    refine (lk_Link (hx.ext hE1) (hr.ext hEW1)).mono ?_
    rintro _ W2 ⟨pa, pb, pc, rfl, hp, hE2, _⟩
    rw [hsame.1]
    rw [hsame.2.1] at hp
    simp -implicitDefEqProofs
    refine eff_var z26 (fun v => by simp) (by simp [Value.cells]) (by simp [Value.cells, isSl_one hp.names.1.is, isSl_one hp.starts.1.is, isSl_one hp.code.is]) sz26 fun B3 W3 hB3 hE3 hb3 _ => ?_
    simp [Value.cells] at hb3
    have hE13 := hE2.trans' hE3
    simp -implicitDefEqProofs
    refine law_linked.mono ?_
    rintro _ W4 ⟨rfl, hE4⟩
    have hEW4 := (hEW1.trans' hE13).trans' hE4
    simp -implicitDefEqProofs [h9, (hb.ext hEW4).cell, (hb3.ext hE4).cell]
    refine (ref_Same (hi.ext hEW4) ((hp.ext hE3).ext hE4)).mono ?_
    rintro _ W5 ⟨rfl, hE5⟩
    simp -implicitDefEqProofs
    exact (hE0.trans' hEW4).trans' hE5
  · simp -implicitDefEqProofs [hg]
    refine (qlinked (hE0.trans' hEW1)).mono ?_
    rintro _ W2 ⟨rfl, hE2⟩
    simp -implicitDefEqProofs
    exact hE2

theorem slo_one {W : World} {B : Nat} {n c r : Value} {o : Obj} (hb : Blk W B #[n, c, r] 45) (h : ObjC W n c r o) : SlO W (.slice (some ⟨B, 0, none⟩) 1 1) [o] := by
  refine SlO.ofOwn (base := 0) (rows := [(n, c, r)]) (Own.lit (cs := [n, c, r]) hb (by simp) (Nat.zero_le _) (by decide)) rfl (by simp) fun i h1 h2 => ?_
  have : i = 0 := by simpa using h1
  subst this
  exact h

/-- All of the list, and one more. -/
theorem law5_raw {w0 w : World} {v u o : Value} {B7 B9 : Nat} {ρ : Env} {l : List Obj} {more : Obj} {roots : List ByteArray} {a1 a2 a3 n c r : Value} (hE0 : Ext w0 w) (hf : L5 v u o 0 B7 B9 ρ)
    (hl : SlO w v l) (h63 : l.length ≤ 63) (hr : SlS w u roots) (hb7 : Blk w B7 #[n, c, r] 45) (hm : ObjC w n c r more) (hb : Blk w B9 #[a1, a2, a3] 26) (hi : ImgC w a1 a2 a3 (linkI l roots)) (he : linkE l roots = 0) :
    ir5_k5.wp ⟨Tryd.prog, 119, ir5_V, []⟩ (retK [.tmp 8] fun e w' => e = .returned (.bool true) ∧ Ext w0 w') (ksOf [.tmp 8] fun e w' => e = .returned (.bool true) ∧ Ext w0 w') ρ w := by
  have hff := hf
  obtain ⟨h0, h1, h2, h7, h9, h10⟩ := hf
  obtain ⟨rows, hrl, hrc, hro⟩ := hl.rows
  have hone := one_rows hrl hro
  have hone1 : ∀ y ∈ [n, c, r], y.oneCell' = true := by
    intro y hy
    simp only [List.mem_cons, List.not_mem_nil, or_false] at hy
    rcases hy with rfl | rfl | rfl
    · rw [hm.name]; rfl
    · exact isSl_one' hm.code.is
    · exact isSl_one' hm.rels.is
  have o3 : n.cells = #[n] ∧ c.cells = #[c] ∧ r.cells = #[r] := ⟨by rw [hm.name]; rfl, isSl_cells hm.code.is, isSl_cells hm.rels.is⟩
  have wide : ∀ {W : World} {x : Value}, Ext w W → Own w.heap.size 45 3 W x (rowsV rows ++ [n, c, r]) → SlO W x (l ++ [more]) := by
    intro W x hE hown
    have e : rowsV rows ++ [n, c, r] = rowsV (rows ++ [(n, c, r)]) := by simp [rowsV]
    rw [e] at hown
    refine SlO.ofOwn hown (by simp [hrl]) (by simp; omega) fun i h1 h2 => ?_
    by_cases hi : i < l.length
    · rw [List.getElem_append_left (by omega), List.getElem_append_left hi]
      exact (hro i (by omega) hi).ext hE
    · have : i = rows.length := by simp at h1; omega
      subst this
      have e2 : (l ++ [more])[rows.length]'h2 = more := by
        rw [List.getElem_append_right (by omega)]; simp [hrl]
      rw [e2]
      simpa using hm.ext hE
  simp -implicitDefEqProofs [ir5_k5]
  refine raw_ord ir5_o14_ok (Ext w) fun w4 hw4 _ => ⟨hw4, ?_⟩
  obtain ⟨K, hK⟩ : ∃ K : Env → World → Prop, K = ir5_k4.wp ⟨Tryd.prog, 119, ir5_V, []⟩ (retK [.tmp 8] fun e w' => e = .returned (.bool true) ∧ Ext w0 w') (ksOf [.tmp 8] fun e w' => e = .returned (.bool true) ∧ Ext w0 w') := ⟨_, rfl⟩
  rw [← hK]
  have fin : ∀ (ρ2 : Env) (W : World) (x : Value), L5 v u o 0 B7 B9 ρ2 → ρ2 15 = x → Ext w W → Own w.heap.size 45 3 W x (rowsV rows ++ [n, c, r]) → K ρ2 W := by
    intro ρ2 W x hf h15 hE hown
    rw [hK]
    exact law5_k4 hE0 hE hf h15 (wide hE hown) hr hb hi he
  have two : ∀ (W : World) (e0 lit : Value), Ext w W → OwnS w.heap.size W [⟨e0, 45, 3, []⟩, ⟨lit, 45, 3, [n, c, r]⟩] → True → ∀ {K : Env → World → Prop} {Q : Ks} {d : Nat} {ty : TypeId} (s x : Operand) (ρ' : Env), evE ρ' s = e0 → evE ρ' x = v →
      (∀ v' W', Ext w W' → OwnS w.heap.size W' [⟨v', 45, 3, rowsV rows⟩, ⟨lit, 45, 3, [n, c, r]⟩] → K (updO ρ' (some d) v') W') → effW Tryd.prog Q (some d) (.call { callee := .builtin .append, args := #[s, x], argTypes := #[42, 42] }) ty K ρ' W := by
    intro W e0 lit hE hown _ K Q d ty s x ρ' hs hx hk
    refine eff_appendS ri42 hE.size hs hx hown (news := rowsV rows) ⟨hrc.is, hrc.len, fun j hj => hE.cell (hrc.cell j hj)⟩ hone (by simp [rowsV_len]; omega) (by simp [rowsV_len]; omega) fun v' W' hB' own' => ?_
    exact hk v' W' (ext_of_below hE hB') (by simpa using own')
  have two2 : ∀ (W : World) (e0 lit : Value), Ext w W → OwnS w.heap.size W [⟨e0, 45, 3, rowsV rows⟩, ⟨lit, 45, 3, [n, c, r]⟩] → ∀ {K : Env → World → Prop} {Q : Ks} {d : Nat} {ty : TypeId} (s x : Operand) (ρ' : Env), evE ρ' s = e0 → evE ρ' x = lit →
      (∀ v' W', Ext w W' → Own w.heap.size 45 3 W' v' (rowsV rows ++ [n, c, r]) → K (updO ρ' (some d) v') W') → effW Tryd.prog Q (some d) (.call { callee := .builtin .append, args := #[s, x], argTypes := #[42, 42] }) ty K ρ' W := by
    intro W e0 lit hE hown K Q d ty s x ρ' hs hx hk
    refine eff_appendS ri42 hE.size hs hx hown (news := [n, c, r]) (hown.tail.head.toCells) hone1 (by simp [rowsV_len]; omega) (by simp [rowsV_len]; omega) fun v' W' hB' own' => ?_
    exact hk v' W' (ext_of_below hE hB') own'.head
  have hcell : ∀ w', Ext w w' → ∀ i, w'.cell? ⟨B7, i, none⟩ = #[n, c, r][i]? := fun w' h => (hb7.ext h).cell
  simp +contextual -implicitDefEqProofs [ir5_o14, h0, h7, hcell, hw4]
  refine ⟨?_, ?_⟩
  · refine eff_lit si42 (by decide) (by decide) (by simp) fun B5 W5 hB5 hE5 hb5 _ => ?_
    simp at hb5
    have hE05 := hw4.trans' hE5
    have own5 : Own w.heap.size 45 3 W5 (.slice (some ⟨B5, 0, none⟩) 0 0) [] := Own.lit hb5 (by simp) (Nat.le_trans hw4.size hB5) (by decide)
    refine ⟨hE05, ?_, ?_⟩
    · simp -implicitDefEqProofs
      refine eff_append (W0 := w) ri42 hE05 (by rfl) (by rfl) own5 (xv := v) (news := rowsV rows) ⟨hrc.is, hrc.len, fun j hj => hE05.cell (hrc.cell j hj)⟩ hone (by simp [rowsV_len]; omega) (by simp [rowsV_len]; omega) fun v6 W6 hE6 own6 _ _ => ?_
      refine ⟨hE6, ?_⟩
      simp -implicitDefEqProofs
      refine eff_lit si42 (by decide) (by decide) (by simp [Value.cells]) fun B7' W7 hB7 hE7 hb7' _ => ?_
      simp [Value.cells] at hb7'
      refine ⟨hE6.trans' hE7, ?_⟩
      simp -implicitDefEqProofs
      refine eff_append (W0 := w) ri42 (hE6.trans' hE7) (by rfl) (by rfl) (own6.ext hE7) (xv := .slice (some ⟨B7', 0, none⟩) 1 1) (news := [n, c, r]) (hb7'.cells (n := 1) (by simp)) hone1 (by simp [rowsV_len]; omega) (by simp [rowsV_len]; omega) fun v8 W8 hE8 own8 _ _ => ?_
      simp -implicitDefEqProofs
      exact fin _ _ v8 ⟨by simp [h0], by simp [h1], by simp [h2], by simp [h7], by simp [h9], by simp [h10]⟩ (by simp) hE8 own8
    · simp -implicitDefEqProofs
      refine eff_lit si42 (by decide) (by decide) (by simp [Value.cells]) fun B7' W7 hB7 hE7 hb7' _ => ?_
      simp [Value.cells] at hb7'
      have hE07 := hE05.trans' hE7
      refine ⟨hE07, ?_⟩
      simp -implicitDefEqProofs
      have ownS : OwnS w.heap.size W7 [⟨.slice (some ⟨B5, 0, none⟩) 0 0, 45, 3, []⟩, ⟨.slice (some ⟨B7', 0, none⟩) 1 1, 45, 3, [n, c, r]⟩] :=
        (OwnS.consBox (l := [⟨.slice (some ⟨B5, 0, none⟩) 0 0, 45, 3, []⟩]) ⟨own5, by simp, trivial⟩ hE7 (cs := [n, c, r]) (by simpa using hb7') hB7 hE05.size).swap
      refine two W7 _ _ hE07 ownS ?_ _ _ _ (by simp) (by simp) fun v6 W6 hE6 own6 => ?_
      · simp
      refine ⟨hE6, ?_⟩
      simp -implicitDefEqProofs
      refine two2 W6 _ _ hE6 own6 _ _ _ (by simp) (by simp) fun v8 W8 hE8 own8 => ?_
      simp -implicitDefEqProofs
      exact fin _ _ v8 ⟨by simp [h0], by simp [h1], by simp [h2], by simp [h7], by simp [h9], by simp [h10]⟩ (by simp) hE8 own8
  · refine eff_lit si42 (by decide) (by decide) (by simp [Value.cells]) fun B7' W7 hB7 hE7 hb7' _ => ?_
    simp [Value.cells] at hb7'
    have hE07 := hw4.trans' hE7
    have own7 : Own w.heap.size 45 3 W7 (.slice (some ⟨B7', 0, none⟩) 1 1) [n, c, r] := Own.lit hb7' (by simp) (Nat.le_trans hw4.size hB7) (by decide)
    refine ⟨hE07, ?_⟩
    simp -implicitDefEqProofs
    refine eff_lit si42 (by decide) (by decide) (by simp) fun B5 W5 hB5 hE5 hb5 _ => ?_
    simp at hb5
    have hE05 := hE07.trans' hE5
    have ownS : OwnS w.heap.size W5 [⟨.slice (some ⟨B5, 0, none⟩) 0 0, 45, 3, []⟩, ⟨.slice (some ⟨B7', 0, none⟩) 1 1, 45, 3, [n, c, r]⟩] :=
      OwnS.consLit (l := [⟨.slice (some ⟨B7', 0, none⟩) 1 1, 45, 3, [n, c, r]⟩]) ⟨own7, by simp, trivial⟩ hE5 hb5 hB5 hE07.size (by simp) (by decide)
    refine ⟨hE05, ?_⟩
    simp -implicitDefEqProofs
    refine two W5 _ _ hE05 ownS ?_ _ _ _ (by simp) (by simp) fun v6 W6 hE6 own6 => ?_
    · simp
    refine ⟨hE6, ?_⟩
    simp -implicitDefEqProofs
    refine two2 W6 _ _ hE6 own6 _ _ _ (by simp) (by simp) fun v8 W8 hE8 own8 => ?_
    simp -implicitDefEqProofs
    exact fin _ _ v8 ⟨by simp [h0], by simp [h1], by simp [h2], by simp [h7], by simp [h9], by simp [h10]⟩ (by simp) hE8 own8

theorem law5_rest {w0 w : World} {v u o : Value} {B7 B9 : Nat} {ρ : Env} {l : List Obj} {more : Obj} {roots : List ByteArray} {ns : List Int} {a1 a2 a3 n c r : Value} (hE0 : Ext w0 w) (hf : L5 v u o 0 B7 B9 ρ)
    (hl : SlO w v l) (h63 : l.length ≤ 63) (hr : SlS w u roots) (hr62 : roots.length ≤ 62) (hn : SlI w o ns) (hb7 : Blk w B7 #[n, c, r] 45) (hm : ObjC w n c r more) (hb : Blk w B9 #[a1, a2, a3] 26) (hi : ImgC w a1 a2 a3 (linkI l roots)) (he : linkE l roots = 0) :
    ir5_k7.wp ⟨Tryd.prog, 119, ir5_V, []⟩ (retK [.tmp 8] fun e w' => e = .returned (.bool true) ∧ Ext w0 w') (ksOf [.tmp 8] fun e w' => e = .returned (.bool true) ∧ Ext w0 w') ρ w := by
  obtain ⟨h0, h1, h2, h7, h9, h10⟩ := hf
  simp -implicitDefEqProofs [ir5_k7, h1, hr.1.is, hr.1.len, i64w (n := (roots.length : Int) - 1) (by omega)]
  refine loopI (fun ρ' W => ∃ k : Nat, k ≤ roots.length ∧ ρ' 12 = .int .i64 ((k : Int) - 1) ∧ Ext w W ∧ L5 v u o 0 B7 B9 ρ' ∧ Own w.heap.size 9 1 W (ρ' 11) ((roots.drop k).reverse.map Value.string)) (fun ρ' _ => (RowKit.intOf (ρ' 12) + 1).toNat)
    ⟨roots.length, Nat.le_refl _, by simp, ext_refl _, ⟨by simp [h0], by simp [h1], by simp [h2], by simp [h7], by simp [h9], by simp [h10]⟩, by simpa using Own.nil _ _ _ _⟩ ?_
  rintro ρ3 W ⟨k, hk, h12, hEW, ⟨h0, h1, h2, h7, h9, h10⟩, hown⟩
  have rW := hr.ext hEW
  cases k with
  | zero =>
    simp only [List.drop_zero] at hown
    have hback : SlS W (ρ3 11) roots.reverse := ⟨hown.sl (by simp; omega), fun s hs => hr.2 s (List.mem_reverse.1 hs)⟩
    simp -implicitDefEqProofs [ir5_l2, h12, ir5_k6, h0, h2]
    refine (law_turned (hl.ext hEW) (hn.ext hEW) h63).mono ?_
    rintro _ W1 ⟨x, os, rfl, hx, hperm, hE1⟩
    simp -implicitDefEqProofs
    refine (lk_Link hx (hback.ext hE1)).mono ?_
    rintro _ W2 ⟨pa, pb, pc, rfl, hp, hE2, _⟩
    have hlo := (link_ok he).1
    have hsame := link_same (l' := os) (roots' := roots.reverse) he (libOk_perm hlo hperm) (by simpa using (link_ok he).2.1) (fun s => List.mem_reverse) fun q hq _ => hperm.mem_iff.2 hq
    rw [hsame.1]
    rw [hsame.2.1] at hp
    simp -implicitDefEqProofs
    refine eff_var z26 (fun v => by simp) (by simp [Value.cells]) (by simp [Value.cells, isSl_one hp.names.1.is, isSl_one hp.starts.1.is, isSl_one hp.code.is]) sz26 fun B3 W3 hB3 hE3 hb3 _ => ?_
    simp [Value.cells] at hb3
    have hE13 := (hE1.trans' hE2).trans' hE3
    have hEW3 := hEW.trans' hE13
    simp -implicitDefEqProofs [h9, (hb.ext hEW3).cell, hb3.cell]
    refine (ref_Same (hi.ext hEW3) (hp.ext hE3)).mono ?_
    rintro _ W4 ⟨rfl, hE4⟩
    have hEW4 := hEW3.trans' hE4
    simp -implicitDefEqProofs
    exact law5_raw (hE0.trans' hEW4) (o := o) (u := u) ⟨by simp [h0], by simp [h1], by simp [h2], by simp [h7], by simp [h9], by simp [h10]⟩ (hl.ext hEW4) h63 (hr.ext hEW4) (hb7.ext hEW4) (hm.ext hEW4) (hb.ext hEW4) (hi.ext hEW4) he
  | succ k =>
    have hlt : k < roots.length := by omega
    simp -implicitDefEqProofs [ir5_l2, h12, ir5_k1, h1, rW.1.is, rW.1.len, hlt, rW.1.cell k hlt]
    refine eff_lit si22 (by decide) (by decide) (by simp [Value.cells]) fun B4 W4 hB4 hE4 hb4 _ => ?_
    simp [Value.cells] at hb4
    simp -implicitDefEqProofs
    refine eff_append (W0 := w) ri22 (hEW.trans' hE4) (by rfl) (by rfl) (by simpa using hown.ext hE4) (xv := .slice (some ⟨B4, 0, none⟩) 1 1) (news := [.string roots[k]]) (hb4.cells (n := 1) (by simp)) (by simp [Value.oneCell']) (by simp; omega) (by simp; omega) fun v5 W5 hE5 hown5 _ _ => ?_
    simp -implicitDefEqProofs [ir5_k0, h12, i64w (n := (k : Int) - 1) (by omega)]
    refine ⟨⟨k, by omega, by simp, hE5, ⟨by simp [h0], by simp [h1], by simp [h2], by simp [h7], by simp [h9], by simp [h10]⟩, ?_⟩, by omega⟩
    rw [List.drop_eq_getElem_cons (by simpa using hlt)]
    simpa using hown5

theorem law5 {w : World} {v u o n c r : Value} {l : List Obj} {roots : List ByteArray} {ns : List Int} {more : Obj} (hl : SlO w v l) (hr : SlS w u roots) (hn : SlI w o ns) (hm : ObjC w n c r more) :
    Calls Tryd.prog 5 #[v, u, o, .agg #[n, c, r]] w fun e w' => e = .returned (.bool true) ∧ Ext w w' := by
  refine ir5_calls fun ρ h0 h1 h2 h3 => ?_
  simp -implicitDefEqProofs [ir5, h0, h1, h2, h3]
  refine eff_box fun B7 W hB hE hb7 _ => ?_
  simp [h3, Value.cells] at hb7
  have fin : Calls Tryd.prog 14 #[] W fun e w' => e = .returned (.bool true) ∧ Ext w w' := qlinked hE
  have o3 : n.cells = #[n] ∧ c.cells = #[c] ∧ r.cells = #[r] := ⟨by rw [hm.name]; rfl, isSl_cells hm.code.is, isSl_cells hm.rels.is⟩
  simp -implicitDefEqProofs [h0]
  refine (law_few (hl.ext hE)).mono ?_
  rintro _ _ ⟨rfl, rfl⟩
  have stop : ∀ W', Ext w W' → Calls Tryd.prog 14 #[] W' fun e w' => e = .returned (.bool true) ∧ Ext w w' := fun W' h => qlinked h
  by_cases hf : few l = true
  · have h63 : l.length ≤ 63 := by
      simp only [few, Bool.and_eq_true, Bool.or_eq_true, decide_eq_true_eq] at hf; omega
    simp -implicitDefEqProofs [hf, hb7.cell]
    refine eff_lit si42 (by decide) (by decide) (by simp [Value.cells]) fun B2 W2 hB2 hE2 hb2 _ => ?_
    simp [Value.cells] at hb2
    have x2 := hE.trans' hE2
    simp -implicitDefEqProofs
    refine (law_few (slo_one hb2 (hm.ext x2))).mono ?_
    rintro _ _ ⟨rfl, rfl⟩
    by_cases hf2 : few [more] = true
    · simp -implicitDefEqProofs [hf2, h1]
      refine (law_short (hr.ext x2)).mono ?_
      rintro _ _ ⟨rfl, rfl⟩
      by_cases hs : short roots = true
      · have hr62 : roots.length ≤ 62 := by
          simp only [short, Bool.and_eq_true, Bool.or_eq_true, decide_eq_true_eq] at hs; omega
        simp -implicitDefEqProofs [hs, h2, hn.1.is, hn.1.len]
        by_cases h20 : (20 : Int) < (ns.length : Int)
        · simp -implicitDefEqProofs [h20]
          refine (stop _ x2).mono ?_
          rintro _ w3 ⟨rfl, hE3⟩
          simp -implicitDefEqProofs
          exact hE3
        · simp -implicitDefEqProofs [h20, ir5_k8, h0, h1]
          refine (lk_Link (hl.ext x2) (hr.ext x2)).mono ?_
          rintro _ w3 ⟨pa, pb, pc, rfl, hp, hE3, _⟩
          simp -implicitDefEqProofs
          refine eff_var z26 (fun v => by simp) (by simp [Value.cells]) (by simp [Value.cells, isSl_one hp.names.1.is, isSl_one hp.starts.1.is, isSl_one hp.code.is]) sz26 fun B4 W4 hB4 hE4 hb4 _ => ?_
          simp [Value.cells] at hb4
          have x4 := (x2.trans' hE3).trans' hE4
          by_cases he : linkE l roots = 0
          · simp -implicitDefEqProofs [he]
            exact law5_rest (o := o) (u := u) x4 ⟨by simp [h0], by simp [h1], by simp [h2], by simp, by simp, by simp⟩ (hl.ext x4) h63 (hr.ext x4) hr62 (hn.ext x4) (((hb7.ext hE2).ext hE3).ext hE4) (hm.ext x4) hb4 (hp.ext hE4) he
          · have hi : linkI l roots = emptyI := by simp [linkI, he]
            rw [hi] at hp
            have hpl : slLen pa = 0 := hp.names.1.len
            have hpl3 : slLen pc = 0 := hp.code.len
            simp -implicitDefEqProofs [he]
            refine law_linked.mono ?_
            rintro _ w5 ⟨rfl, hE5⟩
            simp -implicitDefEqProofs [(hb4.ext hE5).cell, hp.names.1.is, hp.code.is, hpl, hpl3]
            exact ⟨by decide, x4.trans' hE5⟩
      · have hs' : short roots = false := by simpa using hs
        simp -implicitDefEqProofs [hs']
        refine (stop _ x2).mono ?_
        rintro _ w3 ⟨rfl, hE3⟩
        simp -implicitDefEqProofs
        exact hE3
    · have hf2' : few [more] = false := by simpa using hf2
      simp -implicitDefEqProofs [hf2']
      refine (stop _ x2).mono ?_
      rintro _ w3 ⟨rfl, hE3⟩
      simp -implicitDefEqProofs
      exact hE3
  · have hf' : few l = false := by simpa using hf
    simp -implicitDefEqProofs [hf']
    refine (stop _ hE).mono ?_
    rintro _ w3 ⟨rfl, hE3⟩
    simp -implicitDefEqProofs
    exact hE3
end Go.L16
