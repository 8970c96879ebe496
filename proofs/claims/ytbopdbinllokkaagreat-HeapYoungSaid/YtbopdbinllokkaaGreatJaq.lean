/- Texts of mine for the claims about layer 17 (heap), joined: EngT. -/
import Derived.Test.YtbopdbinllokkaaGreatJap
set_option linter.all false
set_option linter.unusedSimpArgs false
set_option linter.unusedVariables false
namespace Go.Eng.I
open Go.Eng
open Go.RowKit Go.MapKept
structure RangeB (w : World) (R B : Nat) (ps : List (Int × Value)) (vis : List Int) (cur : Option (Int × Value)) : Prop where
  ex : ∃ (es : Array MapEntry) (clock since : Nat) (seen : Array Nat) (c0 : Nat), w.heap[B]? = some (.map es clock) ∧ Stamped es clock ∧ es.toList.map (fun e => (e.key, e.val)) = ps.map (fun p => (Value.int .i64 p.1, p.2)) ∧
    w.heap[R]? = some (.mapIter (some B) since seen c0) ∧ (∀ x ∈ es.toList, x.born < since) ∧ since ≤ c0 ∧ since ≤ clock ∧ (∀ e ∈ es.toList, ∀ k, e.key = .int .i64 k → (seen.contains e.born = true ↔ k ∈ vis)) ∧
    (∀ k v, cur = some (k, v) → c0 = clock ∧ ∃ e ∈ es.toList, e.key = .int .i64 k ∧ e.val = v ∧ ∃ s : Array Nat, seen = s.push e.born)
theorem RangeB.block {w w' : World} {R B : Nat} {ps : List (Int × Value)} {vis : List Int} {cur : Option (Int × Value)} (h : RangeB w R B ps vis cur) (hB : w'.heap[B]? = w.heap[B]?) (hR : w'.heap[R]? = w.heap[R]?) : RangeB w' R B ps vis cur := by
  obtain ⟨es, clock, since, seen, c0, h1, h2, h3, h4, r⟩ := h.ex
  exact ⟨es, clock, since, seen, c0, hB.trans h1, h2, h3, hR.trans h4, r⟩
theorem RangeB.lt {w : World} {R B : Nat} {ps : List (Int × Value)} {vis : List Int} {cur : Option (Int × Value)} (h : RangeB w R B ps vis cur) : B < w.heap.size ∧ R < w.heap.size := by
  obtain ⟨es, clock, since, seen, c0, h1, h2, h3, h4, r⟩ := h.ex
  exact ⟨(Array.getElem?_eq_some_iff.1 h1).1, (Array.getElem?_eq_some_iff.1 h4).1⟩
theorem inj_nodup {α β : Type} {f : α → β} : ∀ {l : List α}, (l.map f).Nodup → ∀ {a b : α}, a ∈ l → b ∈ l → f a = f b → a = b
  | x :: l, hn, a, b, ha, hb, he => by
    obtain ⟨h1, h2⟩ := List.nodup_cons.1 (by simpa using hn : (f x :: l.map f).Nodup)
    rcases List.mem_cons.1 ha with ha' | ha'
    · rcases List.mem_cons.1 hb with hb' | hb'
      · rw [ha', hb']
      · subst ha'; exact absurd (List.mem_map.2 ⟨b, hb', he.symm⟩) h1
    · rcases List.mem_cons.1 hb with hb' | hb'
      · subst hb'; exact absurd (List.mem_map.2 ⟨a, ha', he⟩) h1
      · exact inj_nodup h2 ha' hb' he
section
variable {P : Program} {Q : Ks} {d : Option Nat} {ty : TypeId} {K : Env → World → Prop} {ρ : Env} {w : World}
theorem eff_range {t kt et : TypeId} {x : Operand} {B : Nat} {ps : List (Int × Value)} (ht : P.underlying t = some (.map kt et)) (hx : evE ρ x = .map (some B)) (hb : MapB w B ps)
    (h : ∀ R W, R = w.heap.size → Ext w W → RangeB W R B ps [] none → K (updO ρ d (.pointer (some ⟨R, 0, none⟩))) W) : effW P Q d (.range t x) ty K ρ w := by
  obtain ⟨es, clock, hb, hst, hes⟩ := hb.ex
  have hlt := (Array.getElem?_eq_some_iff.1 hb).1
  refine effE_ok (v := .pointer (some ⟨w.heap.size, 0, none⟩)) (w' := w.alloc (.mapIter (some B) clock #[] clock)) ?_ (h _ _ rfl (ext_alloc _ _) ⟨es, clock, clock, #[], clock, ?_, hst, hes, heap_alloc_new _ _, ((stamped_iff es clock).1 hst).1, Nat.le_refl _, Nat.le_refl _, by simp, by simp⟩)
  · simp only [execOp, effOp, hx, Sem.run_bind, run_range_map w t kt et B es clock ht hb, Result.andThen_ok, Sem.run_pure]
  · rw [heap_alloc_old _ _ hlt, hb]
theorem eff_next {it : Operand} {R B : Nat} {ps : List (Int × Value)} {vis : List Int} {cur : Option (Int × Value)} (hit : evE ρ it = .pointer (some ⟨R, 0, none⟩)) (hr : RangeB w R B ps vis cur)
    (h0 : (∀ k, k ∈ ps.map (·.1) → k ∈ vis) → K (updO ρ d (.tuple #[.bool false])) w)
    (h1 : ∀ k v W, (k, v) ∈ ps → k ∉ vis → Only R w W → RangeB W R B ps (k :: vis) (some (k, v)) → K (updO ρ d (.tuple #[.bool true, .int .i64 k, v])) W) : effW P Q d (.next it false) ty K ρ w := by
  obtain ⟨es, clock, since, seen, c0, hb, hst, hes, hR, hold, hsc, hscl, hvis, _⟩ := hr.ex
  have hBR : B ≠ R := by rintro rfl; rw [hb] at hR; cases hR
  have hks := es_keys hes
  have inps : ∀ e ∈ es.toList, ∃ k, e.key = .int .i64 k ∧ (k, e.val) ∈ ps := by
    intro e he
    have : (e.key, e.val) ∈ ps.map fun p => (Value.int .i64 p.1, p.2) := by rw [← hes]; exact List.mem_map.2 ⟨e, he, rfl⟩
    obtain ⟨p, hp, hpe⟩ := List.mem_map.1 this
    simp only [Prod.mk.injEq] at hpe
    exact ⟨p.1, hpe.1.symm, by rw [← hpe.2]; exact hp⟩
  rcases run_next_at (P := P) w ty R B since c0 seen es clock hR hb hold hsc with ⟨hl, hrun⟩ | ⟨e, he, w1, hw1, hrun⟩
  · refine effE_ok (v := _) (w' := w) ?_ (h0 ?_)
    · simp only [execOp, effOp, hit, Sem.run_bind, hrun, Result.andThen_ok, Sem.run_pure]
    · intro k hk
      obtain ⟨p, hp, rfl⟩ := List.mem_map.1 hk
      have : (Value.int .i64 p.1, p.2) ∈ es.toList.map fun e => (e.key, e.val) := by rw [hes]; exact List.mem_map.2 ⟨p, hp, rfl⟩
      obtain ⟨e, he, hpe⟩ := List.mem_map.1 this
      simp only [Prod.mk.injEq] at hpe
      refine (hvis e he p.1 hpe.1).1 ?_
      cases hc : seen.contains e.born with
      | true => rfl
      | false =>
        have : e ∈ leftOf es seen := by unfold leftOf; rw [Array.mem_filter]; exact ⟨Array.mem_toList_iff.1 he, by rw [hc]; rfl⟩
        have h0 : 0 < (leftOf es seen).size := Array.size_pos_of_mem this
        omega
  · have he2 : e ∈ es.toList ∧ seen.contains e.born = false := by
      rw [Array.mem_toList_iff] at he
      unfold leftOf at he
      rw [Array.mem_filter] at he
      exact ⟨Array.mem_toList_iff.2 he.1, by have := he.2; simp only [Bool.not_eq_true'] at this; exact this⟩
    obtain ⟨k, hk, hkp⟩ := inps e he2.1
    have hsz : R < w1.heap.size := by rcases hw1 with rfl | rfl <;> exact (Array.getElem?_eq_some_iff.1 hR).1
    have hw1h : w1.heap = w.heap := by rcases hw1 with rfl | rfl <;> rfl
    refine effE_ok (v := .tuple #[.bool true, e.key, e.val]) (w' := ChangeMaps.setBlock w1 R (.mapIter (some B) since (seen.push e.born) clock)) ?_ ?_
    · simp only [execOp, effOp, hit, Sem.run_bind, hrun, Result.andThen_ok, Sem.run_pure]
    · rw [hk]
      refine h1 k e.val _ hkp (fun hv => ?_) ?_ ⟨es, clock, since, seen.push e.born, clock, ?_, hst, hes, ?_, hold, hscl, hscl, ?_, ?_⟩
      · rw [(hvis e he2.1 k hk).2 hv] at he2; cases he2.2
      · refine ⟨?_, ?_, ?_, ?_, fun i hi => ?_⟩
        · rcases hw1 with rfl | rfl <;> rfl
        · rcases hw1 with rfl | rfl <;> rfl
        · rcases hw1 with rfl | rfl <;> rfl
        · simp [ChangeMaps.setBlock, hw1h]
        · simp only [ChangeMaps.setBlock, hw1h]
          rw [Array.getElem?_setIfInBounds_ne (Ne.symm hi)]
      · simp only [ChangeMaps.setBlock, hw1h]
        rw [Array.getElem?_setIfInBounds_ne (Ne.symm hBR)]
        exact hb
      · simp only [ChangeMaps.setBlock]
        rw [Array.getElem?_setIfInBounds_self_of_lt hsz]
      · intro e' he' k' hk'
        obtain ⟨st1, st2, st3⟩ := (stamped_iff es clock).1 hst
        have h2 := hvis e' he' k' hk'
        have h3 : e'.born = e.born ↔ k' = k := by
          constructor
          · intro hbn
            have := inj_nodup (f := MapEntry.born) st2 he' he2.1 hbn
            subst this
            rw [hk] at hk'; cases hk'; rfl
          · rintro rfl
            have := inj_nodup (f := MapEntry.key) (by rw [List.Nodup, List.pairwise_map]; exact st3) he' he2.1 (hk'.trans hk.symm)
            rw [this]
        rw [Array.contains_push, Bool.or_eq_true, h2, beq_iff_eq, List.mem_cons, h3]
        exact Or.comm
      · rintro k' v' h; cases h
        exact ⟨rfl, e, he2.1, hk, rfl, seen, rfl⟩
theorem eff_entry {it : Operand} {R B : Nat} {ps : List (Int × Value)} {vis : List Int} {k : Int} {v : Value} (hit : evE ρ it = .pointer (some ⟨R, 0, none⟩)) (hr : RangeB w R B ps vis (some (k, v)))
    (h : K (updO ρ d (.tuple #[.int .i64 k, v])) w) : effW P Q d (.entry it) ty K ρ w := by
  obtain ⟨es, clock, since, seen, c0, hb, hst, hes, hR, hold, hsc, _, hvis, hcur⟩ := hr.ex
  obtain ⟨rfl, e, he, hk, hv, s, rfl⟩ := hcur k v rfl
  have hrun := run_entry_at (P := P) w R B since s es c0 e hR hb he ((stamped_iff es c0).1 hst).2.1
  rw [hk, hv] at hrun
  refine effE_ok (v := .tuple #[.int .i64 k, v]) (w' := w) ?_ h
  simp only [execOp, effOp, hit, Sem.run_bind, hrun, Result.andThen_ok, Sem.run_pure]
end
end Go.Eng.I
