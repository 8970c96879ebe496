/- Texts of mine for the claims about layer 17 (heap), joined: EngU. -/
import Derived.Test.YtbopdbinllokkaaGreatJaq
import Derived.Maps.Keyed
set_option linter.all false
set_option linter.unusedSimpArgs false
set_option linter.unusedVariables false
namespace Go.Eng
open Go.RowKit Go.MapKept
section
variable {P : Program} {Q : Ks} {d : Option Nat} {ty : TypeId} {K : Env → World → Prop} {ρ : Env} {w : World}
theorem run_eql_nilP {t te : TypeId} (ht : P.underlying t = some (.pointer te)) (p : Option Addr) : (Op.equal t (.pointer p) (.pointer none)).run P w = .ok p.isNone w := by
  have h : ∀ d : Nat, (Op.equalIn (d + 1) t (.pointer p) (.pointer none)).run P w = .ok p.isNone w := fun d => by
    cases p <;> simp [Op.equalIn, run_underlying ht]
  simp [Op.equal, Op.maxDepth, h 9999]
theorem eff_eqlNilP {t te t2 : TypeId} {x : Operand} {p : Option Addr} (ht : P.underlying t = some (.pointer te)) (hx : evE ρ x = .pointer p) (h : K (updO ρ d (.bool p.isNone)) w) : effW P Q d (.binOp .eql t x (.const (.pointer none)) t2) ty K ρ w := by
  refine effE_ok (v := .bool p.isNone) (w' := w) ?_ h
  have := run_eql_nilP (w := w) ht p
  cases p <;> simp [execOp, effOp, hx, eqGuard, binOp, this]
theorem eff_neqNilP {t te t2 : TypeId} {x : Operand} {p : Option Addr} (ht : P.underlying t = some (.pointer te)) (hx : evE ρ x = .pointer p) (h : K (updO ρ d (.bool (!p.isNone))) w) : effW P Q d (.binOp .neq t x (.const (.pointer none)) t2) ty K ρ w := by
  refine effE_ok (v := .bool (!p.isNone)) (w' := w) ?_ h
  have := run_eql_nilP (w := w) ht p
  cases p <;> simp [execOp, effOp, hx, eqGuard, binOp, this]
theorem eff_invoke {f : FuncId} (h : callB P f = true) {recv : Operand} {name : String} {args : Array Operand} {ats : Array TypeId} {t : TypeId} {v v' : Value} (hr : evE ρ recv = .iface t v)
    (hm : (method (P.types.size + Made.depth) t v name).run P w = .ok (f, v') w) (hk : Calls P f (#[v'] ++ args.map (evE ρ)) w (callK Q d K ρ)) :
    effW P Q d (.call { callee := .invoke recv name, args := args, argTypes := ats }) ty K ρ w := by
  show effE P Q d _ ty K ρ w
  unfold effE
  have hrun : (execOp (evE ρ) (effOp d (.call { callee := .invoke recv name, args, argTypes := ats }) ty)).run P w = .ok (.enter f (#[v'] ++ args.map (evE ρ))) w := by
    unfold callB at h
    split at h
    · rename_i fn hf
      simp only [Bool.and_eq_true, Bool.not_eq_true', beq_eq_false_iff_ne, ne_eq] at h
      have he : ((#[evE ρ recv] ++ args.map (evE ρ)).extract 1 (#[evE ρ recv] ++ args.map (evE ρ)).size) = args.map (evE ρ) := by
        apply Array.ext'
        simp
        exact List.take_of_length_le (by simp)
      have h0 : (#[Value.iface t v] ++ args.map (evE ρ))[0]? = some (Value.iface t v) := by
        rw [Array.getElem?_append_left (by simp)]; rfl
      have hx0 : (args.map (evE ρ)).extract 0 args.size = args.map (evE ρ) := by simp
      cases hb : fn.body with
      | none => simp [hb] at h
      | some c =>
        simp only [execOp, effOp, resolve, Sem.run_bind, Sem.run_pure, Result.andThen_ok, invoke]
        simp [hr, h0, hx0, callMethod, hm, he, callFunc, hf, h.1, hb]
    · cases h
  rw [hrun]
  exact hk.mono fun e w' hh => by cases e <;> exact hh
theorem eff_lenMap {m : Operand} {t kt et : TypeId} {B : Nat} {ps : List (Int × Value)} (ht : P.underlying t = some (.map kt et)) (hm : evE ρ m = .map (some B)) (hb : I.MapB w B ps) (h : K (updO ρ d (.int .i64 ps.length)) w) :
    effW P Q d (.call { callee := .builtin .len, args := #[m], argTypes := #[t] }) ty K ρ w := by
  obtain ⟨es, clock, hb, hst, hes⟩ := hb.ex
  have hl : es.size = ps.length := by
    have := congrArg List.length hes
    simpa using this
  show effE P Q d _ ty K ρ w
  refine effE_ok (v := .int .i64 ps.length) (w' := w) ?_ h
  simp [execOp, effOp, resolve, invoke, builtin, hm, Builtin.len_, run_underlying ht, MapKept.run_getObj_map hb, hl, goInt]
def delI (ps : List (Int × Value)) (k : Int) : List (Int × Value) := ps.filter fun p => decide (p.1 ≠ k)
theorem look_delI (k k' : Int) (ps : List (Int × Value)) : I.lookP (delI ps k) k' = if k = k' then none else I.lookP ps k' := by
  induction ps with
  | nil => simp [delI]
  | cons p l ih =>
    have e : delI (p :: l) k = if p.1 = k then delI l k else p :: delI l k := by
      simp only [delI, List.filter_cons]
      by_cases h : p.1 = k <;> simp [h]
    rw [e, I.look_cons]
    by_cases h : p.1 = k
    · rw [if_pos h, ih]
      by_cases hk : k = k'
      · simp [hk]
      · rw [if_neg hk, if_neg hk, if_neg (fun e' => hk (h.symm.trans e'))]
    · rw [if_neg h, I.look_cons, ih]
      by_cases hp : p.1 = k'
      · rw [if_pos hp, if_pos hp, if_neg (fun e' => h (hp.trans e'.symm))]
      · rw [if_neg hp, if_neg hp]
theorem erase_map {α β : Type} (f : α → β) : ∀ (l : List α) (j : Nat), (l.map f).eraseIdx j = (l.eraseIdx j).map f
  | [], _ => rfl
  | _ :: _, 0 => rfl
  | a :: l, j + 1 => by simp [erase_map f l j]
theorem erase_filter {k : Int} : ∀ {l : List (Int × Value)} {j : Nat}, (l.map (·.1)).Nodup → (l[j]?).map (·.1) = some k → l.eraseIdx j = delI l k
  | [], _, _, h => by simp at h
  | p :: l, 0, hn, h => by
    simp at h
    subst h
    obtain ⟨h1, _⟩ := List.nodup_cons.1 (by simpa using hn : (p.1 :: l.map (·.1)).Nodup)
    simp only [List.eraseIdx_cons_zero, delI, List.filter_cons]
    simp only [ne_eq, not_true_eq_false, decide_false, Bool.false_eq_true, if_false]
    symm
    rw [List.filter_eq_self]
    intro q hq
    have : q.1 ≠ p.1 := fun e => h1 (List.mem_map.2 ⟨q, hq, e⟩)
    simpa using this
  | p :: l, j + 1, hn, h => by
    obtain ⟨h1, h2⟩ := List.nodup_cons.1 (by simpa using hn : (p.1 :: l.map (·.1)).Nodup)
    simp only [List.getElem?_cons_succ] at h
    have ih := erase_filter h2 h
    have hp : p.1 ≠ k := fun e => h1 (by
      obtain ⟨q, hq, he⟩ := Option.map_eq_some_iff.1 h
      exact List.mem_map.2 ⟨q, List.mem_of_getElem? hq, he.trans e.symm⟩)
    rw [List.eraseIdx_cons_succ, ih]
    simp [delI, hp]
theorem I.MapB.nodup {w : World} {B : Nat} {ps : List (Int × Value)} (h : I.MapB w B ps) : (ps.map (·.1)).Nodup := by
  obtain ⟨es, clock, _, hst, hes⟩ := h.ex
  have h3 := ((stamped_iff es clock).1 hst).2.2
  have hk : (es.toList.map fun e => e.key) = ps.map fun p => Value.int .i64 p.1 := by
    have := congrArg (List.map Prod.fst) hes
    simpa [Function.comp_def] using this
  have hn : (ps.map fun p => Value.int .i64 p.1).Nodup := by
    rw [← hk, List.Nodup, List.pairwise_map]; exact h3
  have : (ps.map fun p => Value.int .i64 p.1) = (ps.map (·.1)).map (Value.int .i64) := by simp [Function.comp_def]
  rw [this] at hn
  exact (List.pairwise_map.1 hn).imp fun h e => h (by rw [e])
theorem eff_delete {m k : Operand} {t kt et : TypeId} {B : Nat} {ps : List (Int × Value)} {n : Int} (ht : P.underlying t = some (.map kt et)) (hkt : P.underlying kt = some (.int .i64)) (hm : evE ρ m = .map (some B)) (hk : evE ρ k = .int .i64 n) (hb : I.MapB w B ps)
    (h : ∀ W, Only B w W → I.MapB W B (delI ps n) → K (updO ρ d (.tuple #[])) W) : effW P Q d (.call { callee := .builtin .delete, args := #[m, k], argTypes := #[t, kt] }) ty K ρ w := by
  have hnd := hb.nodup
  obtain ⟨es, clock, hb, hst, hes⟩ := hb.ex
  have hks := I.es_keys hes
  have hk' : IsKey (.int .i64) (.int .i64 n) := by simp [IsKey]
  have only : ∀ o, Only B w { w with heap := w.heap.setIfInBounds B o } := fun o => ⟨rfl, rfl, rfl, by simp, fun i hi => (heap_set hb).2 i hi⟩
  have fin : ∀ W, (Builtin.delete_ #[t, kt] ty #[.map (some B), .int .i64 n]).run P w = .ok (.tuple #[]) W → K (updO ρ d (.tuple #[])) W → effW P Q d (.call { callee := .builtin .delete, args := #[m, k], argTypes := #[t, kt] }) ty K ρ w := by
    intro W hr hk2
    show effE P Q d _ ty K ρ w
    refine effE_ok (v := .tuple #[]) (w' := W) ?_ hk2
    simp [execOp, effOp, resolve, invoke, builtin, hm, hk, hr]
  rcases findNow_spec hk' es.toList 0 hks with ⟨h1, h2⟩ | ⟨j, e, h1, h2, h3⟩
  · refine fin { w with heap := w.heap.setIfInBounds B (.map es clock) } ?_ (h _ (only _) ⟨_, _, (heap_set hb).1, hst, ?_⟩)
    · simp [Builtin.delete_, run_underlying ht, MapKept.run_getObj_map hb, run_checkKey hkt hk', run_findKey hkt h1, run_setObj_map _ hb, Result.andThen]
    · have : delI ps n = ps := by
        unfold delI
        rw [List.filter_eq_self]
        intro p hp
        have : (Value.int .i64 p.1, p.2) ∈ es.toList.map fun e => (e.key, e.val) := by rw [hes]; exact List.mem_map.2 ⟨p, hp, rfl⟩
        obtain ⟨e, he, hpe⟩ := List.mem_map.1 this
        simp only [Prod.mk.injEq] at hpe
        have := h2 e he
        rw [hpe.1] at this
        simpa using this
      rw [this]; exact hes
  · have hjl : j < es.toList.length := (List.getElem?_eq_some_iff.1 h2).1
    have hjs : j < es.size := by simpa using hjl
    have hsub : (es.eraseIdxIfInBounds j).toList = es.toList.eraseIdx j := by
      unfold Array.eraseIdxIfInBounds
      rw [dif_pos hjs]
      simp
    refine fin { w with heap := w.heap.setIfInBounds B (.map (es.eraseIdxIfInBounds j) clock) } ?_ (h _ (only _) ⟨_, _, (heap_set hb).1, stamped_erase hst j, ?_⟩)
    · simp [Builtin.delete_, run_underlying ht, MapKept.run_getObj_map hb, run_checkKey hkt hk', run_findKey hkt h1, run_setObj_map _ hb, Result.andThen]
    · rw [hsub, ← erase_map, hes, erase_map]
      congr 1
      refine erase_filter hnd ?_
      have hj2 : (es.toList.map fun e => (e.key, e.val))[j]? = some (.int .i64 n, e.val) := by
        rw [List.getElem?_map, h2, ← h3]; rfl
      rw [hes, List.getElem?_map] at hj2
      obtain ⟨q, hq, he⟩ := Option.map_eq_some_iff.1 hj2
      rw [hq]
      simp only [Prod.mk.injEq, Value.int.injEq, true_and] at he
      simp [he.1]
end
def goV (b : Bool) (o : Option Value) (d : Nat) (K : Env → World → Prop) (ρ : Env) (w : World) : Prop := if b then onV o (fun v => K (upd ρ d v) w) else K (upd ρ d undef) w
def goE (P : Program) (Q : Ks) (b : Bool) (d : Option Nat) (op : Op) (ty : TypeId) (K : Env → World → Prop) (ρ : Env) (w : World) : Prop := if b then effW P Q d op ty K ρ w else K (updO ρ d undef) w
section
variable {P : Program} {Q : Ks} {K : Env → World → Prop} {ρ : Env} {w : World} {r : List St}
theorem wa2 {g : Option (Nat × Bool)} {d : Nat} {e : Ex} : wps P Q (.asg g d e :: r) K ρ w = goV (gd ρ g) (e.ev ρ w) d (wps P Q r K) ρ w := rfl
theorem we2 {g : Option (Nat × Bool)} {d : Option Nat} {op : Op} {ty : TypeId} : wps P Q (.eff g d op ty :: r) K ρ w = goE P Q (gd ρ g) d op ty (wps P Q r K) ρ w := rfl
@[simp] theorem goV_t {d : Nat} {v : Value} : goV true (some v) d K ρ w = K (upd ρ d v) w := rfl
@[simp] theorem goV_f {o : Option Value} {d : Nat} : goV false o d K ρ w = K (upd ρ d undef) w := rfl
@[simp] theorem goE_t {d : Option Nat} {op : Op} {ty : TypeId} : goE P Q true d op ty K ρ w = effW P Q d op ty K ρ w := rfl
@[simp] theorem goE_f {d : Option Nat} {op : Op} {ty : TypeId} : goE P Q false d op ty K ρ w = K (updO ρ d undef) w := rfl
end
end Go.Eng
