/- Texts of mine for the claims about layer 1 (token), joined: EngP. -/
import Derived.Test.YtmpmccjmcclalaaGreatDoorJao
import Derived.Laws.CopyRow
set_option linter.all false
set_option linter.unusedSimpArgs false
set_option linter.unusedVariables false
/- copy into the call's own slices. -/
namespace Go.Eng
open Go.RowKit
section
variable {P : Program} {Q : Ks} {d : Option Nat} {ty : TypeId} {K : Env → World → Prop} {ρ : Env} {w : World}

theorem only_setRow {w : World} {g : Nat} {cur cur' : Array Value} {t : TypeId} (h : Blk w g cur t) : Only g w (w.setRow g cur') ∧ Blk (w.setRow g cur') g cur' t :=
  ⟨⟨rfl, rfl, rfl, by simp [World.setRow], fun k hk => by simp [World.setRow, Array.getElem?_modify, Ne.symm hk]⟩, ⟨setRow_heap w g cur cur' t (0, 0) h.heap⟩⟩

theorem splice_get (cur news : List Value) (off i n : Nat) (h : i + news.length ≤ n) (hc : off + n ≤ cur.length) :
    ((cur.take (off + i) ++ news ++ cur.drop (off + i + news.length)).drop off).take n = ((cur.drop off).take n).take i ++ news ++ ((cur.drop off).take n).drop (i + news.length) := by
  apply List.ext_getElem?
  intro j
  simp only [List.getElem?_take, List.getElem?_drop, List.getElem?_append, List.length_append, List.length_take, List.length_drop]
  have e1 : min (off + i) cur.length = off + i := by omega
  have e2 : min i (min n (cur.length - off)) = i := by omega
  rw [e1, e2]
  by_cases hj : j < n
  · rw [if_pos hj]
    by_cases h1 : j < i
    · rw [if_pos (by omega), if_pos (by omega), if_pos (by omega), if_pos (by omega), if_pos h1, if_pos h1, if_pos (by omega)]
    · by_cases h2 : j < i + news.length
      · rw [if_pos (by omega), if_neg (by omega), if_pos h2, if_neg h1]
        congr 1; omega
      · rw [if_neg (by omega), if_neg h2, if_pos (by omega)]
        congr 1; omega
  · rw [if_neg hj, if_neg (by omega), if_neg (by omega)]

theorem OwnS.perm {base : Nat} {W : World} {l l' : List SlD} (p : l.Perm l') : OwnS base W l → OwnS base W l' := by
  induction p with
  | nil => exact id
  | cons x p ih =>
    rintro ⟨h1, h2, h3⟩
    exact ⟨h1, fun y hy => h2 y (p.mem_iff.2 hy), ih h3⟩
  | swap x y l => exact fun h => h.swap
  | trans _ _ ih1 ih2 => exact fun h => ih2 (ih1 h)
theorem OwnS.rot3 {base : Nat} {W : World} {a b c : SlD} {l : List SlD} (h : OwnS base W (a :: b :: c :: l)) : OwnS base W (c :: a :: b :: l) :=
  h.perm ((List.Perm.cons a (List.Perm.swap c b l)).trans (List.Perm.swap c a (b :: l)))

/-- The statements first, what stands behind them apart: keeps the kernel from looking into what stands behind. -/
theorem wps_split {P : Program} {Q : Ks} {l : List St} {K : Env → World → Prop} {ρ ρ1 : Env} {w w1 : World} (h : wps P Q l (fun ρ' w' => ρ' = ρ1 ∧ w' = w1) ρ w) (hk : K ρ1 w1) : wps P Q l K ρ w :=
  wps_mono (fun _ _ _ h => h) (fun h => h) ⟨fun h => h, fun h => h⟩ l (fun _ _ ⟨e1, e2⟩ => by subst e1; subst e2; exact hk) h

/-- copy into a part of the first of the call's own slices. -/
theorem eff_copyS {t e bytes : Nat} (hi : rowInfo P t = some (e, 1, bytes)) {base : Nat} (hbase : base ≤ w.heap.size) {x y : Operand} {sv xv : Value} {i : Nat} {xs news : List Value} {l : List SlD}
    (hx : evE ρ x = slSub sv 1 i (slLen sv) (slCap sv)) (hy : evE ρ y = xv) (hown : OwnS base w (⟨sv, e, 1, xs⟩ :: l)) (hnew : Cells w xv 1 news) (h0 : 0 < news.length) (h1 : ∀ u ∈ news, u.oneCell' = true) (hfit : i + news.length ≤ xs.length)
    (h : ∀ W, Below base w W → OwnS base W (⟨sv, e, 1, xs.take i ++ news ++ xs.drop (i + news.length)⟩ :: l) → K (updO ρ d (.int .i64 news.length)) W) :
    effW P Q d (.call { callee := .builtin .copy, args := #[x, y], argTypes := #[t, t] }) ty K ρ w := by
  obtain ⟨h1', h2, h3⟩ := hown
  have hlm := hnew.len
  unfold rowInfo at hi
  split at hi
  · rename_i e' hu
    simp only [Option.bind_eq_some_iff] at hi
    obtain ⟨inf, hie, z, hz, hc⟩ := hi
    split at hc
    · rename_i hzs
      simp only [Option.some.injEq, Prod.mk.injEq] at hc
      obtain ⟨rfl, hs1, _⟩ := hc
      have hsz : (P.info? e').map (·.size) = some 1 := by rw [hie]; simpa using hs1
      rcases h1' with ⟨rfl, rfl⟩ | ⟨g, off, n, cap, cur, rfl, hb, hg, hn, hnc, hm, hcs, ht⟩
      · simp only [List.length_nil] at hfit; omega
      · dsimp only at hg hn hcs ht
        rcases isSl_cases hnew.is with ⟨b, o, m, c, rfl, hmc⟩ | rfl | ⟨b, o, sp, rfl⟩
        rotate_left 2
        · simp only [slLen] at hlm; omega
        · have hb0 : Blk w g cur e' := ⟨hg⟩
          simp only [slLen] at hlm
          have hsub : slSub (.slice (some ⟨g, off, none⟩) n cap) 1 i (slLen (.slice (some ⟨g, off, none⟩) n cap)) (slCap (.slice (some ⟨g, off, none⟩) n cap)) = .slice (some ⟨g, off + i, none⟩) (n - i) (cap - i) := by
            simp only [slSub, slLen, slCap]
            have : ¬ cap = i := by omega
            simp [this]
          have hr := run_copy_row P w t t ty e' g (off + i) (n - i) (cap - i) ⟨b, o, none⟩ m c cur e' news hu hsz hg (by rw [hlm]; simp [Nat.min_def]; omega) (fun j v hv => by
            obtain ⟨hj, rfl⟩ := List.getElem?_eq_some_iff.1 hv
            have := hnew.cell j hj
            simpa [slAddr] using this) (by omega) h1
          obtain ⟨hO, hB⟩ := only_setRow (cur' := (cur.toList.take (off + i) ++ news ++ cur.toList.drop (off + i + news.length)).toArray) hb0
          refine effE_ok (v := .int .i64 news.length) (w' := w.setRow g (cur.toList.take (off + i) ++ news ++ cur.toList.drop (off + i + news.length)).toArray) ?_ (h _ (only_below hO hb) ⟨.inr ⟨g, off, n, cap, _, rfl, hb, hB.heap, ?_, hnc, hm, ?_, ?_⟩, h2, h3.imp fun y hy hyo => hyo.kept (only_grownBy hO) ?_⟩)
          · rw [hsub] at hx
            simp only [execOp, effOp, resolve, invoke, builtin, Sem.run_bind, Sem.run_pure, Result.andThen_ok, List.map_toArray, List.map_cons, List.map_nil, hx, hy, hr]
            rfl
          · simp only [List.length_append, List.length_take, List.length_drop]; omega
          · simp only [List.size_toArray, List.length_append, List.length_take, List.length_drop, Array.length_toList]; omega
          · have := splice_get cur.toList news off i n (by omega) (by rw [Array.length_toList]; omega)
            simp only [Nat.mul_one] at ht ⊢
            rw [List.toList_toArray, this, ht]
          · have := (h2 y hy).symm
            simpa [Apart, Value.ownBlock] using this
        · simp only [slLen] at hlm; omega
    · cases hc
  · cases hi
end
end Go.Eng
