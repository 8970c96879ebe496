/- Texts of mine for the claims about layer 1 (token), joined: L01B. -/
import Derived.Test.YtmpmccjmcclalaaGreatDoorJas
import Derived.Test.YtmpmccjmcclalaaGreatDoorShelf
import Derived.Test.YtmpmccjmcclalaaGreatDoorJar
import Derived.Lib.Walk
import Derived.WalkKit
import Derived.Laws.Externs
import Derived.Laws.Pointers
set_option linter.all false
set_option linter.unusedSimpArgs false
set_option linter.unusedVariables false
/- Layer 1: contracts of the Builder's writing methods. -/
namespace Go.L01
open Go Go.Eng Go.RowKit Go.Proofs
set_option maxRecDepth 100000
set_option maxHeartbeats 2000000

theorem cb70 : callB Tryz.prog 70 = true := by kernel_rfl
theorem sz66 : sizeIs Tryz.prog 66 1 = true := by kernel_rfl
theorem sz67 : sizeIs Tryz.prog 67 1 = true := by kernel_rfl
theorem si67 : sliceInfo Tryz.prog 67 = some (5, 1) := by kernel_rfl
theorem info69 : ∃ j, Tryz.prog.info? 69 = some j ∧ j.size = 2 := by
  obtain ⟨j, h1, h2⟩ := Option.map_eq_some_iff.1 Tryz.extra169.sizeBuilder
  exact ⟨j, h1, h2⟩
theorem info5 : ∃ i, Tryz.prog.info? 5 = some i ∧ i.zero = some (.int .u8 0) ∧ i.size = 1 ∧ i.bytes = 1 := by
  have h := Tryz.extra169.infoByte
  obtain ⟨i, h1, h2⟩ := Option.map_eq_some_iff.1 h
  simp only [Prod.mk.injEq] at h2
  exact ⟨i, h1, h2.1, h2.2.1, h2.2.2⟩

/-- A Builder that holds some bytes. -/
abbrev Bd (B b : Nat) (bs : Bs) (w : World) : Prop := Lib.IsBuilder 69 5 B b (bs.map encB) w
theorem byteCells_enc (l : Bs) : Lib.byteCells l = l.map encB := by
  simp [Lib.byteCells, encB]
theorem strCells_enc (s : ByteArray) : Lib.strCells s = s.data.toList.map encB := by
  simp [Lib.strCells, encB]

theorem b_used (b : Nat) (w : World) (h0 : w.cell? ⟨b, 0, none⟩ = some (.pointer (some ⟨b, 0, none⟩))) :
    Calls Tryz.prog 70 #[.pointer (some ⟨b, 0, none⟩)] w fun e w' => e = .returned (.tuple #[]) ∧ w' = w := by
  obtain ⟨j, hj, _⟩ := info69
  go_enter Tryz.func70, Tryz.ntmps70
  go_wp2
  rw [Lib.run_neq_ptr_same w _ Tryz.underlying66 hj]
  go_wp2
  go_end0
  exact ⟨rfl, rfl⟩
theorem b_fresh (b : Nat) (w : World) (h0 : w.cell? ⟨b, 0, none⟩ = some (.pointer none)) (hsh : w.shape? b = some (69, 2)) (hfz : w.frozen? ⟨b, 0, none⟩ = false) :
    Calls Tryz.prog 70 #[.pointer (some ⟨b, 0, none⟩)] w fun e w' => e = .returned (.tuple #[]) ∧ w' = w.setCell ⟨b, 0, none⟩ (.pointer (some ⟨b, 0, none⟩)) := by
  obtain ⟨j, hj, hjs⟩ := info69
  go_enter Tryz.func70, Tryz.ntmps70
  go_wp2
  rw [Lib.run_to_unsafe w ⟨b, 0, none⟩ Tryz.underlying66 Tryz.underlying114 hj (by rw [hjs]; decide) hsh (Nat.zero_lt_succ 1)]
  simp only [Result.andThen]
  rw [Oper.upon_value]
  go_wp2
  rw [run_callFunc_extern Tryz.func89 (by kernel_rfl) (by kernel_rfl) (by kernel_rfl) (e := Extern.AbiNoEscape.same) (by kernel_rfl), Lib.run_noEscape]
  simp only [Result.andThen]
  rw [Oper.upon_value]
  go_wp2
  rw [Lib.run_from_unsafe w ⟨b, 0, none⟩ Tryz.underlying114 Tryz.underlying66 hj hsh Tryz.extra169.liesBuilder]
  simp only [Result.andThen]
  rw [Oper.upon_value]
  go_wp2
  go_end0
  exact ⟨rfl, rfl⟩

theorem b_check {w : World} {B b : Nat} {bs : List Value} (h : Lib.IsBuilder 69 5 B b bs w) :
    Calls Tryz.prog 70 #[.pointer (some ⟨b, 0, none⟩)] w fun e w' => e = .returned (.tuple #[]) ∧ Lib.BuilderAt 69 5 B b (.pointer (some ⟨b, 0, none⟩)) bs w' ∧ Below B w w' := by
  rcases h with h | h
  · refine (b_fresh b w h.cell0 h.shape h.frozen0).mono ?_
    rintro _ _ ⟨rfl, rfl⟩
    exact ⟨rfl, h.used _, (Below.refl B w).setCell (p := ⟨b, 0, none⟩) h.1 _⟩
  · refine (b_used b w h.cell0).mono ?_
    rintro _ _ ⟨rfl, rfl⟩
    exact ⟨rfl, h, Below.refl B _⟩

theorem put_at {w : World} {B b : Nat} {p v v' : Value} {bs' : List Value} (hB : B ≤ b) (hb : Blk w b #[p, v] 69) (hown : w.ownsRow B 5 1 v' bs'.length bs') : ∀ W, Only b w W → Blk W b #[p, v'] 69 → Lib.BuilderAt 69 5 B b p bs' W := by
  intro W hO hW
  have hne := Lib.ownBlock_ne hown hb.heap (by decide)
  exact ⟨hB, v', hW.heap, hown.kept (only_grownBy hO) (.inr hne), hne⟩

theorem b_byte {w : World} {B b : Nat} {bs : Bs} (c : UInt8) (h : Bd B b bs w) (hlen : bs.length ≤ 100000000) (hBw : B ≤ w.heap.size) :
    Calls Tryz.prog 52 #[.pointer (some ⟨b, 0, none⟩), encB c] w fun e w' => e = .returned .nilIface ∧ Bd B b (bs ++ [c]) w' ∧ Below B w w' := by
  refine ir52_calls fun ρ h0 h1 => ?_
  simp [ir52, h0, cb70]
  refine (b_check h).mono ?_
  rintro _ w1 ⟨rfl, ⟨hB, v, hbk, hown, hne⟩, hb1⟩
  have hb : Blk w1 b #[.pointer (some ⟨b, 0, none⟩), v] 69 := ⟨hbk⟩
  simp [h0, h1, hb.cell]
  refine eff_lit si67 (by decide) (by decide) (by simp [Value.cells, encB]) fun B2 W2 hB2 hE2 hb2 _ => ?_
  simp [Value.cells, encB] at hb2
  obtain ⟨i, hi, hz, hs, hby⟩ := info5
  have hBs := hb1.size
  have hlt := hb.lt
  obtain ⟨v', W3, hr, hown3, hg3, _⟩ := run_append_own (P := Tryz.prog) W2 B 67 67 5 i (.int .u8 0) 1 1 Tryz.underlying67 hi hz hs hby rfl (by decide) v bs.length (bs.map encB) (by
    have := hown.kept (w' := W2) (row := none) ⟨hE2.os, hE2.tape, hE2.output, hE2.size, fun k hk _ => hE2.block k hk⟩ (by cases v.ownBlock <;> simp)
    simpa using this) ⟨B2, 0, none⟩ 1 1 [.int .u8 c.toNat] rfl (fun j u hj => by
      match j, hj with
      | 0, hj => simp at hj; subst hj; simp [hb2.cell]) (fun u hu => by simp at hu; subst hu; rfl) (by simp only [maxLen]; omega) (by omega) (by have := hE2.size; omega)
  have hown3' : W3.ownsRow B 5 1 v' ((bs ++ [c]).map encB).length ((bs ++ [c]).map encB) := by simpa [encB] using hown3
  have hb3 : Blk W3 b #[.pointer (some ⟨b, 0, none⟩), v] 69 := ⟨(hg3.block b (by have := hE2.size; omega) (fun e => hne e.symm)).trans ((hE2.block b hlt).trans hbk)⟩
  refine effE_ok (v := v') (w' := W3) (by simp [execOp, effOp, resolve, invoke, builtin, hr]) ?_
  have hv1 : v'.cells = #[v'] ∧ v'.oneCell = true := by
    rcases hown3'.2 with ⟨rfl, _⟩ | ⟨g, cap, cur, rfl, _⟩ <;> exact ⟨rfl, rfl⟩
  simp
  refine eff_store1 (B := b) (i := 1) (by simp) hb3 (by simp) (by simp; exact hv1.1) (by simp; exact hv1.2) sz67 fun W4 hO4 hb4 => ?_
  simp at hb4 ⊢
  refine ⟨.inr (put_at hB hb3 hown3' W4 hO4 hb4), ?_⟩
  have h2 : Below B w W2 := Below.trans hb1 (hE2.mono (by omega))
  have h3 : Below B w W3 := h2.grown hg3 (by have := hE2.size; omega) fun k hk => (hown.lt k hk).1
  exact Below.trans h3 (only_below hO4 hB)

theorem b_str {w : World} {B b : Nat} {bs : Bs} (s : Bs) (h : Bd B b bs w) (hlen : bs.length + s.length ≤ 100000000) (hBw : B ≤ w.heap.size) :
    Calls Tryz.prog 53 #[.pointer (some ⟨b, 0, none⟩), .string (mkS s)] w fun e w' => e = .returned (.tuple #[.int .i64 s.length, .nilIface]) ∧ Bd B b (bs ++ s) w' ∧ Below B w w' := by
  refine ir53_calls fun ρ h0 h1 => ?_
  simp [ir53, h0, cb70]
  refine (b_check h).mono ?_
  rintro _ w1 ⟨rfl, ⟨hB, v, hbk, hown, hne⟩, hb1⟩
  have hb : Blk w1 b #[.pointer (some ⟨b, 0, none⟩), v] 69 := ⟨hbk⟩
  simp [h0, h1, hb.cell]
  obtain ⟨i, hi, hz, hs, hby⟩ := info5
  have hBs := hb1.size
  have hlt := hb.lt
  have hsz : (mkS s).size = s.length := rfl
  obtain ⟨v', W3, hr, hown3, hg3, _⟩ := Lib.run_append_own_string (P := Tryz.prog) w1 B 67 9 67 5 i Tryz.underlying67 Tryz.underlying9 hi hz hs hby v bs.length (bs.map encB) (by simpa using hown) (mkS s) (by rw [hsz]; simp only [maxLen]; omega) (by rw [hsz]; omega) (by omega)
  have hown3' : W3.ownsRow B 5 1 v' ((bs ++ s).map encB).length ((bs ++ s).map encB) := by simpa [strCells_enc] using hown3
  have hb3 : Blk W3 b #[.pointer (some ⟨b, 0, none⟩), v] 69 := ⟨(hg3.block b hlt (fun e => hne e.symm)).trans hbk⟩
  refine effE_ok (v := v') (w' := W3) (by simp [execOp, effOp, resolve, invoke, builtin, hr]) ?_
  have hv1 : v'.cells = #[v'] ∧ v'.oneCell = true := by
    rcases hown3'.2 with ⟨rfl, _⟩ | ⟨g, cap, cur, rfl, _⟩ <;> exact ⟨rfl, rfl⟩
  simp
  refine eff_store1 (B := b) (i := 1) (by simp) hb3 (by simp) (by simp; exact hv1.1) (by simp; exact hv1.2) sz67 fun W4 hO4 hb4 => ?_
  simp [h1] at hb4 ⊢
  refine ⟨.inr (put_at hB hb3 hown3' W4 hO4 hb4), ?_⟩
  have h3 : Below B w W3 := hb1.grown hg3 (by omega) fun k hk => (hown.lt k hk).1
  exact Below.trans h3 (only_below hO4 hB)
theorem b_string {w : World} {B b : Nat} {bs : Bs} (h : Bd B b bs w) (hBw : B ≤ w.heap.size) :
    Calls Tryz.prog 55 #[.pointer (some ⟨b, 0, none⟩)] w fun e w' => e = .returned (.string (mkS bs)) ∧ Below B w w' := by
  have h' : Lib.IsBuilder 69 5 B b (Lib.byteCells bs) w := by rw [byteCells_enc]; exact h
  exact (Tryz.b_string B b bs w h' hBw).mono fun e w' hh => ⟨hh.1, hh.2⟩
theorem b_len {w : World} {B b : Nat} {bs : Bs} (h : Bd B b bs w) :
    Calls Tryz.prog 54 #[.pointer (some ⟨b, 0, none⟩)] w fun e w' => e = .returned (.int .i64 bs.length) ∧ w' = w :=
  (Tryz.b_len B b (bs.map encB) w h).mono fun e w' hh => ⟨by rw [hh.1]; simp, hh.2⟩
end Go.L01
