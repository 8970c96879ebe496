/- The law HeapYoung returns true for all arguments, and leaves them as they were. -/
import Derived.Test.YtbopdbinllokkaaGreatJay
import Derived.Test.YtbopdbinllokkaaGreatRw
set_option linter.all false
set_option linter.unusedSimpArgs false
set_option linter.unusedVariables false
namespace Go.Proofs.YtbopdbinllokkaaGreat
open Go Go.ChangeShapes Go.WideShapes Go.ChangeAt Go.RowKit Go.Eng Go.L17
set_option maxRecDepth 100000
namespace HeapYoung
theorem args_ok : ∀ t ∈ Tryz.f8.params.toList, Tryz.prog.readableRec t = true ∧ t < Tryz.prog.types.size := by
  rw [Tryz.params8]
  intro t ht
  simp at ht
  rcases ht with rfl | rfl | rfl <;> exact ⟨by kernel_rfl, of_decide_eq_true (by kernel_rfl)⟩
theorem contract (H : Type) (enc : TypeId × Value → H) (W : World) (base : Nat) (args : Array Value) (ds gs : List (DataW H)) (before : List MemPlace)
    (hval : ∀ (j : Nat) t v, Tryz.f8.params[j]? = some t → args[j]? = some v → Value.okWide Tryz.prog W .any base t v)
    (hW : DataW.Whole enc Tryz.prog Tryz.f8.params.toList Rows.heapYoungSpec.vars false W args.toList ds gs before) :
    Calls Tryz.prog 8 args W fun e W' => ∃ v, e = .returned v ∧ Rows.heapYoungSpec.post enc Tryz.prog Tryz.f8 false true false false W args v W' := by
  refine row_post rfl rfl args_ok (fun l hl => ?_) hW ?_
  · rw [Tryz.params8] at hl
    match l, hl with
    | [d0, d1, d2], _ => rfl
  · obtain ⟨p, q, hA, hV, rfl, _, _⟩ := hW
    obtain ⟨rfl, rfl⟩ := trodVars_none hV
    rw [Tryz.params8] at hA hval
    obtain ⟨v0, vs0, d0, ds0, p0, q0, hargs, rfl, rfl, h0, r0⟩ := trodAll_cons hA
    obtain ⟨v1, vs1, d1, ds1, p1, q1, rfl, rfl, rfl, h1, r1⟩ := trodAll_cons r0
    obtain ⟨v2, vs2, d2, ds2, p2, q2, rfl, rfl, rfl, h2, r2⟩ := trodAll_cons r1
    obtain ⟨rfl, rfl, rfl⟩ := trodAll_nil r2
    obtain rfl : args = #[v0, v1, v2] := by cases args; simp_all
    obtain ⟨n0, rfl, rfl, rfl, wn0⟩ := open_int und3 (hval 0 3 v0 rfl rfl) h0
    obtain ⟨x1, hx1⟩ := openOps (hval 1 22 v1 rfl rfl) h1
    obtain ⟨x2, hx2⟩ := openI1 (hval 2 35 v2 rfl rfl) h2
    exact law8 hx1 hx2 n0
noncomputable def wits : Array Value := #[.int .i64 0, .slice none 0 0, .slice none 0 0]
noncomputable def w0 (os : Os) : World := World.holding Tryz.prog os ⟨#[], #[], []⟩
theorem reads (os : Os) {H : Type} (enc : TypeId × Value → H) : ∃ places, DataW.whole enc Tryz.prog ((w0 os).forCall (fun _ _ => 0) ⟨#[], wits, []⟩).memory Tryz.f8.params.toList Rows.heapYoungSpec.vars false wits.toList 8 = some ([.lit (.int .i64 0), .nil, .nil], [], places) :=
  ⟨[], by kernel_rfl⟩
theorem lifted (os : Os) (started : os.Started) (H : Type) (enc : TypeId × Value → H) (F : Stop.Interp) :
    ReturnsInHanded {} Tryz.checked os 8 .any ((OpenSpec.ofChange Rows.heapYoungSpec).preRow enc Tryz.prog Tryz.f8 Rows.heapYoungRow.domain false Rows.heapYoungRow.laid) (((OpenSpec.ofChange Rows.heapYoungSpec).at F).post enc Tryz.prog Tryz.f8 false true false false) := by
  obtain ⟨places, hx⟩ := reads os enc
  refine returnsInHanded_of_row (C := Tryz.checked) (s := OpenSpec.ofChange Rows.heapYoungSpec) own started (by kernel_rfl) Tryz.func8
    (witness_row_atRef (enc := enc) (C := Tryz.checked) false (w0 os) wits rfl (by kernel_rfl) (by kernel_rfl) (by kernel_rfl)
      (OpenSpec.preRow_of_cond 8 hx (by kernel_rfl) (fun k hk => by cases hk) (by kernel_rfl) (laidMetH_nil _ _))) ?_
  intro W base args ds gs before hval hW _ _ _ _ _ _
  exact contract H enc W base args ds gs before hval hW
theorem said : Rows.HeapYoungSaid :=
  OpenClaim.holds_of_cond 8 Tryz.f8 rfl rfl rfl rfl rfl rfl rfl ⟨rfl, rfl, rfl, rfl, rfl⟩ rfl rfl rfl rfl rfl (by kernel_rfl) Tryz.func8 (by kernel_rfl)
    (of_decide_eq_true (by kernel_rfl)) (by unfold Func.isWrapper; first | (rw [if_pos (by decide +kernel)]; kernel_rfl) | (rw [if_neg (by decide +kernel)]; exact ⟨rfl, rfl⟩))
    (fun os started H enc _ F => by rw [OpenClaim.pre_eq_preRow]; exact lifted os started H enc F)
end HeapYoung
#print axioms HeapYoung.said
end Go.Proofs.YtbopdbinllokkaaGreat
