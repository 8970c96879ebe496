/- Texts of mine for the claims about layer 16 (link), joined: L16P. -/
import Derived.Test.YtaipjaclgkjhdaaDoorJal
import Derived.Test.YtaipjaclgkjhdaaDoorProg
import Derived.KernelRfl
set_option linter.all false
set_option linter.unusedSimpArgs false
set_option linter.unusedVariables false
/- Layer 16: readings, once more. -/
namespace Go.L16
open Go Go.Eng Go.Proofs
set_option maxRecDepth 100000
/-! ### 17: argus/link.Part  params #[26, 3] results #[24, 29]  slots [(0, i), (1, n), (2, i), (6, e), (7, end)] -/
noncomputable def jr17_body : Code := (Tryd.f17.body).getD .skip
noncomputable def jr17_k0 : IR :=
  .ret
noncomputable def jr17_k1 : IR :=
  .seq (.raw (rawReg jr17_body 9))
  (jr17_k0)
noncomputable def jr17_k2 : IR :=
  .seq (.reg [.asg none 7 (.op1 .lenS (.op1 .load1 (.op1 (.fadr 2) (.var 2)))),
     .asg none 30 (.op2 (.ibin .lss .i64) (.op2 (.ibin .add .i64) (.var 1) (.const (.int .i64 1))) (.op1 .lenS (.op1 .load1 (.op1 (.fadr 1) (.var 2)))))]) <|
  .seq (.cond (.var 30)
    (.reg [.asg none 7 (.op1 .load1 (.op2 (.ixa 1) (.op1 .load1 (.op1 (.fadr 1) (.var 2))) (.op2 (.ibin .add .i64) (.var 1) (.const (.int .i64 1)))))])
    (.skip))
  (jr17_k1)
noncomputable def jr17_k3 : IR :=
  .seq (.reg [.asg none 21 (.ite (.op2 (.ibin .lss .i64) (.var 1) (.const (.int .i64 0))) (.const (.bool true)) (.op2 (.ibin .geq .i64) (.var 1) (.op1 .lenS (.op1 .load1 (.op1 (.fadr 0) (.var 2))))))]) <|
  .seq (.cond (.var 21)
    (.seq (.reg [.asg none 4 (.const (.slice none 0 0)),
        .asg none 5 (.const (.int .i64 1))]) <|
     .ret)
    (.skip))
  (jr17_k2)
noncomputable def jr17 : IR :=
  .seq (.reg [.eff none (some 2) (.box 26 (.tmp 0)) 0,
     .asg none 4 (.const (.slice none 0 0)),
     .asg none 5 (.const (.int .i64 0)),
     .asg none 8 (.op1 (.loadN 3) (.var 2)),
     .eff none (some 9) (.call { callee := .value (.func 19), args := #[(.tmp 8)], argTypes := #[26] }) 29,
     .asg none 6 (.var 9),
     .asg none 11 (.op2 (.ibin .neq .i64) (.var 6) (.const (.int .i64 0)))]) <|
  .seq (.cond (.var 11)
    (.seq (.reg [.asg none 12 (.var 6),
        .asg none 4 (.const (.slice none 0 0)),
        .asg none 5 (.var 12)]) <|
     .ret)
    (.skip))
  (jr17_k3)
def jr17_V : List Nat := [0, 1, 2, 4, 5, 6, 7, 8, 9, 11, 12, 21, 30, 37, 38, 39, 40, 41, 42, 43, 44, 45, 46, 47]
theorem jr17_ok : (comp Tryd.prog Tryd.f17.ntmps jr17_V [9] (Tryd.f17.body.getD .skip)).map IR.norm = some jr17 := by kernel_rfl
theorem jr17_calls {v0 v1 : Value} {w : World} {R : Ending → World → Prop} (h : ∀ ρ : Env, ρ 0 = v0 → ρ 1 = v1 → jr17.wp ⟨Tryd.prog, 48, jr17_V, []⟩ (retK [.tmp 4, .tmp 5] R) (ksOf [.tmp 4, .tmp 5] R) ρ w) :
    Calls Tryd.prog 17 #[v0, v1] w R := by
  obtain ⟨ir0, h1, h2⟩ := Option.map_eq_some_iff.1 jr17_ok
  exact calls_ir (args := #[v0, v1]) Tryd.func17 (c := Tryd.f17.body.getD .skip) rfl h1 h2 (by kernel_rfl) (show rvsOf Tryd.prog jr17_V Tryd.f17.results.toList = some [.tmp 4, .tmp 5] by kernel_rfl) (Nat.le_of_ble_eq_true rfl) (h _ rfl rfl)

/-! 17 argus/link.Part region 9: 13 operations, tail 9, size 14 -/
noncomputable def jr17_o9 : OT :=
  .take none 37 (.op1 (.fadr 2) (.var 2)) <|
  .take none 38 (.op1 .load1 (.var 37)) <|
  .take none 39 (.op1 (.fadr 1) (.var 2)) <|
  .take none 40 (.op1 .load1 (.var 39)) <|
  .take none 41 (.var 1) <|
  .take none 42 (.op2 (.ixa 1) (.var 40) (.var 41)) <|
  .take none 43 (.op1 .load1 (.var 42)) <|
  .take none 44 (.var 7) <|
  .take none 45 (.var 7) <|
  .step (.asg none 46 (.op4 (.slMax 1) (.var 38) (.var 43) (.var 44) (.var 45))) false <|
  .step (.eff none (some 47) (.call { callee := .value (.func 52), args := #[(.tmp 46)], argTypes := #[24] }) 24) false <|
  .step (.asg none 4 (.var 47)) false <|
  .step (.asg none 5 (.const (.int .i64 0))) false <|
  .done
theorem jr17_o9_ok : ordOf Tryd.prog 48 jr17_V 9 (rawReg jr17_body 9) = some jr17_o9 := by kernel_rfl
end Go.L16
