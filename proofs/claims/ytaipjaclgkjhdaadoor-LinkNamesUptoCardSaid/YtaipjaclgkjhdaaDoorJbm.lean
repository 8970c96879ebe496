/- Texts of mine for the claims about layer 16 (link), joined: L16If. -/
import Derived.Test.YtaipjaclgkjhdaaDoorJaq
import Derived.Test.YtaipjaclgkjhdaaDoorProg
import Derived.KernelRfl
set_option linter.all false
set_option linter.unusedSimpArgs false
set_option linter.unusedVariables false
/- Layer 16: readings of the library's Buffer. -/
namespace Go.L16
open Go Go.Eng Go.Proofs
set_option maxRecDepth 100000
/-! ### 57: (*argus/link.buffer).word  params #[126, 3] results #[]  slots [(0, b), (1, n)] -/
noncomputable def ir57 : IR :=
  .reg [.asg none 6 (.op1 (.fadr 0) (.op1 .nilc (.var 0))),
    .asg none 9 (.op1 (.conv .u8) (.op2 (.shf .shr) (.var 1) (.const (.int .u64 24)))),
    .asg none 12 (.op1 (.conv .u8) (.op2 (.shf .shr) (.var 1) (.const (.int .u64 16)))),
    .asg none 15 (.op1 (.conv .u8) (.op2 (.shf .shr) (.var 1) (.const (.int .u64 8)))),
    .asg none 17 (.op1 (.conv .u8) (.var 1)),
    .eff none (some 18) (.buildSlice 24 4 #[(0, (.tmp 9)), (1, (.tmp 12)), (2, (.tmp 15)), (3, (.tmp 17))]) 24,
    .eff none (some 19) (.call { callee := .value (.func 58), args := #[(.tmp 6), (.tmp 18)], argTypes := #[81, 24] }) 87]
def ir57_V : List Nat := [0, 1, 6, 9, 12, 15, 17, 18, 19]
theorem ir57_ok : (comp Tryd.prog Tryd.f57.ntmps ir57_V [] (Tryd.f57.body.getD .skip)).map IR.norm = some ir57 := by kernel_rfl
theorem ir57_calls {v0 v1 : Value} {w : World} {R : Ending → World → Prop} (h : ∀ ρ : Env, ρ 0 = v0 → ρ 1 = v1 → ir57.wp ⟨Tryd.prog, 20, ir57_V, []⟩ (retK [] R) (ksOf [] R) ρ w) :
    Calls Tryd.prog 57 #[v0, v1] w R := by
  obtain ⟨ir0, h1, h2⟩ := Option.map_eq_some_iff.1 ir57_ok
  exact calls_ir (args := #[v0, v1]) Tryd.func57 (c := Tryd.f57.body.getD .skip) rfl h1 h2 (by kernel_rfl) (show rvsOf Tryd.prog ir57_V Tryd.f57.results.toList = some [] by kernel_rfl) (Nat.le_of_ble_eq_true rfl) (h _ rfl rfl)

/-! ### 58: (*bytes.Buffer).Write  params #[123, 24] results #[3, 85]  slots [(0, b), (1, p), (4, n), (5, err), (6, m), (7, ok)] -/
noncomputable def ir58_k0 : IR :=
  .seq (.reg [.asg none 29 (.op2 (.slLo 1) (.op1 .load1 (.op1 (.fadr 0) (.op1 .nilc (.var 0)))) (.var 6)),
     .asg none 30 (.var 1),
     .eff none (some 31) (.call { callee := .builtin .copy, args := #[(.tmp 29), (.tmp 30)], argTypes := #[24, 24] }) 3,
     .asg none 4 (.var 31),
     .asg none 5 (.const .nilIface)]) <|
  .ret
noncomputable def ir58 : IR :=
  .seq (.reg [.asg none 4 (.const (.int .i64 0)),
     .asg none 5 (.const .nilIface),
     .asg none 10 (.op1 (.fadr 2) (.op1 .nilc (.var 0))),
     .eff none none (.store 79 (.tmp 10) (.const (.int .i8 0))) 0,
     .asg none 12 (.var 0),
     .asg none 14 (.op1 .lenS (.var 1)),
     .eff none (some 15) (.call { callee := .value (.func 82), args := #[(.tmp 12), (.tmp 14)], argTypes := #[123, 3] }) 73,
     .asg none 11 (.var 15),
     .asg none 16 (.op1 (.ext 0) (.var 11)),
     .asg none 17 (.op1 (.ext 1) (.var 11)),
     .asg none 6 (.var 16),
     .asg none 7 (.var 17),
     .asg none 19 (.op1 .not (.var 7))]) <|
  .seq (.cond (.var 19)
    (.reg [.asg none 20 (.var 0),
       .asg none 22 (.op1 .lenS (.var 1)),
       .eff none (some 23) (.call { callee := .value (.func 83), args := #[(.tmp 20), (.tmp 22)], argTypes := #[123, 3] }) 3,
       .asg none 6 (.var 23)])
    (.skip))
  (ir58_k0)
def ir58_V : List Nat := [0, 1, 4, 5, 6, 7, 10, 11, 12, 14, 15, 16, 17, 19, 20, 22, 23, 29, 30, 31]
theorem ir58_ok : (comp Tryd.prog Tryd.f58.ntmps ir58_V [] (Tryd.f58.body.getD .skip)).map IR.norm = some ir58 := by kernel_rfl
theorem ir58_calls {v0 v1 : Value} {w : World} {R : Ending → World → Prop} (h : ∀ ρ : Env, ρ 0 = v0 → ρ 1 = v1 → ir58.wp ⟨Tryd.prog, 32, ir58_V, []⟩ (retK [.tmp 4, .tmp 5] R) (ksOf [.tmp 4, .tmp 5] R) ρ w) :
    Calls Tryd.prog 58 #[v0, v1] w R := by
  obtain ⟨ir0, h1, h2⟩ := Option.map_eq_some_iff.1 ir58_ok
  exact calls_ir (args := #[v0, v1]) Tryd.func58 (c := Tryd.f58.body.getD .skip) rfl h1 h2 (by kernel_rfl) (show rvsOf Tryd.prog ir58_V Tryd.f58.results.toList = some [.tmp 4, .tmp 5] by kernel_rfl) (Nat.le_of_ble_eq_true rfl) (h _ rfl rfl)

/-! ### 59: (*bytes.Buffer).Bytes  params #[123] results #[24]  slots [(0, b)] -/
noncomputable def ir59_k0 : IR :=
  .ret
noncomputable def ir59 : IR :=
  .seq (.reg [.asg none 2 (.const (.slice none 0 0))]) <|
  .seq (.drw [.asg none 2 (.op2 (.slLo 1) (.op1 .load1 (.op1 (.fadr 0) (.op1 .nilc (.var 0)))) (.op1 .load1 (.op1 (.fadr 1) (.op1 .nilc (.var 0)))))])
  (ir59_k0)
def ir59_V : List Nat := [0, 2]
theorem ir59_ok : (comp Tryd.prog Tryd.f59.ntmps ir59_V [] (Tryd.f59.body.getD .skip)).map IR.norm = some ir59 := by kernel_rfl
theorem ir59_calls {v0 : Value} {w : World} {R : Ending → World → Prop} (h : ∀ ρ : Env, ρ 0 = v0 → ir59.wp ⟨Tryd.prog, 12, ir59_V, []⟩ (retK [.tmp 2] R) (ksOf [.tmp 2] R) ρ w) :
    Calls Tryd.prog 59 #[v0] w R := by
  obtain ⟨ir0, h1, h2⟩ := Option.map_eq_some_iff.1 ir59_ok
  exact calls_ir (args := #[v0]) Tryd.func59 (c := Tryd.f59.body.getD .skip) rfl h1 h2 (by kernel_rfl) (show rvsOf Tryd.prog ir59_V Tryd.f59.results.toList = some [.tmp 2] by kernel_rfl) (Nat.le_of_ble_eq_true rfl) (h _ rfl)

end Go.L16
