/- Texts of mine for the claims about layer 16 (link), joined: L16Ie. -/
import Derived.Test.YtaipjaclgkjhdaaDoorJaq
import Derived.Test.YtaipjaclgkjhdaaDoorProg
import Derived.KernelRfl
set_option linter.all false
set_option linter.unusedSimpArgs false
set_option linter.unusedVariables false
/- Layer 16: readings with deferred calls. -/
namespace Go.L16
open Go Go.Eng Go.Proofs
set_option maxRecDepth 100000
/-! ### 24: argus/link.Read  params #[24] results #[26, 29]  slots [(0, b), (2, out), (3, e), (4, r)] -/
noncomputable def jr24_body : Code := (Tryd.f24.body).getD .skip
noncomputable def jr24_k0 : IR :=
  .raw (rawReg jr24_body 6)
noncomputable def jr24_k1 : IR :=
  .reg [.asg none 11 (.op2 (.ibin .add .i64) (.var 11) (.const (.int .i64 1)))]
noncomputable def jr24_k2 : IR :=
  .seq (.block 1 (.seq (.raw (rawReg jr24_body 5))
    (jr24_k0)))
  (jr24_k1)
noncomputable def jr24_l3 : IR :=
  .seq (.reg [.asg none 12 (.op2 (.ibin .lss .i64) (.var 11) (.var 10))]) <|
  .seq (.cond (.var 12)
    (.skip)
    (.exit 0))
  (jr24_k2)
noncomputable def jr24_k4 : IR :=
  .seq (.reg [.asg none 41 (.op1 (.loadN 3) (.var 2)),
     .eff none none (.store 26 (.tmp 2) (.tmp 41)) 0,
     .eff none none (.store 29 (.tmp 3) (.const (.int .i64 0))) 0]) <|
  .ret
noncomputable def jr24_k5 : IR :=
  .seq (.reg [.asg none 34 (.op1 .load1 (.op1 (.fadr 0) (.op1 .nilc (.var 4)))),
     .eff none (some 35) (.call { callee := .value (.func 52), args := #[(.tmp 34)], argTypes := #[24] }) 24,
     .asg none 36 (.op1 (.fadr 2) (.var 2)),
     .eff none none (.store 24 (.tmp 36) (.tmp 35)) 0,
     .asg none 37 (.op1 (.loadN 3) (.var 2)),
     .eff none (some 38) (.call { callee := .value (.func 19), args := #[(.tmp 37)], argTypes := #[26] }) 29,
     .asg none 39 (.op2 (.ibin .neq .i64) (.var 38) (.const (.int .i64 0)))]) <|
  .seq (.cond (.var 39)
    (.seq (.reg [.eff none (some 40) (.build 26 #[]) 26,
        .eff none none (.store 26 (.tmp 2) (.tmp 40)) 0,
        .eff none none (.store 29 (.tmp 3) (.const (.int .i64 4))) 0]) <|
     .ret)
    (.skip))
  (jr24_k4)
noncomputable def jr24 : IR :=
  .seq (.reg [.eff none (some 2) (.alloc 26) 0,
     .eff none (some 3) (.alloc 29) 0,
     .eff none (some 5) (.makeFunc (.func 60) #[] #[(.tmp 2), (.tmp 3)]) 1,
     .eff none none (.defer { callee := .value (.tmp 5), args := #[], argTypes := #[] }) 0,
     .asg none 6 (.var 0),
     .eff none (some 7) (.build 96 #[(0, (.tmp 6))]) 96,
     .eff none (some 8) (.box 96 (.tmp 7)) 94,
     .asg none 4 (.var 8),
     .asg none 9 (.var 4),
     .eff none (some 10) (.call { callee := .value (.func 61), args := #[(.tmp 9)], argTypes := #[94] }) 3,
     .asg none 11 (.const (.int .i64 0))]) <|
  .seq (.block 0 (.loop jr24_l3))
  (jr24_k5)
def jr24_V : List Nat := [0, 2, 3, 4, 5, 6, 7, 8, 9, 10, 11, 12, 13, 14, 15, 16, 17, 18, 19, 20, 21, 22, 23, 24, 25, 26, 27, 28, 29, 34, 35, 36, 37, 38, 39, 40, 41]
theorem jr24_ok : (comp Tryd.prog Tryd.f24.ntmps jr24_V [6, 5] (Tryd.f24.body.getD .skip)).map IR.norm = some jr24 := by kernel_rfl
theorem jr24_calls {v0 : Value} {w : World} {R : Ending → World → Prop} (h : ∀ ρ : Env, ρ 0 = v0 → ρ gS = .tuple #[] → jr24.wp ⟨Tryd.prog, 42, jr24_V, dAny⟩ (endK Tryd.prog [.cellN 2 3, .cell1 3] R .returning) (ksD Tryd.prog [.cellN 2 3, .cell1 3] R) ρ w) :
    Calls Tryd.prog 24 #[v0] w R := by
  obtain ⟨ir0, h1, h2⟩ := Option.map_eq_some_iff.1 jr24_ok
  exact calls_irD (args := #[v0]) Tryd.func24 (c := Tryd.f24.body.getD .skip) rfl h1 h2 (by kernel_rfl) (show rvsOf Tryd.prog jr24_V Tryd.f24.results.toList = some [.cellN 2 3, .cell1 3] by kernel_rfl) (Nat.le_of_ble_eq_true rfl) (h _ rfl rfl)
/-! 24 argus/link.Read region 5: 11 operations, tail 8, size 12 -/
noncomputable def jr24_o5 : OT :=
  .take none 13 (.op1 (.fadr 0) (.var 2)) <|
  .take none 14 (.op1 .load1 (.var 13)) <|
  .take none 15 (.var 4) <|
  .take none 16 (.var 4) <|
  .step (.eff none (some 17) (.call { callee := .value (.func 61), args := #[(.tmp 16)], argTypes := #[94] }) 3) true <|
  .step (.eff none (some 18) (.call { callee := .value (.func 62), args := #[(.tmp 15), (.tmp 17)], argTypes := #[94, 3] }) 24) true <|
  .take none 19 (.op1 .b2s (.var 18)) <|
  .step (.eff none (some 20) (.buildSlice 22 1 #[(0, (.tmp 19))]) 22) true <|
  .step (.eff none (some 21) (.call { callee := .builtin .append, args := #[(.tmp 14), (.tmp 20)], argTypes := #[22, 22] }) 22) false <|
  .step (.asg none 22 (.op1 (.fadr 0) (.var 2))) false <|
  .step (.eff none none (.store 22 (.tmp 22) (.tmp 21)) 0) false <|
  .done
theorem jr24_o5_ok : ordOf Tryd.prog 42 jr24_V 8 (rawReg jr24_body 5) = some jr24_o5 := by kernel_rfl
/-! 24 argus/link.Read region 6: 8 operations, tail 5, size 9 -/
noncomputable def jr24_o6 : OT :=
  .take none 23 (.op1 (.fadr 1) (.var 2)) <|
  .take none 24 (.op1 .load1 (.var 23)) <|
  .take none 25 (.var 4) <|
  .step (.eff none (some 26) (.call { callee := .value (.func 63), args := #[(.tmp 25)], argTypes := #[94] }) 3) true <|
  .step (.eff none (some 27) (.buildSlice 23 1 #[(0, (.tmp 26))]) 23) true <|
  .step (.eff none (some 28) (.call { callee := .builtin .append, args := #[(.tmp 24), (.tmp 27)], argTypes := #[23, 23] }) 23) false <|
  .step (.asg none 29 (.op1 (.fadr 1) (.var 2))) false <|
  .step (.eff none none (.store 23 (.tmp 29) (.tmp 28)) 0) false <|
  .done
theorem jr24_o6_ok : ordOf Tryd.prog 42 jr24_V 5 (rawReg jr24_body 6) = some jr24_o6 := by kernel_rfl

/-! ### 60: argus/link.Read$1  params #[] results #[]  slots [(2, x), (3, x), (4, x)] -/
noncomputable def jr60 (v : Value) : IR :=
  .seq (.reg [.asg none 5 (.const v)]) <|
  .block 0 (.seq (.reg [.eff none (some 7) (.binOp .eql 20 (.tmp 5) (.const .nilIface) 20) 4]) <|
   .cond (.var 7)
    (.reg [.asg none 2 (.var 5)])
    (.seq (.reg [.eff none (some 8) (.typeAssert (.tmp 5) 20 93 true) 0,
        .asg none 9 (.op1 (.ext 1) (.var 8)),
        .asg none 10 (.op1 (.ext 0) (.var 8))]) <|
     .cond (.var 9)
      (.reg [.eff none (some 3) (.alloc 93) 0,
         .eff none none (.store 93 (.tmp 3) (.tmp 10)) 0,
         .eff none (some 11) (.build 26 #[]) 26,
         .eff none none (.store 26 (.tmp 0) (.tmp 11)) 0,
         .eff none none (.store 29 (.tmp 1) (.const (.int .i64 4))) 0])
      (.reg [.asg none 4 (.var 5),
         .asg none 6 (.var 4),
         .eff none none (.panic (.tmp 6)) 0])))
def jr60_V : List Nat := [0, 1, 2, 3, 4, 5, 6, 7, 8, 9, 10, 11]
theorem jr60_ok (v : Value) : (comp Tryd.prog Tryd.f60.ntmps jr60_V [] (swapRec v (Tryd.f60.body.getD .skip))).map IR.norm = some (jr60 v) := by kernel_rfl
theorem jr60_calls {v0 v1 : Value} {u : FrameMode} {w : World} {R : Ending → FrameMode → World → Prop} (h : ∀ ρ : Env, ρ 0 = v0 → ρ 1 = v1 → (jr60 (recV u)).wp ⟨Tryd.prog, Tryd.f60.ntmps, jr60_V, []⟩ (recK [] (recU u) R) (recKs [] (recU u) R) ρ w) :
    CallsDIn Fence.wide 0 Tryd.prog 60 #[v0, v1] u w R := by
  obtain ⟨ir0, h1, h2⟩ := Option.map_eq_some_iff.1 (jr60_ok (recV u))
  exact callsD_rec (args := #[v0, v1]) Tryd.func60 (c := Tryd.f60.body.getD .skip) rfl (by kernel_rfl) h1 h2 (by kernel_rfl) (show rvsOf Tryd.prog jr60_V Tryd.f60.results.toList = some [] by kernel_rfl) (Nat.le_of_ble_eq_true rfl) (h _ rfl rfl)
end Go.L16
