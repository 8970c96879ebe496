/- Texts of mine for the claims about layer 16 (link), joined: L16Ib. -/
import Derived.Test.YtaipjaclgkjhdaaDoorJaf
import Derived.Test.YtaipjaclgkjhdaaDoorProg
import Derived.KernelRfl
set_option linter.all false
set_option linter.unusedSimpArgs false
set_option linter.unusedVariables false
/- Readings of functions, by program. -/
namespace Go.Proofs
open Go Go.Eng
set_option maxRecDepth 100000
/-! ### 19: argus/link.CheckImage  params #[26] results #[29]  slots [(0, i), (1, i), (3, last), (4, n), (5, name), (6, start)] -/
noncomputable def ir19_k0 : IR :=
  .reg [.asg none 3 (.var 6)]
noncomputable def ir19_k1 : IR :=
  .reg [.asg none 41 (.op2 (.ibin .add .i64) (.var 41) (.const (.int .i64 1)))]
noncomputable def ir19_k2 : IR :=
  .seq (.block 1 (.seq (.reg [.asg none 43 (.var 41),
       .asg none 45 (.op1 .load1 (.op2 (.ixa 1) (.var 39) (.var 41))),
       .asg none 4 (.var 43),
       .asg none 5 (.var 45),
       .asg none 6 (.op1 .load1 (.op2 (.ixa 1) (.op1 .load1 (.op1 (.fadr 1) (.var 1))) (.var 4))),
       .asg none 51 (.var 5),
       .eff none (some 52) (.call { callee := .value (.func 53), args := #[(.tmp 51)], argTypes := #[9] }) 4,
       .asg none 87 (.ite (.ite (.ite (.ite (.op1 .not (.var 52)) (.const (.bool true)) (.ite (.op2 (.ibin .gtr .i64) (.var 4) (.const (.int .i64 0))) (.op2 (.sbin .geq) (.op1 .load1 (.op2 (.ixa 1) (.op1 .load1 (.op1 (.fadr 0) (.var 1))) (.op2 (.ibin .sub .i64) (.var 4) (.const (.int .i64 1))))) (.var 5)) (.const (.bool false)))) (.const (.bool true)) (.ite (.op2 (.ibin .eql .i64) (.var 4) (.const (.int .i64 0))) (.op2 (.ibin .neq .i64) (.var 6) (.const (.int .i64 0))) (.const (.bool false)))) (.const (.bool true)) (.op2 (.ibin .lss .i64) (.var 6) (.var 3))) (.const (.bool true)) (.op2 (.ibin .gtr .i64) (.var 6) (.op1 .lenS (.op1 .load1 (.op1 (.fadr 2) (.var 1))))))]) <|
    .seq (.cond (.var 87)
      (.seq (.reg [.asg none 2 (.const (.int .i64 162))]) <|
       .ret)
      (.skip))
    (ir19_k0)))
  (ir19_k1)
noncomputable def ir19_l3 : IR :=
  .seq (.reg [.asg none 42 (.op2 (.ibin .lss .i64) (.var 41) (.var 40))]) <|
  .seq (.cond (.var 42)
    (.skip)
    (.exit 0))
  (ir19_k2)
noncomputable def ir19_k4 : IR :=
  .seq (.reg [.asg none 2 (.const (.int .i64 0))]) <|
  .ret
noncomputable def ir19_k5 : IR :=
  .seq (.reg [.asg none 3 (.const (.int .i64 0)),
     .asg none 39 (.op1 .load1 (.op1 (.fadr 0) (.var 1))),
     .asg none 40 (.op1 .lenS (.var 39)),
     .asg none 41 (.const (.int .i64 0))]) <|
  .seq (.block 0 (.loop ir19_l3))
  (ir19_k4)
noncomputable def ir19 : IR :=
  .seq (.reg [.eff none (some 1) (.box 26 (.tmp 0)) 0,
     .asg none 2 (.const (.int .i64 0)),
     .asg none 37 (.ite (.ite (.ite (.op2 (.ibin .gtr .i64) (.op1 .lenS (.op1 .load1 (.op1 (.fadr 0) (.var 1)))) (.const (.int .i64 60))) (.const (.bool true)) (.op2 (.ibin .neq .i64) (.op1 .lenS (.op1 .load1 (.op1 (.fadr 1) (.var 1)))) (.op1 .lenS (.op1 .load1 (.op1 (.fadr 0) (.var 1)))))) (.const (.bool true)) (.op2 (.ibin .gtr .i64) (.op1 .lenS (.op1 .load1 (.op1 (.fadr 2) (.var 1)))) (.const (.int .i64 1200000)))) (.const (.bool true)) (.ite (.op2 (.ibin .eql .i64) (.op1 .lenS (.op1 .load1 (.op1 (.fadr 0) (.var 1)))) (.const (.int .i64 0))) (.op2 (.ibin .gtr .i64) (.op1 .lenS (.op1 .load1 (.op1 (.fadr 2) (.var 1)))) (.const (.int .i64 0))) (.const (.bool false))))]) <|
  .seq (.cond (.var 37)
    (.seq (.reg [.asg none 2 (.const (.int .i64 162))]) <|
     .ret)
    (.skip))
  (ir19_k5)
def ir19_V : List Nat := [0, 1, 2, 3, 4, 5, 6, 37, 39, 40, 41, 42, 43, 45, 51, 52, 87]
theorem ir19_ok : (comp Tryd.prog Tryd.f19.ntmps ir19_V [] (Tryd.f19.body.getD .skip)).map IR.norm = some ir19 := by kernel_rfl
theorem ir19_calls {v0 : Value} {w : World} {R : Ending → World → Prop} (h : ∀ ρ : Env, ρ 0 = v0 → ir19.wp ⟨Tryd.prog, 90, ir19_V, []⟩ (retK [.tmp 2] R) (ksOf [.tmp 2] R) ρ w) :
    Calls Tryd.prog 19 #[v0] w R := by
  obtain ⟨ir0, h1, h2⟩ := Option.map_eq_some_iff.1 ir19_ok
  exact calls_ir (args := #[v0]) Tryd.func19 (c := Tryd.f19.body.getD .skip) rfl h1 h2 (by kernel_rfl) (show rvsOf Tryd.prog ir19_V Tryd.f19.results.toList = some [.tmp 2] by kernel_rfl) (Nat.le_of_ble_eq_true rfl) (h _ rfl)

/-! ### 15: argus/link.Number  params #[26, 9] results #[3, 4, 29]  slots [(0, i), (1, name), (2, i), (7, e), (8, n), (9, is)] -/
noncomputable def ir15_k0 : IR :=
  .seq (.reg [.asg none 4 (.var 8),
     .asg none 5 (.const (.bool true)),
     .asg none 6 (.const (.int .i64 0))]) <|
  .ret
noncomputable def ir15_k1 : IR :=
  .seq (.reg [.asg none 17 (.op1 .load1 (.op1 (.fadr 0) (.var 2))),
     .asg none 18 (.var 1),
     .eff none (some 19) (.call { callee := .value (.func 50), args := #[(.tmp 17), (.tmp 18)], argTypes := #[22, 9] }) 73,
     .asg none 15 (.var 19),
     .asg none 20 (.op1 (.ext 0) (.var 15)),
     .asg none 21 (.op1 (.ext 1) (.var 15)),
     .asg none 8 (.var 20),
     .asg none 9 (.var 21),
     .asg none 23 (.op1 .not (.var 9))]) <|
  .seq (.cond (.var 23)
    (.seq (.reg [.asg none 4 (.const (.int .i64 0)),
        .asg none 5 (.const (.bool false)),
        .asg none 6 (.const (.int .i64 0))]) <|
     .ret)
    (.skip))
  (ir15_k0)
noncomputable def ir15 : IR :=
  .seq (.reg [.eff none (some 2) (.box 26 (.tmp 0)) 0,
     .asg none 4 (.const (.int .i64 0)),
     .asg none 5 (.const (.bool false)),
     .asg none 6 (.const (.int .i64 0)),
     .asg none 10 (.op1 (.loadN 3) (.var 2)),
     .eff none (some 11) (.call { callee := .value (.func 19), args := #[(.tmp 10)], argTypes := #[26] }) 29,
     .asg none 7 (.var 11),
     .asg none 13 (.op2 (.ibin .neq .i64) (.var 7) (.const (.int .i64 0)))]) <|
  .seq (.cond (.var 13)
    (.seq (.reg [.asg none 14 (.var 7),
        .asg none 4 (.const (.int .i64 0)),
        .asg none 5 (.const (.bool false)),
        .asg none 6 (.var 14)]) <|
     .ret)
    (.skip))
  (ir15_k1)
def ir15_V : List Nat := [0, 1, 2, 4, 5, 6, 7, 8, 9, 10, 11, 13, 14, 15, 17, 18, 19, 20, 21, 23]
theorem ir15_ok : (comp Tryd.prog Tryd.f15.ntmps ir15_V [] (Tryd.f15.body.getD .skip)).map IR.norm = some ir15 := by kernel_rfl
theorem ir15_calls {v0 v1 : Value} {w : World} {R : Ending → World → Prop} (h : ∀ ρ : Env, ρ 0 = v0 → ρ 1 = v1 → ir15.wp ⟨Tryd.prog, 25, ir15_V, []⟩ (retK [.tmp 4, .tmp 5, .tmp 6] R) (ksOf [.tmp 4, .tmp 5, .tmp 6] R) ρ w) :
    Calls Tryd.prog 15 #[v0, v1] w R := by
  obtain ⟨ir0, h1, h2⟩ := Option.map_eq_some_iff.1 ir15_ok
  exact calls_ir (args := #[v0, v1]) Tryd.func15 (c := Tryd.f15.body.getD .skip) rfl h1 h2 (by kernel_rfl) (show rvsOf Tryd.prog ir15_V Tryd.f15.results.toList = some [.tmp 4, .tmp 5, .tmp 6] by kernel_rfl) (Nat.le_of_ble_eq_true rfl) (h _ rfl rfl)

/-! ### 17: argus/link.Part  params #[26, 3] results #[24, 29]  slots [(0, i), (1, n), (2, i), (6, e), (7, end)] -/
noncomputable def ir17_k0 : IR :=
  .ret
noncomputable def ir17_k1 : IR :=
  .seq (.drw [.asg none 46 (.op4 (.slMax 1) (.op1 .load1 (.op1 (.fadr 2) (.var 2))) (.op1 .load1 (.op2 (.ixa 1) (.op1 .load1 (.op1 (.fadr 1) (.var 2))) (.var 1))) (.var 7) (.var 7)),
     .eff none (some 47) (.call { callee := .value (.func 52), args := #[(.tmp 46)], argTypes := #[24] }) 24,
     .asg none 4 (.var 47),
     .asg none 5 (.const (.int .i64 0))])
  (ir17_k0)
noncomputable def ir17_k2 : IR :=
  .seq (.reg [.asg none 7 (.op1 .lenS (.op1 .load1 (.op1 (.fadr 2) (.var 2)))),
     .asg none 30 (.op2 (.ibin .lss .i64) (.op2 (.ibin .add .i64) (.var 1) (.const (.int .i64 1))) (.op1 .lenS (.op1 .load1 (.op1 (.fadr 1) (.var 2)))))]) <|
  .seq (.cond (.var 30)
    (.reg [.asg none 7 (.op1 .load1 (.op2 (.ixa 1) (.op1 .load1 (.op1 (.fadr 1) (.var 2))) (.op2 (.ibin .add .i64) (.var 1) (.const (.int .i64 1)))))])
    (.skip))
  (ir17_k1)
noncomputable def ir17_k3 : IR :=
  .seq (.reg [.asg none 21 (.ite (.op2 (.ibin .lss .i64) (.var 1) (.const (.int .i64 0))) (.const (.bool true)) (.op2 (.ibin .geq .i64) (.var 1) (.op1 .lenS (.op1 .load1 (.op1 (.fadr 0) (.var 2))))))]) <|
  .seq (.cond (.var 21)
    (.seq (.reg [.asg none 4 (.const (.slice none 0 0)),
        .asg none 5 (.const (.int .i64 1))]) <|
     .ret)
    (.skip))
  (ir17_k2)
noncomputable def ir17 : IR :=
  .seq (.reg [.eff none (some 2) (.box 26 (.tmp 0)) 0,
     .asg none 4 (.const (.slice none 0 0)),
     .asg none 5 (.const (.int .i64 0)),
     .asg none 8 (.op1 (.loadN 3) (.var 2)),
     .eff none (some 9) (.call { callee := .value (.func 19), args := #[(.tmp 8)], argTypes := #[26] }) 29,
     .asg none 6 (.var 9),
     .asg none 11 (.op2 (.ibin .neq .i64) (.var 6) (.const (.int .i64 0)))]) <|
  .seq (.cond (.var 11)
    (.seq (.reg [.asg none 12 (.var 6),
        .asg none 4 (.const (.slice none 0 0)),
        .asg none 5 (.var 12)]) <|
     .ret)
    (.skip))
  (ir17_k3)
def ir17_V : List Nat := [0, 1, 2, 4, 5, 6, 7, 8, 9, 11, 12, 21, 30, 46, 47]
theorem ir17_ok : (comp Tryd.prog Tryd.f17.ntmps ir17_V [] (Tryd.f17.body.getD .skip)).map IR.norm = some ir17 := by kernel_rfl
theorem ir17_calls {v0 v1 : Value} {w : World} {R : Ending → World → Prop} (h : ∀ ρ : Env, ρ 0 = v0 → ρ 1 = v1 → ir17.wp ⟨Tryd.prog, 48, ir17_V, []⟩ (retK [.tmp 4, .tmp 5] R) (ksOf [.tmp 4, .tmp 5] R) ρ w) :
    Calls Tryd.prog 17 #[v0, v1] w R := by
  obtain ⟨ir0, h1, h2⟩ := Option.map_eq_some_iff.1 ir17_ok
  exact calls_ir (args := #[v0, v1]) Tryd.func17 (c := Tryd.f17.body.getD .skip) rfl h1 h2 (by kernel_rfl) (show rvsOf Tryd.prog ir17_V Tryd.f17.results.toList = some [.tmp 4, .tmp 5] by kernel_rfl) (Nat.le_of_ble_eq_true rfl) (h _ rfl rfl)

/-! ### 22: argus/link.Write  params #[26] results #[24, 29]  slots [(0, i), (1, i), (4, e), (5, b), (6, n), (7, name)] -/
noncomputable def ir22_k0 : IR :=
  .reg [.asg none 22 (.op2 (.ibin .add .i64) (.var 22) (.const (.int .i64 1)))]
noncomputable def ir22_k1 : IR :=
  .seq (.block 1 (.reg [.asg none 24 (.var 22),
      .asg none 26 (.op1 .load1 (.op2 (.ixa 1) (.var 20) (.var 22))),
      .asg none 6 (.var 24),
      .asg none 7 (.var 26),
      .asg none 27 (.op1 (.fadr 0) (.var 5)),
      .asg none 30 (.op1 (.conv .u8) (.op1 .lenT (.var 7))),
      .eff none (some 31) (.call { callee := .value (.func 55), args := #[(.tmp 27), (.tmp 30)], argTypes := #[81, 5] }) 85,
      .asg none 32 (.op1 (.fadr 0) (.var 5)),
      .asg none 33 (.var 7),
      .eff none (some 34) (.call { callee := .value (.func 56), args := #[(.tmp 32), (.tmp 33)], argTypes := #[81, 9] }) 87,
      .asg none 39 (.op1 .load1 (.op2 (.ixa 1) (.op1 .load1 (.op1 (.fadr 1) (.var 1))) (.var 6))),
      .eff none (some 40) (.call { callee := .value (.func 57), args := #[(.tmp 5), (.tmp 39)], argTypes := #[83, 3] }) 0]))
  (ir22_k0)
noncomputable def ir22_l2 : IR :=
  .seq (.reg [.asg none 23 (.op2 (.ibin .lss .i64) (.var 22) (.var 21))]) <|
  .seq (.cond (.var 23)
    (.skip)
    (.exit 0))
  (ir22_k1)
noncomputable def ir22_k3 : IR :=
  .seq (.reg [.asg none 42 (.op1 (.fadr 0) (.var 5)),
     .asg none 44 (.op1 .load1 (.op1 (.fadr 2) (.var 1))),
     .eff none (some 45) (.call { callee := .value (.func 58), args := #[(.tmp 42), (.tmp 44)], argTypes := #[81, 24] }) 87,
     .asg none 46 (.op1 (.fadr 0) (.var 5)),
     .eff none (some 47) (.call { callee := .value (.func 59), args := #[(.tmp 46)], argTypes := #[81] }) 24,
     .asg none 2 (.var 47),
     .asg none 3 (.const (.int .i64 0))]) <|
  .ret
noncomputable def ir22_k4 : IR :=
  .seq (.reg [.eff none (some 5) (.alloc 83) 0,
     .asg none 13 (.op1 (.fadr 0) (.var 5)),
     .asg none 17 (.op1 (.conv .u8) (.op1 .lenS (.op1 .load1 (.op1 (.fadr 0) (.var 1))))),
     .eff none (some 18) (.call { callee := .value (.func 55), args := #[(.tmp 13), (.tmp 17)], argTypes := #[81, 5] }) 85,
     .asg none 20 (.op1 .load1 (.op1 (.fadr 0) (.var 1))),
     .asg none 21 (.op1 .lenS (.var 20)),
     .asg none 22 (.const (.int .i64 0))]) <|
  .seq (.block 0 (.loop ir22_l2))
  (ir22_k3)
noncomputable def ir22 : IR :=
  .seq (.reg [.eff none (some 1) (.box 26 (.tmp 0)) 0,
     .asg none 2 (.const (.slice none 0 0)),
     .asg none 3 (.const (.int .i64 0)),
     .asg none 8 (.op1 (.loadN 3) (.var 1)),
     .eff none (some 9) (.call { callee := .value (.func 19), args := #[(.tmp 8)], argTypes := #[26] }) 29,
     .asg none 4 (.var 9),
     .asg none 11 (.op2 (.ibin .neq .i64) (.var 4) (.const (.int .i64 0)))]) <|
  .seq (.cond (.var 11)
    (.seq (.reg [.asg none 12 (.var 4),
        .asg none 2 (.const (.slice none 0 0)),
        .asg none 3 (.var 12)]) <|
     .ret)
    (.skip))
  (ir22_k4)
def ir22_V : List Nat := [0, 1, 2, 3, 4, 5, 6, 7, 8, 9, 11, 12, 13, 17, 18, 20, 21, 22, 23, 24, 26, 27, 30, 31, 32, 33, 34, 39, 40, 42, 44, 45, 46, 47]
theorem ir22_ok : (comp Tryd.prog Tryd.f22.ntmps ir22_V [] (Tryd.f22.body.getD .skip)).map IR.norm = some ir22 := by kernel_rfl
theorem ir22_calls {v0 : Value} {w : World} {R : Ending → World → Prop} (h : ∀ ρ : Env, ρ 0 = v0 → ir22.wp ⟨Tryd.prog, 48, ir22_V, []⟩ (retK [.tmp 2, .tmp 3] R) (ksOf [.tmp 2, .tmp 3] R) ρ w) :
    Calls Tryd.prog 22 #[v0] w R := by
  obtain ⟨ir0, h1, h2⟩ := Option.map_eq_some_iff.1 ir22_ok
  exact calls_ir (args := #[v0]) Tryd.func22 (c := Tryd.f22.body.getD .skip) rfl h1 h2 (by kernel_rfl) (show rvsOf Tryd.prog ir22_V Tryd.f22.results.toList = some [.tmp 2, .tmp 3] by kernel_rfl) (Nat.le_of_ble_eq_true rfl) (h _ rfl)

/-! ### 24: argus/link.Read  params #[24] results #[26, 29]  slots [(0, b), (2, out), (3, e), (4, r)] -/
noncomputable def ir24_body : Code := (Tryd.f24.body).getD .skip
noncomputable def ir24_k0 : IR :=
  .raw (rawReg ir24_body 6)
noncomputable def ir24_k1 : IR :=
  .reg [.asg none 11 (.op2 (.ibin .add .i64) (.var 11) (.const (.int .i64 1)))]
noncomputable def ir24_k2 : IR :=
  .seq (.block 1 (.seq (.raw (rawReg ir24_body 5))
    (ir24_k0)))
  (ir24_k1)
noncomputable def ir24_l3 : IR :=
  .seq (.reg [.asg none 12 (.op2 (.ibin .lss .i64) (.var 11) (.var 10))]) <|
  .seq (.cond (.var 12)
    (.skip)
    (.exit 0))
  (ir24_k2)
noncomputable def ir24_k4 : IR :=
  .seq (.reg [.asg none 41 (.op1 (.loadN 3) (.var 2)),
     .eff none none (.store 26 (.tmp 2) (.tmp 41)) 0,
     .eff none none (.store 29 (.tmp 3) (.const (.int .i64 0))) 0]) <|
  .ret
noncomputable def ir24_k5 : IR :=
  .seq (.reg [.asg none 34 (.op1 .load1 (.op1 (.fadr 0) (.op1 .nilc (.var 4)))),
     .eff none (some 35) (.call { callee := .value (.func 52), args := #[(.tmp 34)], argTypes := #[24] }) 24,
     .asg none 36 (.op1 (.fadr 2) (.var 2)),
     .eff none none (.store 24 (.tmp 36) (.tmp 35)) 0,
     .asg none 37 (.op1 (.loadN 3) (.var 2)),
     .eff none (some 38) (.call { callee := .value (.func 19), args := #[(.tmp 37)], argTypes := #[26] }) 29,
     .asg none 39 (.op2 (.ibin .neq .i64) (.var 38) (.const (.int .i64 0)))]) <|
  .seq (.cond (.var 39)
    (.seq (.reg [.eff none (some 40) (.build 26 #[]) 26,
        .eff none none (.store 26 (.tmp 2) (.tmp 40)) 0,
        .eff none none (.store 29 (.tmp 3) (.const (.int .i64 4))) 0]) <|
     .ret)
    (.skip))
  (ir24_k4)
noncomputable def ir24 : IR :=
  .seq (.reg [.eff none (some 2) (.alloc 26) 0,
     .eff none (some 3) (.alloc 29) 0,
     .eff none (some 5) (.makeFunc (.func 60) #[] #[(.tmp 2), (.tmp 3)]) 1,
     .eff none none (.defer { callee := .value (.tmp 5), args := #[], argTypes := #[] }) 0,
     .asg none 6 (.var 0),
     .eff none (some 7) (.build 96 #[(0, (.tmp 6))]) 96,
     .eff none (some 8) (.box 96 (.tmp 7)) 94,
     .asg none 4 (.var 8),
     .asg none 9 (.var 4),
     .eff none (some 10) (.call { callee := .value (.func 61), args := #[(.tmp 9)], argTypes := #[94] }) 3,
     .asg none 11 (.const (.int .i64 0))]) <|
  .seq (.block 0 (.loop ir24_l3))
  (ir24_k5)
def ir24_V : List Nat := [0, 2, 3, 4, 5, 6, 7, 8, 9, 10, 11, 12, 13, 14, 15, 16, 17, 18, 19, 20, 21, 22, 23, 24, 25, 26, 27, 28, 29, 34, 35, 36, 37, 38, 39, 40, 41]
theorem ir24_ok : (comp Tryd.prog Tryd.f24.ntmps ir24_V [6, 5] (Tryd.f24.body.getD .skip)).map IR.norm = some ir24 := by kernel_rfl
theorem ir24_calls {v0 : Value} {w : World} {R : Ending → World → Prop} (h : ∀ ρ : Env, ρ 0 = v0 → ir24.wp ⟨Tryd.prog, 42, ir24_V, []⟩ (retK [.cellN 2 3, .cell1 3] R) (ksOf [.cellN 2 3, .cell1 3] R) ρ w) :
    Calls Tryd.prog 24 #[v0] w R := by
  obtain ⟨ir0, h1, h2⟩ := Option.map_eq_some_iff.1 ir24_ok
  exact calls_ir (args := #[v0]) Tryd.func24 (c := Tryd.f24.body.getD .skip) rfl h1 h2 (by kernel_rfl) (show rvsOf Tryd.prog ir24_V Tryd.f24.results.toList = some [.cellN 2 3, .cell1 3] by kernel_rfl) (Nat.le_of_ble_eq_true rfl) (h _ rfl)

/-! ### 53: argus/link.isName  params #[9] results #[4]  slots [(0, s)] -/
noncomputable def ir53 : IR :=
  .seq (.reg [.asg none 2 (.const (.bool false)),
     .asg none 11 (.ite (.op2 (.ibin .geq .i64) (.op1 .lenT (.var 0)) (.const (.int .i64 1))) (.op2 (.ibin .leq .i64) (.op1 .lenT (.var 0)) (.const (.int .i64 120))) (.const (.bool false))),
     .asg (some (11, true)) 12 (.var 0),
     .eff (some (11, true)) (some 13) (.convert 9 24 (.tmp 12)) 24,
     .eff (some (11, true)) (some 14) (.call { callee := .value (.func 80), args := #[(.tmp 13), (.func 81)], argTypes := #[24, 122] }) 4,
     .asg none 2 (.ite (.var 11) (.op1 .not (.var 14)) (.const (.bool false)))]) <|
  .ret
def ir53_V : List Nat := [0, 2, 11, 12, 13, 14]
theorem ir53_ok : (comp Tryd.prog Tryd.f53.ntmps ir53_V [] (Tryd.f53.body.getD .skip)).map IR.norm = some ir53 := by kernel_rfl
theorem ir53_calls {v0 : Value} {w : World} {R : Ending → World → Prop} (h : ∀ ρ : Env, ρ 0 = v0 → ir53.wp ⟨Tryd.prog, 17, ir53_V, []⟩ (retK [.tmp 2] R) (ksOf [.tmp 2] R) ρ w) :
    Calls Tryd.prog 53 #[v0] w R := by
  obtain ⟨ir0, h1, h2⟩ := Option.map_eq_some_iff.1 ir53_ok
  exact calls_ir (args := #[v0]) Tryd.func53 (c := Tryd.f53.body.getD .skip) rfl h1 h2 (by kernel_rfl) (show rvsOf Tryd.prog ir53_V Tryd.f53.results.toList = some [.tmp 2] by kernel_rfl) (Nat.le_of_ble_eq_true rfl) (h _ rfl)

/-! ### 74: argus/link.rules  params #[] results #[116]  slots [] -/
noncomputable def ir74 : IR :=
  .seq (.reg [.eff none (some 0) (.alloc 116) 0,
     .eff none (some 1) (.build 116 #[(0, (.func 87)), (1, (.func 88)), (2, (.func 89)), (3, (.func 90))]) 116,
     .eff none none (.store 116 (.tmp 0) (.tmp 1)) 0]) <|
  .ret
def ir74_V : List Nat := [0, 1]
theorem ir74_ok : (comp Tryd.prog Tryd.f74.ntmps ir74_V [] (Tryd.f74.body.getD .skip)).map IR.norm = some ir74 := by kernel_rfl
theorem ir74_calls {w : World} {R : Ending → World → Prop} (h : ∀ ρ : Env, ir74.wp ⟨Tryd.prog, 2, ir74_V, []⟩ (retK [.cellN 0 4] R) (ksOf [.cellN 0 4] R) ρ w) :
    Calls Tryd.prog 74 #[] w R := by
  obtain ⟨ir0, h1, h2⟩ := Option.map_eq_some_iff.1 ir74_ok
  exact calls_ir (args := #[]) Tryd.func74 (c := Tryd.f74.body.getD .skip) rfl h1 h2 (by kernel_rfl) (show rvsOf Tryd.prog ir74_V Tryd.f74.results.toList = some [.cellN 0 4] by kernel_rfl) (Nat.le_of_ble_eq_true rfl) (h _ )

/-! ### 87: (argus/link.checked).named  params #[119] results #[4]  slots [(0, o), (1, o)] -/
noncomputable def ir87 : IR :=
  .seq (.reg [.eff none (some 1) (.box 119 (.tmp 0)) 0,
     .asg none 2 (.const (.bool false)),
     .asg none 5 (.op1 .load1 (.op1 (.fadr 0) (.op1 (.fadr 0) (.var 1)))),
     .eff none (some 6) (.call { callee := .value (.func 53), args := #[(.tmp 5)], argTypes := #[9] }) 4,
     .asg none 7 (.var 6),
     .asg (some (7, true)) 10 (.op1 .load1 (.op1 (.fadr 2) (.op1 (.fadr 0) (.var 1)))),
     .eff (some (7, true)) (some 11) (.call { callee := .value (.func 98), args := #[(.tmp 10), (.func 99)], argTypes := #[43, 135] }) 4,
     .asg none 2 (.ite (.var 7) (.op1 .not (.var 11)) (.const (.bool false)))]) <|
  .ret
def ir87_V : List Nat := [0, 1, 2, 5, 6, 7, 10, 11]
theorem ir87_ok : (comp Tryd.prog Tryd.f87.ntmps ir87_V [] (Tryd.f87.body.getD .skip)).map IR.norm = some ir87 := by kernel_rfl
theorem ir87_calls {v0 : Value} {w : World} {R : Ending → World → Prop} (h : ∀ ρ : Env, ρ 0 = v0 → ir87.wp ⟨Tryd.prog, 14, ir87_V, []⟩ (retK [.tmp 2] R) (ksOf [.tmp 2] R) ρ w) :
    Calls Tryd.prog 87 #[v0] w R := by
  obtain ⟨ir0, h1, h2⟩ := Option.map_eq_some_iff.1 ir87_ok
  exact calls_ir (args := #[v0]) Tryd.func87 (c := Tryd.f87.body.getD .skip) rfl h1 h2 (by kernel_rfl) (show rvsOf Tryd.prog ir87_V Tryd.f87.results.toList = some [.tmp 2] by kernel_rfl) (Nat.le_of_ble_eq_true rfl) (h _ rfl)

/-! ### 88: (argus/link.checked).short  params #[119] results #[4]  slots [(0, o), (1, o)] -/
noncomputable def ir88 : IR :=
  .seq (.reg [.eff none (some 1) (.box 119 (.tmp 0)) 0,
     .asg none 2 (.const (.bool false)),
     .asg none 2 (.ite (.op2 (.ibin .leq .i64) (.op1 .lenS (.op1 .load1 (.op1 (.fadr 1) (.op1 (.fadr 0) (.var 1))))) (.const (.int .i64 20000))) (.op2 (.ibin .leq .i64) (.op1 .lenS (.op1 .load1 (.op1 (.fadr 2) (.op1 (.fadr 0) (.var 1))))) (.const (.int .i64 2000))) (.const (.bool false)))]) <|
  .ret
def ir88_V : List Nat := [0, 1, 2]
theorem ir88_ok : (comp Tryd.prog Tryd.f88.ntmps ir88_V [] (Tryd.f88.body.getD .skip)).map IR.norm = some ir88 := by kernel_rfl
theorem ir88_calls {v0 : Value} {w : World} {R : Ending → World → Prop} (h : ∀ ρ : Env, ρ 0 = v0 → ir88.wp ⟨Tryd.prog, 15, ir88_V, []⟩ (retK [.tmp 2] R) (ksOf [.tmp 2] R) ρ w) :
    Calls Tryd.prog 88 #[v0] w R := by
  obtain ⟨ir0, h1, h2⟩ := Option.map_eq_some_iff.1 ir88_ok
  exact calls_ir (args := #[v0]) Tryd.func88 (c := Tryd.f88.body.getD .skip) rfl h1 h2 (by kernel_rfl) (show rvsOf Tryd.prog ir88_V Tryd.f88.results.toList = some [.tmp 2] by kernel_rfl) (Nat.le_of_ble_eq_true rfl) (h _ rfl)

/-! ### 89: (argus/link.checked).placed  params #[119] results #[4]  slots [(0, o), (1, o), (3, last), (5, r)] -/
noncomputable def ir89_k0 : IR :=
  .reg [.asg none 3 (.op1 .load1 (.op1 (.fadr 0) (.var 5)))]
noncomputable def ir89_k1 : IR :=
  .reg [.asg none 10 (.op2 (.ibin .add .i64) (.var 10) (.const (.int .i64 1)))]
noncomputable def ir89_k2 : IR :=
  .seq (.block 1 (.seq (.reg [.asg none 13 (.op1 (.loadN 2) (.op2 (.ixa 2) (.var 8) (.var 10))),
       .eff none (some 5) (.alloc 54) 0,
       .eff none none (.store 54 (.tmp 5) (.tmp 13)) 0,
       .asg none 33 (.ite (.ite (.op2 (.ibin .lss .i64) (.op1 .load1 (.op1 (.fadr 0) (.var 5))) (.op2 (.ibin .add .i64) (.var 3) (.const (.int .i64 2)))) (.const (.bool true)) (.op2 (.ibin .lss .i64) (.op1 .load1 (.op1 (.fadr 0) (.var 5))) (.const (.int .i64 0)))) (.const (.bool true)) (.op2 (.ibin .gtr .i64) (.op1 .load1 (.op1 (.fadr 0) (.var 5))) (.op2 (.ibin .sub .i64) (.op1 .lenS (.op1 .load1 (.op1 (.fadr 1) (.op1 (.fadr 0) (.var 1))))) (.const (.int .i64 2)))))]) <|
    .seq (.cond (.var 33)
      (.seq (.reg [.asg none 2 (.const (.bool false))]) <|
       .ret)
      (.skip))
    (ir89_k0)))
  (ir89_k1)
noncomputable def ir89_l3 : IR :=
  .seq (.reg [.asg none 11 (.op2 (.ibin .lss .i64) (.var 10) (.var 9))]) <|
  .seq (.cond (.var 11)
    (.skip)
    (.exit 0))
  (ir89_k2)
noncomputable def ir89_k4 : IR :=
  .seq (.reg [.asg none 2 (.const (.bool true))]) <|
  .ret
noncomputable def ir89 : IR :=
  .seq (.reg [.eff none (some 1) (.box 119 (.tmp 0)) 0,
     .asg none 2 (.const (.bool false)),
     .asg none 3 (.const (.int .i64 (-2))),
     .asg none 8 (.op1 .load1 (.op1 (.fadr 2) (.op1 (.fadr 0) (.var 1)))),
     .asg none 9 (.op1 .lenS (.var 8)),
     .asg none 10 (.const (.int .i64 0))]) <|
  .seq (.block 0 (.loop ir89_l3))
  (ir89_k4)
def ir89_V : List Nat := [0, 1, 2, 3, 5, 8, 9, 10, 11, 13, 33]
theorem ir89_ok : (comp Tryd.prog Tryd.f89.ntmps ir89_V [] (Tryd.f89.body.getD .skip)).map IR.norm = some ir89 := by kernel_rfl
theorem ir89_calls {v0 : Value} {w : World} {R : Ending → World → Prop} (h : ∀ ρ : Env, ρ 0 = v0 → ir89.wp ⟨Tryd.prog, 37, ir89_V, []⟩ (retK [.tmp 2] R) (ksOf [.tmp 2] R) ρ w) :
    Calls Tryd.prog 89 #[v0] w R := by
  obtain ⟨ir0, h1, h2⟩ := Option.map_eq_some_iff.1 ir89_ok
  exact calls_ir (args := #[v0]) Tryd.func89 (c := Tryd.f89.body.getD .skip) rfl h1 h2 (by kernel_rfl) (show rvsOf Tryd.prog ir89_V Tryd.f89.results.toList = some [.tmp 2] by kernel_rfl) (Nat.le_of_ble_eq_true rfl) (h _ rfl)

/-! ### 90: (argus/link.checked).empty  params #[119] results #[4]  slots [(0, o), (1, o)] -/
noncomputable def ir90 : IR :=
  .seq (.reg [.eff none (some 1) (.box 119 (.tmp 0)) 0,
     .asg none 2 (.const (.bool false)),
     .asg none 5 (.op1 .load1 (.op1 (.fadr 2) (.op1 (.fadr 0) (.var 1)))),
     .eff none (some 6) (.makeFunc (.func 100) #[] #[(.tmp 1)]) 135,
     .eff none (some 7) (.call { callee := .value (.func 98), args := #[(.tmp 5), (.tmp 6)], argTypes := #[43, 135] }) 4,
     .asg none 2 (.op1 .not (.var 7))]) <|
  .ret
def ir90_V : List Nat := [0, 1, 2, 5, 6, 7]
theorem ir90_ok : (comp Tryd.prog Tryd.f90.ntmps ir90_V [] (Tryd.f90.body.getD .skip)).map IR.norm = some ir90 := by kernel_rfl
theorem ir90_calls {v0 : Value} {w : World} {R : Ending → World → Prop} (h : ∀ ρ : Env, ρ 0 = v0 → ir90.wp ⟨Tryd.prog, 9, ir90_V, []⟩ (retK [.tmp 2] R) (ksOf [.tmp 2] R) ρ w) :
    Calls Tryd.prog 90 #[v0] w R := by
  obtain ⟨ir0, h1, h2⟩ := Option.map_eq_some_iff.1 ir90_ok
  exact calls_ir (args := #[v0]) Tryd.func90 (c := Tryd.f90.body.getD .skip) rfl h1 h2 (by kernel_rfl) (show rvsOf Tryd.prog ir90_V Tryd.f90.results.toList = some [.tmp 2] by kernel_rfl) (Nat.le_of_ble_eq_true rfl) (h _ rfl)

/-! ### 44: argus/link.Check  params #[45] results #[29]  slots [(0, o), (1, o), (4, rule)] -/
noncomputable def ir44_k0 : IR :=
  .reg [.asg none 6 (.op2 (.ibin .add .i64) (.var 6) (.const (.int .i64 1)))]
noncomputable def ir44_k1 : IR :=
  .seq (.block 1 (.seq (.reg [.eff none (some 8) (.index 116 (.tmp 5) (.tmp 6)) 115,
       .asg none 4 (.var 8),
       .asg none 9 (.var 4),
       .asg none 10 (.op1 (.loadN 3) (.var 1)),
       .eff none (some 11) (.build 119 #[(0, (.tmp 10))]) 119,
       .eff none (some 12) (.call { callee := .value (.tmp 9), args := #[(.tmp 11)], argTypes := #[119] }) 4,
       .asg none 13 (.op1 .not (.var 12))]) <|
    .cond (.var 13)
     (.seq (.reg [.asg none 2 (.const (.int .i64 161))]) <|
      .ret)
     (.skip)))
  (ir44_k0)
noncomputable def ir44_l2 : IR :=
  .seq (.reg [.asg none 7 (.op2 (.ibin .lss .i64) (.var 6) (.const (.int .i64 4)))]) <|
  .seq (.cond (.var 7)
    (.skip)
    (.exit 0))
  (ir44_k1)
noncomputable def ir44_k3 : IR :=
  .seq (.reg [.asg none 2 (.const (.int .i64 0))]) <|
  .ret
noncomputable def ir44 : IR :=
  .seq (.reg [.eff none (some 1) (.box 45 (.tmp 0)) 0,
     .asg none 2 (.const (.int .i64 0)),
     .eff none (some 5) (.call { callee := .value (.func 74), args := #[], argTypes := #[] }) 116,
     .asg none 6 (.const (.int .i64 0))]) <|
  .seq (.block 0 (.loop ir44_l2))
  (ir44_k3)
def ir44_V : List Nat := [0, 1, 2, 4, 5, 6, 7, 8, 9, 10, 11, 12, 13]
theorem ir44_ok : (comp Tryd.prog Tryd.f44.ntmps ir44_V [] (Tryd.f44.body.getD .skip)).map IR.norm = some ir44 := by kernel_rfl
theorem ir44_calls {v0 : Value} {w : World} {R : Ending → World → Prop} (h : ∀ ρ : Env, ρ 0 = v0 → ir44.wp ⟨Tryd.prog, 15, ir44_V, []⟩ (retK [.tmp 2] R) (ksOf [.tmp 2] R) ρ w) :
    Calls Tryd.prog 44 #[v0] w R := by
  obtain ⟨ir0, h1, h2⟩ := Option.map_eq_some_iff.1 ir44_ok
  exact calls_ir (args := #[v0]) Tryd.func44 (c := Tryd.f44.body.getD .skip) rfl h1 h2 (by kernel_rfl) (show rvsOf Tryd.prog ir44_V Tryd.f44.results.toList = some [.tmp 2] by kernel_rfl) (Nat.le_of_ble_eq_true rfl) (h _ rfl)

/-! ### 31: argus/link.CheckAll  params #[42] results #[3, 29]  slots [(0, l), (4, seen), (5, i), (6, o), (7, e)] -/
noncomputable def ir31_k0 : IR :=
  .reg [.asg none 30 (.var 4),
    .asg none 32 (.op1 .load1 (.op1 (.fadr 0) (.var 6))),
    .eff none none (.mapUpdate 100 (.tmp 30) (.tmp 32) (.const (.bool true))) 0]
noncomputable def ir31_k1 : IR :=
  .seq (.reg [.asg none 25 (.var 4),
     .asg none 27 (.op1 .load1 (.op1 (.fadr 0) (.var 6))),
     .eff none (some 28) (.lookup 100 (.tmp 25) (.tmp 27) false) 4]) <|
  .seq (.cond (.var 28)
    (.seq (.reg [.asg none 2 (.var 5),
        .asg none 3 (.const (.int .i64 6))]) <|
     .ret)
    (.skip))
  (ir31_k0)
noncomputable def ir31_k2 : IR :=
  .reg [.asg none 14 (.op2 (.ibin .add .i64) (.var 14) (.const (.int .i64 1)))]
noncomputable def ir31_k3 : IR :=
  .seq (.block 1 (.seq (.reg [.asg none 16 (.var 14),
       .asg none 18 (.op1 (.loadN 3) (.op2 (.ixa 3) (.var 12) (.var 14))),
       .eff none (some 6) (.alloc 45) 0,
       .asg none 5 (.var 16),
       .eff none none (.store 45 (.tmp 6) (.tmp 18)) 0,
       .asg none 19 (.op1 (.loadN 3) (.var 6)),
       .eff none (some 20) (.call { callee := .value (.func 44), args := #[(.tmp 19)], argTypes := #[45] }) 29,
       .asg none 7 (.var 20),
       .asg none 22 (.op2 (.ibin .neq .i64) (.var 7) (.const (.int .i64 0)))]) <|
    .seq (.cond (.var 22)
      (.seq (.reg [.asg none 23 (.var 5),
          .asg none 24 (.var 7),
          .asg none 2 (.var 23),
          .asg none 3 (.var 24)]) <|
       .ret)
      (.skip))
    (ir31_k1)))
  (ir31_k2)
noncomputable def ir31_l4 : IR :=
  .seq (.reg [.asg none 15 (.op2 (.ibin .lss .i64) (.var 14) (.var 13))]) <|
  .seq (.cond (.var 15)
    (.skip)
    (.exit 0))
  (ir31_k3)
noncomputable def ir31_k5 : IR :=
  .seq (.reg [.asg none 2 (.const (.int .i64 0)),
     .asg none 3 (.const (.int .i64 0))]) <|
  .ret
noncomputable def ir31_k6 : IR :=
  .seq (.reg [.eff none (some 11) (.makeMap 100 none) 100,
     .asg none 4 (.var 11),
     .asg none 12 (.var 0),
     .asg none 13 (.op1 .lenS (.var 12)),
     .asg none 14 (.const (.int .i64 0))]) <|
  .seq (.block 0 (.loop ir31_l4))
  (ir31_k5)
noncomputable def ir31 : IR :=
  .seq (.reg [.asg none 2 (.const (.int .i64 0)),
     .asg none 3 (.const (.int .i64 0)),
     .asg none 10 (.op2 (.ibin .gtr .i64) (.op1 .lenS (.var 0)) (.const (.int .i64 60)))]) <|
  .seq (.cond (.var 10)
    (.seq (.reg [.asg none 2 (.const (.int .i64 0)),
        .asg none 3 (.const (.int .i64 2))]) <|
     .ret)
    (.skip))
  (ir31_k6)
def ir31_V : List Nat := [0, 2, 3, 4, 5, 6, 7, 10, 11, 12, 13, 14, 15, 16, 18, 19, 20, 22, 23, 24, 25, 27, 28, 30, 32]
theorem ir31_ok : (comp Tryd.prog Tryd.f31.ntmps ir31_V [] (Tryd.f31.body.getD .skip)).map IR.norm = some ir31 := by kernel_rfl
theorem ir31_calls {v0 : Value} {w : World} {R : Ending → World → Prop} (h : ∀ ρ : Env, ρ 0 = v0 → ir31.wp ⟨Tryd.prog, 34, ir31_V, []⟩ (retK [.tmp 2, .tmp 3] R) (ksOf [.tmp 2, .tmp 3] R) ρ w) :
    Calls Tryd.prog 31 #[v0] w R := by
  obtain ⟨ir0, h1, h2⟩ := Option.map_eq_some_iff.1 ir31_ok
  exact calls_ir (args := #[v0]) Tryd.func31 (c := Tryd.f31.body.getD .skip) rfl h1 h2 (by kernel_rfl) (show rvsOf Tryd.prog ir31_V Tryd.f31.results.toList = some [.tmp 2, .tmp 3] by kernel_rfl) (Nat.le_of_ble_eq_true rfl) (h _ rfl)

/-! ### 72: argus/link.sorted[string]  params #[100] results #[22]  slots [(0, set), (3, out), (4, k)] -/
noncomputable def ir72_k0 : IR :=
  .block 1 (.reg [.eff none (some 9) (.entry (.tmp 6)) 0,
     .asg none 4 (.op1 (.ext 0) (.var 9)),
     .asg none 11 (.var 3),
     .asg none 12 (.var 4),
     .eff none (some 13) (.buildSlice 22 1 #[(0, (.tmp 12))]) 22,
     .eff none (some 14) (.call { callee := .builtin .append, args := #[(.tmp 11), (.tmp 13)], argTypes := #[22, 22] }) 22,
     .asg none 3 (.var 14)])
noncomputable def ir72_l1 : IR :=
  .seq (.reg [.eff none (some 7) (.next (.tmp 6) false) 0,
     .asg none 8 (.op1 (.ext 0) (.var 7))]) <|
  .seq (.cond (.var 8)
    (.skip)
    (.exit 0))
  (ir72_k0)
noncomputable def ir72_k2 : IR :=
  .seq (.reg [.asg none 15 (.var 3),
     .eff none (some 16) (.call { callee := .value (.func 86), args := #[(.tmp 15)], argTypes := #[22] }) 0,
     .asg none 2 (.var 3)]) <|
  .ret
noncomputable def ir72 : IR :=
  .seq (.reg [.asg none 2 (.const (.slice none 0 0)),
     .asg none 3 (.const (.slice none 0 0)),
     .asg none 5 (.var 0),
     .eff none (some 6) (.range 100 (.tmp 5)) 0]) <|
  .seq (.block 0 (.loop ir72_l1))
  (ir72_k2)
def ir72_V : List Nat := [0, 2, 3, 4, 5, 6, 7, 8, 9, 11, 12, 13, 14, 15, 16]
theorem ir72_ok : (comp Tryd.prog Tryd.f72.ntmps ir72_V [] (Tryd.f72.body.getD .skip)).map IR.norm = some ir72 := by kernel_rfl
theorem ir72_calls {v0 : Value} {w : World} {R : Ending → World → Prop} (h : ∀ ρ : Env, ρ 0 = v0 → ir72.wp ⟨Tryd.prog, 18, ir72_V, []⟩ (retK [.tmp 2] R) (ksOf [.tmp 2] R) ρ w) :
    Calls Tryd.prog 72 #[v0] w R := by
  obtain ⟨ir0, h1, h2⟩ := Option.map_eq_some_iff.1 ir72_ok
  exact calls_ir (args := #[v0]) Tryd.func72 (c := Tryd.f72.body.getD .skip) rfl h1 h2 (by kernel_rfl) (show rvsOf Tryd.prog ir72_V Tryd.f72.results.toList = some [.tmp 2] by kernel_rfl) (Nat.le_of_ble_eq_true rfl) (h _ rfl)

/-! ### 71: argus/link.needs  params #[45] results #[111]  slots [(0, o), (1, o)] -/
noncomputable def ir71 : IR :=
  .seq (.reg [.eff none (some 1) (.box 45 (.tmp 0)) 0,
     .asg none 2 (.const .nilFunc),
     .eff none (some 3) (.makeFunc (.func 85) #[] #[(.tmp 1)]) 111,
     .asg none 2 (.var 3)]) <|
  .ret
def ir71_V : List Nat := [0, 1, 2, 3]
theorem ir71_ok : (comp Tryd.prog Tryd.f71.ntmps ir71_V [] (Tryd.f71.body.getD .skip)).map IR.norm = some ir71 := by kernel_rfl
theorem ir71_calls {v0 : Value} {w : World} {R : Ending → World → Prop} (h : ∀ ρ : Env, ρ 0 = v0 → ir71.wp ⟨Tryd.prog, 4, ir71_V, []⟩ (retK [.tmp 2] R) (ksOf [.tmp 2] R) ρ w) :
    Calls Tryd.prog 71 #[v0] w R := by
  obtain ⟨ir0, h1, h2⟩ := Option.map_eq_some_iff.1 ir71_ok
  exact calls_ir (args := #[v0]) Tryd.func71 (c := Tryd.f71.body.getD .skip) rfl h1 h2 (by kernel_rfl) (show rvsOf Tryd.prog ir71_V Tryd.f71.results.toList = some [.tmp 2] by kernel_rfl) (Nat.le_of_ble_eq_true rfl) (h _ rfl)

/-! ### 85: argus/link.needs$1  params #[77] results #[]  slots [(0, yield), (4, r)] -/
noncomputable def ir85_k0 : IR :=
  .reg [.asg none 8 (.op2 (.ibin .add .i64) (.var 8) (.const (.int .i64 1)))]
noncomputable def ir85_k1 : IR :=
  .seq (.block 1 (.seq (.reg [.asg none 11 (.op1 (.loadN 2) (.op2 (.ixa 2) (.var 6) (.var 8))),
       .eff none (some 4) (.alloc 54) 0,
       .eff none none (.store 54 (.tmp 4) (.tmp 11)) 0,
       .asg none 12 (.var 0),
       .asg none 14 (.op1 .load1 (.op1 (.fadr 1) (.var 4))),
       .eff none (some 15) (.call { callee := .value (.tmp 12), args := #[(.tmp 14)], argTypes := #[9] }) 4,
       .asg none 16 (.op1 .not (.var 15))]) <|
    .cond (.var 16)
     (.ret)
     (.skip)))
  (ir85_k0)
noncomputable def ir85_l2 : IR :=
  .seq (.reg [.asg none 9 (.op2 (.ibin .lss .i64) (.var 8) (.var 7))]) <|
  .seq (.cond (.var 9)
    (.skip)
    (.exit 0))
  (ir85_k1)
noncomputable def ir85 : IR :=
  .seq (.reg [.asg none 6 (.op1 .load1 (.op1 (.fadr 2) (.var 1))),
     .asg none 7 (.op1 .lenS (.var 6)),
     .asg none 8 (.const (.int .i64 0))]) <|
  .block 0 (.loop ir85_l2)
def ir85_V : List Nat := [0, 1, 4, 6, 7, 8, 9, 11, 12, 14, 15, 16]
theorem ir85_ok : (comp Tryd.prog Tryd.f85.ntmps ir85_V [] (Tryd.f85.body.getD .skip)).map IR.norm = some ir85 := by kernel_rfl
theorem ir85_calls {v0 : Value} {w : World} {R : Ending → World → Prop} (h : ∀ ρ : Env, ρ 0 = v0 → ir85.wp ⟨Tryd.prog, 18, ir85_V, []⟩ (retK [] R) (ksOf [] R) ρ w) :
    Calls Tryd.prog 85 #[v0] w R := by
  obtain ⟨ir0, h1, h2⟩ := Option.map_eq_some_iff.1 ir85_ok
  exact calls_ir (args := #[v0]) Tryd.func85 (c := Tryd.f85.body.getD .skip) rfl h1 h2 (by kernel_rfl) (show rvsOf Tryd.prog ir85_V Tryd.f85.results.toList = some [] by kernel_rfl) (Nat.le_of_ble_eq_true rfl) (h _ rfl)

/-! ### 42: argus/link.Needs  params #[45] results #[22, 29]  slots [(0, o), (1, o), (4, e), (5, set), (6, name)] -/
noncomputable def ir42_body : Code := (Tryd.f42.body).getD .skip
noncomputable def ir42_k0 : IR :=
  .seq (.reg [.asg none 18 (.op1 .load1 (.var 5)),
     .eff none (some 19) (.call { callee := .value (.func 72), args := #[(.tmp 18)], argTypes := #[100] }) 22,
     .asg none 2 (.var 19),
     .asg none 3 (.const (.int .i64 0))]) <|
  .ret
noncomputable def ir42_k1 : IR :=
  .seq (.reg [.eff none (some 12) (.makeMap 100 none) 100,
     .eff none (some 5) (.alloc 100) 0,
     .eff none none (.store 100 (.tmp 5) (.tmp 12)) 0,
     .asg none 13 (.op1 (.loadN 3) (.var 1)),
     .eff none (some 14) (.call { callee := .value (.func 71), args := #[(.tmp 13)], argTypes := #[45] }) 111]) <|
  .seq (.block 0 (.raw (rawRf ir42_body)))
  (ir42_k0)
noncomputable def ir42 : IR :=
  .seq (.reg [.eff none (some 1) (.box 45 (.tmp 0)) 0,
     .asg none 2 (.const (.slice none 0 0)),
     .asg none 3 (.const (.int .i64 0)),
     .asg none 7 (.op1 (.loadN 3) (.var 1)),
     .eff none (some 8) (.call { callee := .value (.func 44), args := #[(.tmp 7)], argTypes := #[45] }) 29,
     .asg none 4 (.var 8),
     .asg none 10 (.op2 (.ibin .neq .i64) (.var 4) (.const (.int .i64 0)))]) <|
  .seq (.cond (.var 10)
    (.seq (.reg [.asg none 11 (.var 4),
        .asg none 2 (.const (.slice none 0 0)),
        .asg none 3 (.var 11)]) <|
     .ret)
    (.skip))
  (ir42_k1)
def ir42_V : List Nat := [0, 1, 2, 3, 4, 5, 6, 7, 8, 10, 11, 12, 13, 14, 15, 16, 17, 18, 19]
theorem ir42_ok : (comp Tryd.prog Tryd.f42.ntmps ir42_V [] (Tryd.f42.body.getD .skip)).map IR.norm = some ir42 := by kernel_rfl
theorem ir42_calls {v0 : Value} {w : World} {R : Ending → World → Prop} (h : ∀ ρ : Env, ρ 0 = v0 → ir42.wp ⟨Tryd.prog, 20, ir42_V, []⟩ (retK [.tmp 2, .tmp 3] R) (ksOf [.tmp 2, .tmp 3] R) ρ w) :
    Calls Tryd.prog 42 #[v0] w R := by
  obtain ⟨ir0, h1, h2⟩ := Option.map_eq_some_iff.1 ir42_ok
  exact calls_ir (args := #[v0]) Tryd.func42 (c := Tryd.f42.body.getD .skip) rfl h1 h2 (by kernel_rfl) (show rvsOf Tryd.prog ir42_V Tryd.f42.results.toList = some [.tmp 2, .tmp 3] by kernel_rfl) (Nat.le_of_ble_eq_true rfl) (h _ rfl)

/-! ### 67: argus/link.opened  params #[42, 22] results #[104, 29]  slots [(0, l), (1, roots), (6, _), (7, e), (8, out), (10, o)] -/
noncomputable def ir67_k0 : IR :=
  .reg [.asg none 25 (.op2 (.ibin .add .i64) (.var 25) (.const (.int .i64 1)))]
noncomputable def ir67_k1 : IR :=
  .seq (.block 1 (.reg [.asg none 28 (.op1 (.loadN 3) (.op2 (.ixa 3) (.var 23) (.var 25))),
      .eff none (some 10) (.alloc 45) 0,
      .eff none none (.store 45 (.tmp 10) (.tmp 28)) 0,
      .asg none 29 (.var 8),
      .asg none 31 (.op1 .load1 (.op1 (.fadr 0) (.var 10))),
      .asg none 32 (.op1 (.loadN 3) (.var 10)),
      .eff none none (.mapUpdate 104 (.tmp 29) (.tmp 31) (.tmp 32)) 0]))
  (ir67_k0)
noncomputable def ir67_l2 : IR :=
  .seq (.reg [.asg none 26 (.op2 (.ibin .lss .i64) (.var 25) (.var 24))]) <|
  .seq (.cond (.var 26)
    (.skip)
    (.exit 0))
  (ir67_k1)
noncomputable def ir67_k3 : IR :=
  .seq (.reg [.asg none 4 (.var 8),
     .asg none 5 (.const (.int .i64 0))]) <|
  .ret
noncomputable def ir67_k4 : IR :=
  .seq (.reg [.eff none (some 22) (.makeMap 104 none) 104,
     .asg none 8 (.var 22),
     .asg none 23 (.var 0),
     .asg none 24 (.op1 .lenS (.var 23)),
     .asg none 25 (.const (.int .i64 0))]) <|
  .seq (.block 0 (.loop ir67_l2))
  (ir67_k3)
noncomputable def ir67_k5 : IR :=
  .seq (.reg [.asg none 21 (.op2 (.ibin .gtr .i64) (.op1 .lenS (.var 1)) (.const (.int .i64 60)))]) <|
  .seq (.cond (.var 21)
    (.seq (.reg [.asg none 4 (.const (.map none)),
        .asg none 5 (.const (.int .i64 2))]) <|
     .ret)
    (.skip))
  (ir67_k4)
noncomputable def ir67 : IR :=
  .seq (.reg [.asg none 4 (.const (.map none)),
     .asg none 5 (.const (.int .i64 0)),
     .asg none 12 (.var 0),
     .eff none (some 13) (.call { callee := .value (.func 31), args := #[(.tmp 12)], argTypes := #[42] }) 50,
     .asg none 11 (.var 13),
     .asg none 14 (.op1 (.ext 0) (.var 11)),
     .asg none 15 (.op1 (.ext 1) (.var 11)),
     .asg none 6 (.var 14),
     .asg none 7 (.var 15),
     .asg none 17 (.op2 (.ibin .neq .i64) (.var 7) (.const (.int .i64 0)))]) <|
  .seq (.cond (.var 17)
    (.seq (.reg [.asg none 18 (.var 7),
        .asg none 4 (.const (.map none)),
        .asg none 5 (.var 18)]) <|
     .ret)
    (.skip))
  (ir67_k5)
def ir67_V : List Nat := [0, 1, 4, 5, 6, 7, 8, 10, 11, 12, 13, 14, 15, 17, 18, 21, 22, 23, 24, 25, 26, 28, 29, 31, 32]
theorem ir67_ok : (comp Tryd.prog Tryd.f67.ntmps ir67_V [] (Tryd.f67.body.getD .skip)).map IR.norm = some ir67 := by kernel_rfl
theorem ir67_calls {v0 v1 : Value} {w : World} {R : Ending → World → Prop} (h : ∀ ρ : Env, ρ 0 = v0 → ρ 1 = v1 → ir67.wp ⟨Tryd.prog, 35, ir67_V, []⟩ (retK [.tmp 4, .tmp 5] R) (ksOf [.tmp 4, .tmp 5] R) ρ w) :
    Calls Tryd.prog 67 #[v0, v1] w R := by
  obtain ⟨ir0, h1, h2⟩ := Option.map_eq_some_iff.1 ir67_ok
  exact calls_ir (args := #[v0, v1]) Tryd.func67 (c := Tryd.f67.body.getD .skip) rfl h1 h2 (by kernel_rfl) (show rvsOf Tryd.prog ir67_V Tryd.f67.results.toList = some [.tmp 4, .tmp 5] by kernel_rfl) (Nat.le_of_ble_eq_true rfl) (h _ rfl rfl)

/-! ### 68: (argus/link.library).reached  params #[104, 22] results #[22, 22]  slots [(0, l), (1, roots), (2, l), (4, all), (5, missing), (6, seen), (7, lost), (8, visit), (10, r)] -/
noncomputable def ir68_k0 : IR :=
  .reg [.asg none 16 (.op2 (.ibin .add .i64) (.var 16) (.const (.int .i64 1)))]
noncomputable def ir68_k1 : IR :=
  .seq (.block 1 (.reg [.asg none 10 (.op1 .load1 (.op2 (.ixa 1) (.var 14) (.var 16))),
      .asg none 20 (.op1 .load1 (.var 8)),
      .asg none 21 (.var 10),
      .eff none (some 22) (.call { callee := .value (.tmp 20), args := #[(.tmp 21)], argTypes := #[9] }) 0]))
  (ir68_k0)
noncomputable def ir68_l2 : IR :=
  .seq (.reg [.asg none 17 (.op2 (.ibin .lss .i64) (.var 16) (.var 15))]) <|
  .seq (.cond (.var 17)
    (.skip)
    (.exit 0))
  (ir68_k1)
noncomputable def ir68_k3 : IR :=
  .ret
noncomputable def ir68_k4 : IR :=
  .seq (.drw [.asg none 24 (.op1 .load1 (.var 6)),
     .eff none (some 25) (.call { callee := .value (.func 72), args := #[(.tmp 24)], argTypes := #[100] }) 22,
     .asg none 26 (.op1 .load1 (.var 7)),
     .eff none (some 27) (.call { callee := .value (.func 72), args := #[(.tmp 26)], argTypes := #[100] }) 22,
     .asg none 4 (.var 25),
     .asg none 5 (.var 27)])
  (ir68_k3)
noncomputable def ir68 : IR :=
  .seq (.reg [.eff none (some 2) (.box 104 (.tmp 0)) 0,
     .asg none 4 (.const (.slice none 0 0)),
     .asg none 5 (.const (.slice none 0 0)),
     .eff none (some 11) (.makeMap 100 none) 100,
     .eff none (some 12) (.makeMap 100 none) 100,
     .eff none (some 6) (.alloc 100) 0,
     .eff none (some 7) (.alloc 100) 0,
     .eff none none (.store 100 (.tmp 6) (.tmp 11)) 0,
     .eff none none (.store 100 (.tmp 7) (.tmp 12)) 0,
     .eff none (some 8) (.alloc 127) 0,
     .eff none (some 13) (.makeFunc (.func 84) #[] #[(.tmp 6), (.tmp 2), (.tmp 7), (.tmp 8)]) 127,
     .eff none none (.store 127 (.tmp 8) (.tmp 13)) 0,
     .asg none 14 (.var 1),
     .asg none 15 (.op1 .lenS (.var 14)),
     .asg none 16 (.const (.int .i64 0))]) <|
  .seq (.block 0 (.loop ir68_l2))
  (ir68_k4)
def ir68_V : List Nat := [0, 1, 2, 4, 5, 6, 7, 8, 10, 11, 12, 13, 14, 15, 16, 17, 20, 21, 22, 24, 25, 26, 27]
theorem ir68_ok : (comp Tryd.prog Tryd.f68.ntmps ir68_V [] (Tryd.f68.body.getD .skip)).map IR.norm = some ir68 := by kernel_rfl
theorem ir68_calls {v0 v1 : Value} {w : World} {R : Ending → World → Prop} (h : ∀ ρ : Env, ρ 0 = v0 → ρ 1 = v1 → ir68.wp ⟨Tryd.prog, 28, ir68_V, []⟩ (retK [.tmp 4, .tmp 5] R) (ksOf [.tmp 4, .tmp 5] R) ρ w) :
    Calls Tryd.prog 68 #[v0, v1] w R := by
  obtain ⟨ir0, h1, h2⟩ := Option.map_eq_some_iff.1 ir68_ok
  exact calls_ir (args := #[v0, v1]) Tryd.func68 (c := Tryd.f68.body.getD .skip) rfl h1 h2 (by kernel_rfl) (show rvsOf Tryd.prog ir68_V Tryd.f68.results.toList = some [.tmp 4, .tmp 5] by kernel_rfl) (Nat.le_of_ble_eq_true rfl) (h _ rfl rfl)

/-! ### 84: (argus/link.library).reached$1  params #[9] results #[]  slots [(0, name), (6, o), (7, is), (8, next)] -/
noncomputable def ir84_body : Code := (Tryd.f84.body).getD .skip
noncomputable def ir84_k0 : IR :=
  .seq (.reg [.asg none 24 (.op1 (.loadN 3) (.var 6)),
     .eff none (some 25) (.call { callee := .value (.func 71), args := #[(.tmp 24)], argTypes := #[45] }) 111]) <|
  .block 0 (.raw (rawRf ir84_body))
noncomputable def ir84_k1 : IR :=
  .seq (.reg [.asg none 12 (.op1 .load1 (.var 1)),
     .asg none 13 (.var 0),
     .eff none none (.mapUpdate 100 (.tmp 12) (.tmp 13) (.const (.bool true))) 0,
     .asg none 15 (.op1 .load1 (.var 2)),
     .asg none 16 (.var 0),
     .eff none (some 17) (.lookup 104 (.tmp 15) (.tmp 16) true) 128,
     .asg none 14 (.var 17),
     .asg none 18 (.op1 (.ext 0) (.var 14)),
     .asg none 19 (.op1 (.ext 1) (.var 14)),
     .eff none (some 6) (.alloc 45) 0,
     .eff none none (.store 45 (.tmp 6) (.tmp 18)) 0,
     .asg none 7 (.var 19),
     .asg none 21 (.op1 .not (.var 7))]) <|
  .seq (.cond (.var 21)
    (.reg [.asg none 22 (.op1 .load1 (.var 3)),
       .asg none 23 (.var 0),
       .eff none none (.mapUpdate 100 (.tmp 22) (.tmp 23) (.const (.bool true))) 0])
    (.skip))
  (ir84_k0)
noncomputable def ir84 : IR :=
  .seq (.reg [.asg none 9 (.op1 .load1 (.var 1)),
     .asg none 10 (.var 0),
     .eff none (some 11) (.lookup 100 (.tmp 9) (.tmp 10) false) 4]) <|
  .seq (.cond (.var 11)
    (.ret)
    (.skip))
  (ir84_k1)
def ir84_V : List Nat := [0, 1, 2, 3, 4, 6, 7, 8, 9, 10, 11, 12, 13, 14, 15, 16, 17, 18, 19, 21, 22, 23, 24, 25, 26, 27, 28, 29]
theorem ir84_ok : (comp Tryd.prog Tryd.f84.ntmps ir84_V [] (Tryd.f84.body.getD .skip)).map IR.norm = some ir84 := by kernel_rfl
theorem ir84_calls {v0 : Value} {w : World} {R : Ending → World → Prop} (h : ∀ ρ : Env, ρ 0 = v0 → ir84.wp ⟨Tryd.prog, 30, ir84_V, []⟩ (retK [] R) (ksOf [] R) ρ w) :
    Calls Tryd.prog 84 #[v0] w R := by
  obtain ⟨ir0, h1, h2⟩ := Option.map_eq_some_iff.1 ir84_ok
  exact calls_ir (args := #[v0]) Tryd.func84 (c := Tryd.f84.body.getD .skip) rfl h1 h2 (by kernel_rfl) (show rvsOf Tryd.prog ir84_V Tryd.f84.results.toList = some [] by kernel_rfl) (Nat.le_of_ble_eq_true rfl) (h _ rfl)

/-! ### 34: argus/link.Reached  params #[42, 22] results #[22, 29]  slots [(0, l), (1, roots), (6, x), (7, e), (8, all), (9, _)] -/
noncomputable def ir34_k0 : IR :=
  .seq (.reg [.asg none 20 (.var 6),
     .asg none 21 (.var 1),
     .eff none (some 22) (.call { callee := .value (.func 68), args := #[(.tmp 20), (.tmp 21)], argTypes := #[104, 22] }) 107,
     .asg none 19 (.var 22),
     .asg none 23 (.op1 (.ext 0) (.var 19)),
     .asg none 24 (.op1 (.ext 1) (.var 19)),
     .asg none 8 (.var 23),
     .asg none 9 (.var 24),
     .asg none 4 (.var 8),
     .asg none 5 (.const (.int .i64 0))]) <|
  .ret
noncomputable def ir34 : IR :=
  .seq (.reg [.asg none 4 (.const (.slice none 0 0)),
     .asg none 5 (.const (.int .i64 0)),
     .asg none 11 (.var 0),
     .asg none 12 (.var 1),
     .eff none (some 13) (.call { callee := .value (.func 67), args := #[(.tmp 11), (.tmp 12)], argTypes := #[42, 22] }) 105,
     .asg none 10 (.var 13),
     .asg none 14 (.op1 (.ext 0) (.var 10)),
     .asg none 15 (.op1 (.ext 1) (.var 10)),
     .asg none 6 (.var 14),
     .asg none 7 (.var 15),
     .asg none 17 (.op2 (.ibin .neq .i64) (.var 7) (.const (.int .i64 0)))]) <|
  .seq (.cond (.var 17)
    (.seq (.reg [.asg none 18 (.var 7),
        .asg none 4 (.const (.slice none 0 0)),
        .asg none 5 (.var 18)]) <|
     .ret)
    (.skip))
  (ir34_k0)
def ir34_V : List Nat := [0, 1, 4, 5, 6, 7, 8, 9, 10, 11, 12, 13, 14, 15, 17, 18, 19, 20, 21, 22, 23, 24]
theorem ir34_ok : (comp Tryd.prog Tryd.f34.ntmps ir34_V [] (Tryd.f34.body.getD .skip)).map IR.norm = some ir34 := by kernel_rfl
theorem ir34_calls {v0 v1 : Value} {w : World} {R : Ending → World → Prop} (h : ∀ ρ : Env, ρ 0 = v0 → ρ 1 = v1 → ir34.wp ⟨Tryd.prog, 26, ir34_V, []⟩ (retK [.tmp 4, .tmp 5] R) (ksOf [.tmp 4, .tmp 5] R) ρ w) :
    Calls Tryd.prog 34 #[v0, v1] w R := by
  obtain ⟨ir0, h1, h2⟩ := Option.map_eq_some_iff.1 ir34_ok
  exact calls_ir (args := #[v0, v1]) Tryd.func34 (c := Tryd.f34.body.getD .skip) rfl h1 h2 (by kernel_rfl) (show rvsOf Tryd.prog ir34_V Tryd.f34.results.toList = some [.tmp 4, .tmp 5] by kernel_rfl) (Nat.le_of_ble_eq_true rfl) (h _ rfl rfl)

/-! ### 36: argus/link.Missing  params #[42, 22] results #[22, 29]  slots [(0, l), (1, roots), (6, x), (7, e), (8, _), (9, missing)] -/
noncomputable def ir36_k0 : IR :=
  .seq (.reg [.asg none 20 (.var 6),
     .asg none 21 (.var 1),
     .eff none (some 22) (.call { callee := .value (.func 68), args := #[(.tmp 20), (.tmp 21)], argTypes := #[104, 22] }) 107,
     .asg none 19 (.var 22),
     .asg none 23 (.op1 (.ext 0) (.var 19)),
     .asg none 24 (.op1 (.ext 1) (.var 19)),
     .asg none 8 (.var 23),
     .asg none 9 (.var 24),
     .asg none 4 (.var 9),
     .asg none 5 (.const (.int .i64 0))]) <|
  .ret
noncomputable def ir36 : IR :=
  .seq (.reg [.asg none 4 (.const (.slice none 0 0)),
     .asg none 5 (.const (.int .i64 0)),
     .asg none 11 (.var 0),
     .asg none 12 (.var 1),
     .eff none (some 13) (.call { callee := .value (.func 67), args := #[(.tmp 11), (.tmp 12)], argTypes := #[42, 22] }) 105,
     .asg none 10 (.var 13),
     .asg none 14 (.op1 (.ext 0) (.var 10)),
     .asg none 15 (.op1 (.ext 1) (.var 10)),
     .asg none 6 (.var 14),
     .asg none 7 (.var 15),
     .asg none 17 (.op2 (.ibin .neq .i64) (.var 7) (.const (.int .i64 0)))]) <|
  .seq (.cond (.var 17)
    (.seq (.reg [.asg none 18 (.var 7),
        .asg none 4 (.const (.slice none 0 0)),
        .asg none 5 (.var 18)]) <|
     .ret)
    (.skip))
  (ir36_k0)
def ir36_V : List Nat := [0, 1, 4, 5, 6, 7, 8, 9, 10, 11, 12, 13, 14, 15, 17, 18, 19, 20, 21, 22, 23, 24]
theorem ir36_ok : (comp Tryd.prog Tryd.f36.ntmps ir36_V [] (Tryd.f36.body.getD .skip)).map IR.norm = some ir36 := by kernel_rfl
theorem ir36_calls {v0 v1 : Value} {w : World} {R : Ending → World → Prop} (h : ∀ ρ : Env, ρ 0 = v0 → ρ 1 = v1 → ir36.wp ⟨Tryd.prog, 26, ir36_V, []⟩ (retK [.tmp 4, .tmp 5] R) (ksOf [.tmp 4, .tmp 5] R) ρ w) :
    Calls Tryd.prog 36 #[v0, v1] w R := by
  obtain ⟨ir0, h1, h2⟩ := Option.map_eq_some_iff.1 ir36_ok
  exact calls_ir (args := #[v0, v1]) Tryd.func36 (c := Tryd.f36.body.getD .skip) rfl h1 h2 (by kernel_rfl) (show rvsOf Tryd.prog ir36_V Tryd.f36.results.toList = some [.tmp 4, .tmp 5] by kernel_rfl) (Nat.le_of_ble_eq_true rfl) (h _ rfl rfl)

/-! ### 64: argus/link.linked  params #[42, 22] results #[26, 29]  slots [(0, l), (1, roots), (6, x), (7, e), (8, all), (9, missing), (10, out), (12, name), (13, o), (14, from), (16, r), (17, n), (18, _)] -/
noncomputable def ir64_k0 : IR :=
  .reg [.asg none 68 (.op2 (.ibin .add .i64) (.var 68) (.const (.int .i64 1)))]
noncomputable def ir64_k1 : IR :=
  .seq (.block 3 (.reg [.asg none 71 (.op1 (.loadN 2) (.op2 (.ixa 2) (.var 66) (.var 68))),
      .eff none (some 16) (.alloc 54) 0,
      .eff none none (.store 54 (.tmp 16) (.tmp 71)) 0,
      .asg none 73 (.var 8),
      .asg none 75 (.op1 .load1 (.op1 (.fadr 1) (.var 16))),
      .eff none (some 76) (.call { callee := .value (.func 50), args := #[(.tmp 73), (.tmp 75)], argTypes := #[22, 9] }) 73,
      .asg none 72 (.var 76),
      .asg none 77 (.op1 (.ext 0) (.var 72)),
      .asg none 78 (.op1 (.ext 1) (.var 72)),
      .asg none 17 (.var 77),
      .asg none 18 (.var 78),
      .asg none 85 (.op2 (.slLo 1) (.op1 .load1 (.op1 (.fadr 2) (.var 10))) (.op2 (.ibin .add .i64) (.var 14) (.op1 .load1 (.op1 (.fadr 0) (.var 16))))),
      .asg none 88 (.op1 (.conv .u8) (.op2 (.shf .shr) (.var 17) (.const (.int .u64 8)))),
      .asg none 90 (.op1 (.conv .u8) (.var 17)),
      .eff none (some 91) (.buildSlice 24 2 #[(0, (.tmp 88)), (1, (.tmp 90))]) 24,
      .eff none (some 92) (.call { callee := .builtin .copy, args := #[(.tmp 85), (.tmp 91)], argTypes := #[24, 24] }) 3]))
  (ir64_k0)
noncomputable def ir64_l2 : IR :=
  .seq (.reg [.asg none 69 (.op2 (.ibin .lss .i64) (.var 68) (.var 67))]) <|
  .seq (.cond (.var 69)
    (.skip)
    (.exit 2))
  (ir64_k1)
noncomputable def ir64_k3 : IR :=
  .reg [.asg none 43 (.op2 (.ibin .add .i64) (.var 43) (.const (.int .i64 1)))]
noncomputable def ir64_k4 : IR :=
  .seq (.block 1 (.seq (.reg [.asg none 12 (.op1 .load1 (.op2 (.ixa 1) (.var 41) (.var 43))),
       .asg none 47 (.var 6),
       .asg none 48 (.var 12),
       .eff none (some 49) (.lookup 104 (.tmp 47) (.tmp 48) false) 45,
       .eff none (some 13) (.alloc 45) 0,
       .eff none none (.store 45 (.tmp 13) (.tmp 49)) 0,
       .asg none 14 (.op1 .lenS (.op1 .load1 (.op1 (.fadr 2) (.var 10)))),
       .asg none 54 (.op1 .load1 (.op1 (.fadr 1) (.var 10))),
       .asg none 55 (.var 14),
       .eff none (some 56) (.buildSlice 23 1 #[(0, (.tmp 55))]) 23,
       .eff none (some 57) (.call { callee := .builtin .append, args := #[(.tmp 54), (.tmp 56)], argTypes := #[23, 23] }) 23,
       .asg none 58 (.op1 (.fadr 1) (.var 10)),
       .eff none none (.store 23 (.tmp 58) (.tmp 57)) 0,
       .asg none 60 (.op1 .load1 (.op1 (.fadr 2) (.var 10))),
       .asg none 62 (.op1 .load1 (.op1 (.fadr 1) (.var 13))),
       .eff none (some 63) (.call { callee := .builtin .append, args := #[(.tmp 60), (.tmp 62)], argTypes := #[24, 24] }) 24,
       .asg none 64 (.op1 (.fadr 2) (.var 10)),
       .eff none none (.store 24 (.tmp 64) (.tmp 63)) 0,
       .asg none 66 (.op1 .load1 (.op1 (.fadr 2) (.var 13))),
       .asg none 67 (.op1 .lenS (.var 66)),
       .asg none 68 (.const (.int .i64 0))]) <|
    .block 2 (.loop ir64_l2)))
  (ir64_k3)
noncomputable def ir64_l5 : IR :=
  .seq (.reg [.asg none 44 (.op2 (.ibin .lss .i64) (.var 43) (.var 42))]) <|
  .seq (.cond (.var 44)
    (.skip)
    (.exit 0))
  (ir64_k4)
noncomputable def ir64_k6 : IR :=
  .seq (.reg [.asg none 95 (.op1 (.loadN 3) (.var 10)),
     .eff none none (.store 26 (.tmp 4) (.tmp 95)) 0,
     .asg none 5 (.const (.int .i64 0))]) <|
  .ret
noncomputable def ir64_k7 : IR :=
  .seq (.reg [.asg none 39 (.var 8),
     .eff none (some 40) (.build 26 #[(0, (.tmp 39))]) 26,
     .eff none (some 10) (.alloc 26) 0,
     .eff none none (.store 26 (.tmp 10) (.tmp 40)) 0,
     .asg none 41 (.var 8),
     .asg none 42 (.op1 .lenS (.var 41)),
     .asg none 43 (.const (.int .i64 0))]) <|
  .seq (.block 0 (.loop ir64_l5))
  (ir64_k6)
noncomputable def ir64_k8 : IR :=
  .seq (.reg [.asg none 30 (.var 6),
     .asg none 31 (.var 1),
     .eff none (some 32) (.call { callee := .value (.func 68), args := #[(.tmp 30), (.tmp 31)], argTypes := #[104, 22] }) 107,
     .asg none 29 (.var 32),
     .asg none 33 (.op1 (.ext 0) (.var 29)),
     .asg none 34 (.op1 (.ext 1) (.var 29)),
     .asg none 8 (.var 33),
     .asg none 9 (.var 34),
     .asg none 37 (.op2 (.ibin .gtr .i64) (.op1 .lenS (.var 9)) (.const (.int .i64 0)))]) <|
  .seq (.cond (.var 37)
    (.seq (.reg [.eff none (some 38) (.build 26 #[]) 26,
        .eff none none (.store 26 (.tmp 4) (.tmp 38)) 0,
        .asg none 5 (.const (.int .i64 160))]) <|
     .ret)
    (.skip))
  (ir64_k7)
noncomputable def ir64 : IR :=
  .seq (.reg [.eff none (some 4) (.alloc 26) 0,
     .asg none 5 (.const (.int .i64 0)),
     .asg none 20 (.var 0),
     .asg none 21 (.var 1),
     .eff none (some 22) (.call { callee := .value (.func 67), args := #[(.tmp 20), (.tmp 21)], argTypes := #[42, 22] }) 105,
     .asg none 19 (.var 22),
     .asg none 23 (.op1 (.ext 0) (.var 19)),
     .asg none 24 (.op1 (.ext 1) (.var 19)),
     .asg none 6 (.var 23),
     .asg none 7 (.var 24),
     .asg none 26 (.op2 (.ibin .neq .i64) (.var 7) (.const (.int .i64 0)))]) <|
  .seq (.cond (.var 26)
    (.seq (.reg [.eff none (some 27) (.build 26 #[]) 26,
        .asg none 28 (.var 7),
        .eff none none (.store 26 (.tmp 4) (.tmp 27)) 0,
        .asg none 5 (.var 28)]) <|
     .ret)
    (.skip))
  (ir64_k8)
def ir64_V : List Nat := [0, 1, 4, 5, 6, 7, 8, 9, 10, 12, 13, 14, 16, 17, 18, 19, 20, 21, 22, 23, 24, 26, 27, 28, 29, 30, 31, 32, 33, 34, 37, 38, 39, 40, 41, 42, 43, 44, 47, 48, 49, 54, 55, 56, 57, 58, 60, 62, 63, 64, 66, 67, 68, 69, 71, 72, 73, 75, 76, 77, 78, 85, 88, 90, 91, 92, 95]
theorem ir64_ok : (comp Tryd.prog Tryd.f64.ntmps ir64_V [] (Tryd.f64.body.getD .skip)).map IR.norm = some ir64 := by kernel_rfl
theorem ir64_calls {v0 v1 : Value} {w : World} {R : Ending → World → Prop} (h : ∀ ρ : Env, ρ 0 = v0 → ρ 1 = v1 → ir64.wp ⟨Tryd.prog, 96, ir64_V, []⟩ (retK [.cellN 4 3, .tmp 5] R) (ksOf [.cellN 4 3, .tmp 5] R) ρ w) :
    Calls Tryd.prog 64 #[v0, v1] w R := by
  obtain ⟨ir0, h1, h2⟩ := Option.map_eq_some_iff.1 ir64_ok
  exact calls_ir (args := #[v0, v1]) Tryd.func64 (c := Tryd.f64.body.getD .skip) rfl h1 h2 (by kernel_rfl) (show rvsOf Tryd.prog ir64_V Tryd.f64.results.toList = some [.cellN 4 3, .tmp 5] by kernel_rfl) (Nat.le_of_ble_eq_true rfl) (h _ rfl rfl)

/-! ### 29: argus/link.Link  params #[42, 22] results #[26, 29]  slots [(0, l), (1, roots)] -/
noncomputable def ir29 : IR :=
  .seq (.reg [.eff none (some 4) (.alloc 26) 0,
     .asg none 5 (.const (.int .i64 0)),
     .asg none 6 (.var 0),
     .asg none 7 (.var 1),
     .eff none (some 8) (.call { callee := .value (.func 64), args := #[(.tmp 6), (.tmp 7)], argTypes := #[42, 22] }) 38,
     .asg none 9 (.op1 (.ext 0) (.var 8)),
     .asg none 10 (.op1 (.ext 1) (.var 8)),
     .eff none none (.store 26 (.tmp 4) (.tmp 9)) 0,
     .asg none 5 (.var 10)]) <|
  .ret
def ir29_V : List Nat := [0, 1, 4, 5, 6, 7, 8, 9, 10]
theorem ir29_ok : (comp Tryd.prog Tryd.f29.ntmps ir29_V [] (Tryd.f29.body.getD .skip)).map IR.norm = some ir29 := by kernel_rfl
theorem ir29_calls {v0 v1 : Value} {w : World} {R : Ending → World → Prop} (h : ∀ ρ : Env, ρ 0 = v0 → ρ 1 = v1 → ir29.wp ⟨Tryd.prog, 11, ir29_V, []⟩ (retK [.cellN 4 3, .tmp 5] R) (ksOf [.cellN 4 3, .tmp 5] R) ρ w) :
    Calls Tryd.prog 29 #[v0, v1] w R := by
  obtain ⟨ir0, h1, h2⟩ := Option.map_eq_some_iff.1 ir29_ok
  exact calls_ir (args := #[v0, v1]) Tryd.func29 (c := Tryd.f29.body.getD .skip) rfl h1 h2 (by kernel_rfl) (show rvsOf Tryd.prog ir29_V Tryd.f29.results.toList = some [.cellN 4 3, .tmp 5] by kernel_rfl) (Nat.le_of_ble_eq_true rfl) (h _ rfl rfl)

/-! ### 47: argus/link.CheckLink  params #[42, 22, 26] results #[4, 29]  slots [(0, l), (1, roots), (2, i), (5, i), (8, x), (9, e)] -/
noncomputable def ir47_k0 : IR :=
  .seq (.reg [.asg none 22 (.op1 .load1 (.op1 (.fadr 0) (.var 8))),
     .asg none 24 (.op1 .load1 (.op1 (.fadr 0) (.var 5))),
     .eff none (some 25) (.call { callee := .value (.func 75), args := #[(.tmp 22), (.tmp 24)], argTypes := #[22, 22] }) 4,
     .asg none 26 (.var 25),
     .asg (some (26, true)) 28 (.op1 .load1 (.op1 (.fadr 1) (.var 8))),
     .asg (some (26, true)) 30 (.op1 .load1 (.op1 (.fadr 1) (.var 5))),
     .eff (some (26, true)) (some 31) (.call { callee := .value (.func 76), args := #[(.tmp 28), (.tmp 30)], argTypes := #[23, 23] }) 4,
     .asg none 33 (.ite (.var 26) (.var 31) (.const (.bool false))),
     .asg (some (33, true)) 35 (.op1 .load1 (.op1 (.fadr 2) (.var 8))),
     .asg (some (33, true)) 37 (.op1 .load1 (.op1 (.fadr 2) (.var 5))),
     .eff (some (33, true)) (some 38) (.call { callee := .value (.func 77), args := #[(.tmp 35), (.tmp 37)], argTypes := #[24, 24] }) 4,
     .asg none 6 (.ite (.var 33) (.var 38) (.const (.bool false))),
     .asg none 7 (.const (.int .i64 0))]) <|
  .ret
noncomputable def ir47_k1 : IR :=
  .seq (.reg [.asg none 19 (.op2 (.ibin .neq .i64) (.var 9) (.const (.int .i64 0)))]) <|
  .seq (.cond (.var 19)
    (.seq (.reg [.asg none 20 (.var 9),
        .asg none 6 (.const (.bool false)),
        .asg none 7 (.var 20)]) <|
     .ret)
    (.skip))
  (ir47_k0)
noncomputable def ir47 : IR :=
  .seq (.reg [.eff none (some 5) (.box 26 (.tmp 2)) 0,
     .asg none 6 (.const (.bool false)),
     .asg none 7 (.const (.int .i64 0)),
     .asg none 11 (.var 0),
     .asg none 12 (.var 1),
     .eff none (some 13) (.call { callee := .value (.func 64), args := #[(.tmp 11), (.tmp 12)], argTypes := #[42, 22] }) 38,
     .asg none 10 (.var 13),
     .asg none 14 (.op1 (.ext 0) (.var 10)),
     .asg none 15 (.op1 (.ext 1) (.var 10)),
     .eff none (some 8) (.alloc 26) 0,
     .eff none none (.store 26 (.tmp 8) (.tmp 14)) 0,
     .asg none 9 (.var 15),
     .asg none 17 (.op2 (.ibin .eql .i64) (.var 9) (.const (.int .i64 160)))]) <|
  .seq (.cond (.var 17)
    (.seq (.reg [.asg none 6 (.const (.bool false)),
        .asg none 7 (.const (.int .i64 0))]) <|
     .ret)
    (.skip))
  (ir47_k1)
def ir47_V : List Nat := [0, 1, 2, 5, 6, 7, 8, 9, 10, 11, 12, 13, 14, 15, 17, 19, 20, 22, 24, 25, 26, 28, 30, 31, 33, 35, 37, 38]
theorem ir47_ok : (comp Tryd.prog Tryd.f47.ntmps ir47_V [] (Tryd.f47.body.getD .skip)).map IR.norm = some ir47 := by kernel_rfl
theorem ir47_calls {v0 v1 v2 : Value} {w : World} {R : Ending → World → Prop} (h : ∀ ρ : Env, ρ 0 = v0 → ρ 1 = v1 → ρ 2 = v2 → ir47.wp ⟨Tryd.prog, 40, ir47_V, []⟩ (retK [.tmp 6, .tmp 7] R) (ksOf [.tmp 6, .tmp 7] R) ρ w) :
    Calls Tryd.prog 47 #[v0, v1, v2] w R := by
  obtain ⟨ir0, h1, h2⟩ := Option.map_eq_some_iff.1 ir47_ok
  exact calls_ir (args := #[v0, v1, v2]) Tryd.func47 (c := Tryd.f47.body.getD .skip) rfl h1 h2 (by kernel_rfl) (show rvsOf Tryd.prog ir47_V Tryd.f47.results.toList = some [.tmp 6, .tmp 7] by kernel_rfl) (Nat.le_of_ble_eq_true rfl) (h _ rfl rfl rfl)

/-! ### 38: argus/link.Without  params #[42, 22] results #[42, 29]  slots [(0, l), (1, roots), (6, x), (7, e), (8, all), (9, missing), (10, out), (12, o), (13, _), (14, is)] -/
noncomputable def ir38_body : Code := (Tryd.f38.body).getD .skip
noncomputable def ir38_k0 : IR :=
  .reg [.asg none 55 (.var 10),
    .asg none 56 (.op1 (.loadN 3) (.var 12)),
    .eff none (some 57) (.buildSlice 42 1 #[(0, (.tmp 56))]) 42,
    .eff none (some 58) (.call { callee := .builtin .append, args := #[(.tmp 55), (.tmp 57)], argTypes := #[42, 42] }) 42,
    .asg none 10 (.var 58)]
noncomputable def ir38_k1 : IR :=
  .reg [.asg none 35 (.op2 (.ibin .add .i64) (.var 35) (.const (.int .i64 1)))]
noncomputable def ir38_k2 : IR :=
  .seq (.block 1 (.seq (.reg [.asg none 38 (.op1 (.loadN 3) (.op2 (.ixa 3) (.var 33) (.var 35))),
       .eff none (some 12) (.alloc 45) 0,
       .eff none none (.store 45 (.tmp 12) (.tmp 38)) 0,
       .asg none 40 (.var 8),
       .asg none 42 (.op1 .load1 (.op1 (.fadr 0) (.var 12))),
       .eff none (some 43) (.call { callee := .value (.func 50), args := #[(.tmp 40), (.tmp 42)], argTypes := #[22, 9] }) 73,
       .asg none 39 (.var 43),
       .asg none 44 (.op1 (.ext 0) (.var 39)),
       .asg none 45 (.op1 (.ext 1) (.var 39)),
       .asg none 13 (.var 44),
       .asg none 14 (.var 45),
       .asg none 46 (.var 14)]) <|
    .cond (.var 46)
     (.seq (.raw (rawReg ir38_body 13))
      (ir38_k0))
     (.skip)))
  (ir38_k1)
noncomputable def ir38_l3 : IR :=
  .seq (.reg [.asg none 36 (.op2 (.ibin .lss .i64) (.var 35) (.var 34))]) <|
  .seq (.cond (.var 36)
    (.skip)
    (.exit 0))
  (ir38_k2)
noncomputable def ir38_k4 : IR :=
  .seq (.reg [.asg none 4 (.var 10),
     .asg none 5 (.const (.int .i64 0))]) <|
  .ret
noncomputable def ir38_k5 : IR :=
  .seq (.reg [.asg none 10 (.const (.slice none 0 0)),
     .asg none 33 (.var 0),
     .asg none 34 (.op1 .lenS (.var 33)),
     .asg none 35 (.const (.int .i64 0))]) <|
  .seq (.block 0 (.loop ir38_l3))
  (ir38_k4)
noncomputable def ir38_k6 : IR :=
  .seq (.reg [.asg none 25 (.var 6),
     .asg none 26 (.var 1),
     .eff none (some 27) (.call { callee := .value (.func 68), args := #[(.tmp 25), (.tmp 26)], argTypes := #[104, 22] }) 107,
     .asg none 24 (.var 27),
     .asg none 28 (.op1 (.ext 0) (.var 24)),
     .asg none 29 (.op1 (.ext 1) (.var 24)),
     .asg none 8 (.var 28),
     .asg none 9 (.var 29),
     .asg none 32 (.op2 (.ibin .gtr .i64) (.op1 .lenS (.var 9)) (.const (.int .i64 0)))]) <|
  .seq (.cond (.var 32)
    (.seq (.reg [.asg none 4 (.const (.slice none 0 0)),
        .asg none 5 (.const (.int .i64 160))]) <|
     .ret)
    (.skip))
  (ir38_k5)
noncomputable def ir38 : IR :=
  .seq (.reg [.asg none 4 (.const (.slice none 0 0)),
     .asg none 5 (.const (.int .i64 0)),
     .asg none 16 (.var 0),
     .asg none 17 (.var 1),
     .eff none (some 18) (.call { callee := .value (.func 67), args := #[(.tmp 16), (.tmp 17)], argTypes := #[42, 22] }) 105,
     .asg none 15 (.var 18),
     .asg none 19 (.op1 (.ext 0) (.var 15)),
     .asg none 20 (.op1 (.ext 1) (.var 15)),
     .asg none 6 (.var 19),
     .asg none 7 (.var 20),
     .asg none 22 (.op2 (.ibin .neq .i64) (.var 7) (.const (.int .i64 0)))]) <|
  .seq (.cond (.var 22)
    (.seq (.reg [.asg none 23 (.var 7),
        .asg none 4 (.const (.slice none 0 0)),
        .asg none 5 (.var 23)]) <|
     .ret)
    (.skip))
  (ir38_k6)
def ir38_V : List Nat := [0, 1, 4, 5, 6, 7, 8, 9, 10, 12, 13, 14, 15, 16, 17, 18, 19, 20, 22, 23, 24, 25, 26, 27, 28, 29, 32, 33, 34, 35, 36, 38, 39, 40, 42, 43, 44, 45, 46, 47, 48, 49, 50, 51, 52, 53, 54, 55, 56, 57, 58]
theorem ir38_ok : (comp Tryd.prog Tryd.f38.ntmps ir38_V [13] (Tryd.f38.body.getD .skip)).map IR.norm = some ir38 := by kernel_rfl
theorem ir38_calls {v0 v1 : Value} {w : World} {R : Ending → World → Prop} (h : ∀ ρ : Env, ρ 0 = v0 → ρ 1 = v1 → ir38.wp ⟨Tryd.prog, 61, ir38_V, []⟩ (retK [.tmp 4, .tmp 5] R) (ksOf [.tmp 4, .tmp 5] R) ρ w) :
    Calls Tryd.prog 38 #[v0, v1] w R := by
  obtain ⟨ir0, h1, h2⟩ := Option.map_eq_some_iff.1 ir38_ok
  exact calls_ir (args := #[v0, v1]) Tryd.func38 (c := Tryd.f38.body.getD .skip) rfl h1 h2 (by kernel_rfl) (show rvsOf Tryd.prog ir38_V Tryd.f38.results.toList = some [.tmp 4, .tmp 5] by kernel_rfl) (Nat.le_of_ble_eq_true rfl) (h _ rfl rfl)

/-! ### 49: argus/arguslaw16.four  params #[] results #[42]  slots [] -/
noncomputable def ir49 : IR :=
  .seq (.reg [.asg none 0 (.const (.slice none 0 0)),
     .eff none (some 1) (.buildSlice 24 4 #[(0, (.const (.int .u8 7))), (1, (.const (.int .u8 0))), (2, (.const (.int .u8 0))), (3, (.const (.int .u8 9)))]) 24,
     .eff none (some 2) (.build 54 #[(0, (.const (.int .i64 1))), (1, (.const (.string ⟨#[102]⟩)))]) 54,
     .eff none (some 3) (.buildSlice 43 1 #[(0, (.tmp 2))]) 43,
     .eff none (some 4) (.build 45 #[(0, (.const (.string ⟨#[109]⟩))), (1, (.tmp 1)), (2, (.tmp 3))]) 45,
     .eff none (some 5) (.buildSlice 24 5 #[(0, (.const (.int .u8 1))), (1, (.const (.int .u8 0))), (2, (.const (.int .u8 0))), (3, (.const (.int .u8 0))), (4, (.const (.int .u8 0)))]) 24,
     .eff none (some 6) (.build 54 #[(0, (.const (.int .i64 1))), (1, (.const (.string ⟨#[102]⟩)))]) 54,
     .eff none (some 7) (.build 54 #[(0, (.const (.int .i64 3))), (1, (.const (.string ⟨#[103]⟩)))]) 54,
     .eff none (some 8) (.buildSlice 43 2 #[(0, (.tmp 6)), (1, (.tmp 7))]) 43,
     .eff none (some 9) (.build 45 #[(0, (.const (.string ⟨#[102]⟩))), (1, (.tmp 5)), (2, (.tmp 8))]) 45,
     .eff none (some 10) (.buildSlice 24 1 #[(0, (.const (.int .u8 5)))]) 24,
     .eff none (some 11) (.build 45 #[(0, (.const (.string ⟨#[103]⟩))), (1, (.tmp 10))]) 45,
     .eff none (some 12) (.buildSlice 24 2 #[(0, (.const (.int .u8 0))), (1, (.const (.int .u8 0)))]) 24,
     .eff none (some 13) (.build 54 #[(1, (.const (.string ⟨#[120]⟩)))]) 54,
     .eff none (some 14) (.buildSlice 43 1 #[(0, (.tmp 13))]) 43,
     .eff none (some 15) (.build 45 #[(0, (.const (.string ⟨#[104]⟩))), (1, (.tmp 12)), (2, (.tmp 14))]) 45,
     .eff none (some 16) (.buildSlice 42 4 #[(0, (.tmp 4)), (1, (.tmp 9)), (2, (.tmp 11)), (3, (.tmp 15))]) 42,
     .asg none 0 (.var 16)]) <|
  .ret
def ir49_V : List Nat := [0, 1, 2, 3, 4, 5, 6, 7, 8, 9, 10, 11, 12, 13, 14, 15, 16]
theorem ir49_ok : (comp Tryd.prog Tryd.f49.ntmps ir49_V [] (Tryd.f49.body.getD .skip)).map IR.norm = some ir49 := by kernel_rfl
theorem ir49_calls {w : World} {R : Ending → World → Prop} (h : ∀ ρ : Env, ir49.wp ⟨Tryd.prog, 17, ir49_V, []⟩ (retK [.tmp 0] R) (ksOf [.tmp 0] R) ρ w) :
    Calls Tryd.prog 49 #[] w R := by
  obtain ⟨ir0, h1, h2⟩ := Option.map_eq_some_iff.1 ir49_ok
  exact calls_ir (args := #[]) Tryd.func49 (c := Tryd.f49.body.getD .skip) rfl h1 h2 (by kernel_rfl) (show rvsOf Tryd.prog ir49_V Tryd.f49.results.toList = some [.tmp 0] by kernel_rfl) (Nat.le_of_ble_eq_true rfl) (h _ )

/-! ### 27: argus/arguslaw16.few  params #[42] results #[4]  slots [(0, l), (3, i), (4, k)] -/
noncomputable def ir27_k0 : IR :=
  .reg [.asg none 4 (.op2 (.ibin .add .i64) (.var 4) (.const (.int .i64 1)))]
noncomputable def ir27_k1 : IR :=
  .seq (.block 3 (.seq (.reg [.asg none 74 (.op2 (.ibin .gtr .i64) (.op1 .lenT (.op1 .load1 (.op1 (.fadr 1) (.op2 (.ixa 2) (.op1 .load1 (.op1 (.fadr 2) (.op2 (.ixa 3) (.var 0) (.var 3)))) (.var 4))))) (.const (.int .i64 130)))]) <|
    .cond (.var 74)
     (.seq (.reg [.asg none 2 (.const (.bool false))]) <|
      .ret)
     (.skip)))
  (ir27_k0)
noncomputable def ir27_l2 : IR :=
  .seq (.reg [.asg none 61 (.op2 (.ibin .lss .i64) (.var 4) (.op1 .lenS (.op1 .load1 (.op1 (.fadr 2) (.op2 (.ixa 3) (.var 0) (.var 3))))))]) <|
  .seq (.cond (.var 61)
    (.skip)
    (.exit 2))
  (ir27_k1)
noncomputable def ir27_k3 : IR :=
  .seq (.reg [.asg none 4 (.const (.int .i64 0))]) <|
  .block 2 (.loop ir27_l2)
noncomputable def ir27_k4 : IR :=
  .reg [.asg none 3 (.op2 (.ibin .add .i64) (.var 3) (.const (.int .i64 1)))]
noncomputable def ir27_k5 : IR :=
  .seq (.block 1 (.seq (.reg [.asg none 53 (.ite (.ite (.ite (.ite (.op2 (.ibin .gtr .i64) (.op1 .lenS (.op1 .load1 (.op1 (.fadr 1) (.op2 (.ixa 3) (.var 0) (.var 3))))) (.const (.int .i64 60))) (.op2 (.ibin .leq .i64) (.op1 .lenS (.op1 .load1 (.op1 (.fadr 1) (.op2 (.ixa 3) (.var 0) (.var 3))))) (.const (.int .i64 20000))) (.const (.bool false))) (.const (.bool true)) (.op2 (.ibin .gtr .i64) (.op1 .lenS (.op1 .load1 (.op1 (.fadr 1) (.op2 (.ixa 3) (.var 0) (.var 3))))) (.const (.int .i64 20010)))) (.const (.bool true)) (.op2 (.ibin .gtr .i64) (.op1 .lenS (.op1 .load1 (.op1 (.fadr 2) (.op2 (.ixa 3) (.var 0) (.var 3))))) (.const (.int .i64 20)))) (.const (.bool true)) (.op2 (.ibin .gtr .i64) (.op1 .lenT (.op1 .load1 (.op1 (.fadr 0) (.op2 (.ixa 3) (.var 0) (.var 3))))) (.const (.int .i64 130))))]) <|
    .seq (.cond (.var 53)
      (.seq (.reg [.asg none 2 (.const (.bool false))]) <|
       .ret)
      (.skip))
    (ir27_k3)))
  (ir27_k4)
noncomputable def ir27_l6 : IR :=
  .seq (.reg [.asg none 8 (.op2 (.ibin .lss .i64) (.var 3) (.op1 .lenS (.var 0)))]) <|
  .seq (.cond (.var 8)
    (.skip)
    (.exit 0))
  (ir27_k5)
noncomputable def ir27_k7 : IR :=
  .seq (.reg [.asg none 2 (.ite (.op2 (.ibin .leq .i64) (.op1 .lenS (.var 0)) (.const (.int .i64 12))) (.const (.bool true)) (.ite (.op2 (.ibin .gtr .i64) (.op1 .lenS (.var 0)) (.const (.int .i64 60))) (.op2 (.ibin .leq .i64) (.op1 .lenS (.var 0)) (.const (.int .i64 63))) (.const (.bool false))))]) <|
  .ret
noncomputable def ir27 : IR :=
  .seq (.reg [.asg none 2 (.const (.bool false)),
     .asg none 3 (.const (.int .i64 0))]) <|
  .seq (.block 0 (.loop ir27_l6))
  (ir27_k7)
def ir27_V : List Nat := [0, 2, 3, 4, 8, 53, 61, 74]
theorem ir27_ok : (comp Tryd.prog Tryd.f27.ntmps ir27_V [] (Tryd.f27.body.getD .skip)).map IR.norm = some ir27 := by kernel_rfl
theorem ir27_calls {v0 : Value} {w : World} {R : Ending → World → Prop} (h : ∀ ρ : Env, ρ 0 = v0 → ir27.wp ⟨Tryd.prog, 88, ir27_V, []⟩ (retK [.tmp 2] R) (ksOf [.tmp 2] R) ρ w) :
    Calls Tryd.prog 27 #[v0] w R := by
  obtain ⟨ir0, h1, h2⟩ := Option.map_eq_some_iff.1 ir27_ok
  exact calls_ir (args := #[v0]) Tryd.func27 (c := Tryd.f27.body.getD .skip) rfl h1 h2 (by kernel_rfl) (show rvsOf Tryd.prog ir27_V Tryd.f27.results.toList = some [.tmp 2] by kernel_rfl) (Nat.le_of_ble_eq_true rfl) (h _ rfl)

/-! ### 30: argus/arguslaw16.turned  params #[42, 23] results #[42]  slots [(0, l), (1, order), (5, out), (6, used), (7, i), (8, k), (9, k)] -/
noncomputable def ir30_k0 : IR :=
  .reg [.asg none 7 (.op2 (.ibin .add .i64) (.var 7) (.const (.int .i64 1)))]
noncomputable def ir30_k1 : IR :=
  .seq (.block 1 (.seq (.reg [.asg none 8 (.op1 (.conv .i64) (.op2 (.ibin .rem .u64) (.op1 (.conv .u64) (.op1 .load1 (.op2 (.ixa 1) (.var 1) (.var 7)))) (.op1 (.conv .u64) (.op1 .lenS (.var 0))))),
       .asg none 38 (.op1 .not (.op1 .load1 (.op2 (.ixa 1) (.var 6) (.var 8))))]) <|
    .cond (.var 38)
     (.reg [.asg none 41 (.op2 (.ixa 1) (.var 6) (.var 8)),
        .eff none none (.store 4 (.tmp 41) (.const (.bool true))) 0,
        .asg none 42 (.var 5),
        .asg none 46 (.op1 (.loadN 3) (.op2 (.ixa 3) (.var 0) (.var 8))),
        .eff none (some 47) (.buildSlice 42 1 #[(0, (.tmp 46))]) 42,
        .eff none (some 48) (.call { callee := .builtin .append, args := #[(.tmp 42), (.tmp 47)], argTypes := #[42, 42] }) 42,
        .asg none 5 (.var 48)])
     (.skip)))
  (ir30_k0)
noncomputable def ir30_l2 : IR :=
  .seq (.reg [.asg none 21 (.ite (.op2 (.ibin .lss .i64) (.var 7) (.op1 .lenS (.var 1))) (.op2 (.ibin .gtr .i64) (.op1 .lenS (.var 0)) (.const (.int .i64 0))) (.const (.bool false)))]) <|
  .seq (.cond (.var 21)
    (.skip)
    (.exit 0))
  (ir30_k1)
noncomputable def ir30_k3 : IR :=
  .reg [.asg none 9 (.op2 (.ibin .add .i64) (.var 9) (.const (.int .i64 1)))]
noncomputable def ir30_k4 : IR :=
  .seq (.block 3 (.seq (.reg [.asg none 59 (.op1 .not (.op1 .load1 (.op2 (.ixa 1) (.var 6) (.var 9))))]) <|
    .cond (.var 59)
     (.reg [.asg none 60 (.var 5),
        .asg none 64 (.op1 (.loadN 3) (.op2 (.ixa 3) (.var 0) (.var 9))),
        .eff none (some 65) (.buildSlice 42 1 #[(0, (.tmp 64))]) 42,
        .eff none (some 66) (.call { callee := .builtin .append, args := #[(.tmp 60), (.tmp 65)], argTypes := #[42, 42] }) 42,
        .asg none 5 (.var 66)])
     (.skip)))
  (ir30_k3)
noncomputable def ir30_l5 : IR :=
  .seq (.reg [.asg none 52 (.op2 (.ibin .lss .i64) (.var 9) (.op1 .lenS (.var 0)))]) <|
  .seq (.cond (.var 52)
    (.skip)
    (.exit 2))
  (ir30_k4)
noncomputable def ir30_k6 : IR :=
  .seq (.reg [.asg none 4 (.var 5)]) <|
  .ret
noncomputable def ir30_k7 : IR :=
  .seq (.reg [.asg none 9 (.const (.int .i64 0))]) <|
  .seq (.block 2 (.loop ir30_l5))
  (ir30_k6)
noncomputable def ir30 : IR :=
  .seq (.reg [.asg none 4 (.const (.slice none 0 0)),
     .asg none 5 (.const (.slice none 0 0)),
     .asg none 11 (.op1 .lenS (.var 0)),
     .eff none (some 12) (.makeSlice 99 (.tmp 11) (.tmp 11)) 99,
     .asg none 6 (.var 12),
     .asg none 7 (.const (.int .i64 0))]) <|
  .seq (.block 0 (.loop ir30_l2))
  (ir30_k7)
def ir30_V : List Nat := [0, 1, 4, 5, 6, 7, 8, 9, 11, 12, 21, 38, 41, 42, 46, 47, 48, 52, 59, 60, 64, 65, 66]
theorem ir30_ok : (comp Tryd.prog Tryd.f30.ntmps ir30_V [] (Tryd.f30.body.getD .skip)).map IR.norm = some ir30 := by kernel_rfl
theorem ir30_calls {v0 v1 : Value} {w : World} {R : Ending → World → Prop} (h : ∀ ρ : Env, ρ 0 = v0 → ρ 1 = v1 → ir30.wp ⟨Tryd.prog, 68, ir30_V, []⟩ (retK [.tmp 4] R) (ksOf [.tmp 4] R) ρ w) :
    Calls Tryd.prog 30 #[v0, v1] w R := by
  obtain ⟨ir0, h1, h2⟩ := Option.map_eq_some_iff.1 ir30_ok
  exact calls_ir (args := #[v0, v1]) Tryd.func30 (c := Tryd.f30.body.getD .skip) rfl h1 h2 (by kernel_rfl) (show rvsOf Tryd.prog ir30_V Tryd.f30.results.toList = some [.tmp 4] by kernel_rfl) (Nat.le_of_ble_eq_true rfl) (h _ rfl rfl)

end Go.Proofs
