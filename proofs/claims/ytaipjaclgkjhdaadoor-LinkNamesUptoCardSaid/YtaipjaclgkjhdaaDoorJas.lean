/- Texts of mine for the claims about layer 16 (link), joined: L16Ia. -/
import Derived.Test.YtaipjaclgkjhdaaDoorJaf
import Derived.Test.YtaipjaclgkjhdaaDoorProg
import Derived.KernelRfl
set_option linter.all false
set_option linter.unusedSimpArgs false
set_option linter.unusedVariables false
/- Readings of functions, by program. -/
namespace Go.Proofs
open Go Go.Eng
set_option maxRecDepth 100000
/-! ### 13: argus/arguslaw16.small  params #[26] results #[4]  slots [(0, i), (1, i)] -/
noncomputable def ir13 : IR :=
  .seq (.reg [.eff none (some 1) (.box 26 (.tmp 0)) 0,
     .asg none 2 (.const (.bool false)),
     .asg none 4 (.op1 .load1 (.op1 (.fadr 0) (.var 1))),
     .eff none (some 5) (.call { callee := .value (.func 28), args := #[(.tmp 4)], argTypes := #[22] }) 4,
     .asg none 2 (.ite (.ite (.var 5) (.op2 (.ibin .leq .i64) (.op1 .lenS (.op1 .load1 (.op1 (.fadr 1) (.var 1)))) (.const (.int .i64 62))) (.const (.bool false))) (.op2 (.ibin .leq .i64) (.op1 .lenS (.op1 .load1 (.op1 (.fadr 2) (.var 1)))) (.const (.int .i64 800))) (.const (.bool false)))]) <|
  .ret
def ir13_V : List Nat := [0, 1, 2, 4, 5]
theorem ir13_ok : (comp Tryd.prog Tryd.f13.ntmps ir13_V [] (Tryd.f13.body.getD .skip)).map IR.norm = some ir13 := by kernel_rfl
theorem ir13_calls {v0 : Value} {w : World} {R : Ending → World → Prop} (h : ∀ ρ : Env, ρ 0 = v0 → ir13.wp ⟨Tryd.prog, 18, ir13_V, []⟩ (retK [.tmp 2] R) (ksOf [.tmp 2] R) ρ w) :
    Calls Tryd.prog 13 #[v0] w R := by
  obtain ⟨ir0, h1, h2⟩ := Option.map_eq_some_iff.1 ir13_ok
  exact calls_ir (args := #[v0]) Tryd.func13 (c := Tryd.f13.body.getD .skip) rfl h1 h2 (by kernel_rfl) (show rvsOf Tryd.prog ir13_V Tryd.f13.results.toList = some [.tmp 2] by kernel_rfl) (Nat.le_of_ble_eq_true rfl) (h _ rfl)

/-! ### 14: argus/arguslaw16.linked  params #[] results #[4]  slots [(1, l), (2, i), (3, e), (4, _), (5, f), (6, missing), (7, g), (8, n), (9, is), (10, h), (11, part), (12, j), (13, only), (14, k), (15, b), (16, m), (17, back), (18, o), (19, least), (20, p), (21, one)] -/
noncomputable def ir14_body : Code := (Tryd.f14.body).getD .skip
noncomputable def ir14_k0 : IR :=
  .seq (.reg [.asg none 121 (.op1 .load1 (.op1 (.fadr 0) (.var 2))),
     .eff none (some 122) (.buildSlice 22 3 #[(0, (.const (.string ⟨#[102]⟩))), (1, (.const (.string ⟨#[103]⟩))), (2, (.const (.string ⟨#[109]⟩)))]) 22,
     .eff none (some 123) (.call { callee := .value (.func 40), args := #[(.tmp 121), (.tmp 122)], argTypes := #[22, 22] }) 4,
     .asg none 124 (.var 123),
     .asg (some (124, true)) 126 (.op1 .load1 (.op1 (.fadr 1) (.var 2))),
     .eff (some (124, true)) (some 127) (.buildSlice 23 3 #[(0, (.const (.int .i64 0))), (1, (.const (.int .i64 5))), (2, (.const (.int .i64 6)))]) 23,
     .eff (some (124, true)) (some 128) (.call { callee := .value (.func 32), args := #[(.tmp 126), (.tmp 127)], argTypes := #[23, 23] }) 4,
     .asg none 130 (.ite (.var 124) (.var 128) (.const (.bool false))),
     .asg (some (130, true)) 132 (.op1 .load1 (.op1 (.fadr 2) (.var 2))),
     .eff (some (130, true)) (some 133) (.buildSlice 24 10 #[(0, (.const (.int .u8 1))), (1, (.const (.int .u8 0))), (2, (.const (.int .u8 0))), (3, (.const (.int .u8 0))), (4, (.const (.int .u8 1))), (5, (.const (.int .u8 5))), (6, (.const (.int .u8 7))), (7, (.const (.int .u8 0))), (8, (.const (.int .u8 0))), (9, (.const (.int .u8 9)))]) 24,
     .eff (some (130, true)) (some 134) (.call { callee := .value (.func 21), args := #[(.tmp 132), (.tmp 133)], argTypes := #[24, 24] }) 4,
     .asg none 21 (.ite (.ite (.ite (.ite (.ite (.var 130) (.var 134) (.const (.bool false))) (.op2 (.ibin .eql .i64) (.op1 .lenS (.var 6)) (.const (.int .i64 1))) (.const (.bool false))) (.op2 (.sbin .eql) (.op1 .load1 (.op2 (.ixa 1) (.var 6) (.const (.int .i64 0)))) (.const (.string ⟨#[120]⟩))) (.const (.bool false))) (.op2 (.ibin .eql .i64) (.var 8) (.const (.int .i64 1))) (.const (.bool false))) (.var 9) (.const (.bool false))),
     .asg none 155 (.var 21),
     .asg (some (155, true)) 156 (.var 11),
     .eff (some (155, true)) (some 157) (.buildSlice 24 4 #[(0, (.const (.int .u8 7))), (1, (.const (.int .u8 0))), (2, (.const (.int .u8 0))), (3, (.const (.int .u8 9)))]) 24,
     .eff (some (155, true)) (some 158) (.call { callee := .value (.func 21), args := #[(.tmp 156), (.tmp 157)], argTypes := #[24, 24] }) 4,
     .asg none 160 (.ite (.var 155) (.var 158) (.const (.bool false))),
     .asg (some (160, true)) 161 (.var 15),
     .eff (some (160, true)) (some 162) (.buildSlice 24 8 #[(0, (.const (.int .u8 1))), (1, (.const (.int .u8 1))), (2, (.const (.int .u8 103))), (3, (.const (.int .u8 0))), (4, (.const (.int .u8 0))), (5, (.const (.int .u8 0))), (6, (.const (.int .u8 0))), (7, (.const (.int .u8 5)))]) 24,
     .eff (some (160, true)) (some 163) (.call { callee := .value (.func 21), args := #[(.tmp 161), (.tmp 162)], argTypes := #[24, 24] }) 4,
     .asg none 165 (.ite (.var 160) (.var 163) (.const (.bool false))),
     .asg (some (165, true)) 166 (.op1 (.loadN 3) (.var 17)),
     .asg (some (165, true)) 167 (.op1 (.loadN 3) (.var 13)),
     .eff (some (165, true)) (some 168) (.call { callee := .value (.func 26), args := #[(.tmp 166), (.tmp 167)], argTypes := #[26, 26] }) 4,
     .asg none 0 (.ite (.ite (.ite (.var 165) (.var 168) (.const (.bool false))) (.op2 (.ibin .eql .i64) (.op1 .lenS (.var 19)) (.const (.int .i64 3))) (.const (.bool false))) (.op2 (.sbin .eql) (.op1 .load1 (.op1 (.fadr 0) (.op2 (.ixa 3) (.var 19) (.const (.int .i64 0))))) (.const (.string ⟨#[109]⟩))) (.const (.bool false)))]) <|
  .ret
noncomputable def ir14_k1 : IR :=
  .seq (.reg [.asg none 119 (.ite (.ite (.ite (.ite (.ite (.ite (.ite (.ite (.op2 (.ibin .neq .i64) (.var 3) (.const (.int .i64 0))) (.const (.bool true)) (.op2 (.ibin .neq .i64) (.var 5) (.const (.int .i64 160)))) (.const (.bool true)) (.op2 (.ibin .neq .i64) (.var 7) (.const (.int .i64 0)))) (.const (.bool true)) (.op2 (.ibin .neq .i64) (.var 10) (.const (.int .i64 0)))) (.const (.bool true)) (.op2 (.ibin .neq .i64) (.var 12) (.const (.int .i64 0)))) (.const (.bool true)) (.op2 (.ibin .neq .i64) (.var 14) (.const (.int .i64 0)))) (.const (.bool true)) (.op2 (.ibin .neq .i64) (.var 16) (.const (.int .i64 0)))) (.const (.bool true)) (.op2 (.ibin .neq .i64) (.var 18) (.const (.int .i64 0)))) (.const (.bool true)) (.op2 (.ibin .neq .i64) (.var 20) (.const (.int .i64 0))))]) <|
  .seq (.cond (.var 119)
    (.seq (.reg [.asg none 0 (.const (.bool false))]) <|
     .ret)
    (.skip))
  (ir14_k0)
noncomputable def ir14 : IR :=
  .seq (.reg [.asg none 0 (.const (.bool false)),
     .eff none (some 22) (.call { callee := .value (.func 49), args := #[], argTypes := #[] }) 42,
     .asg none 1 (.var 22),
     .asg none 24 (.var 1),
     .eff none (some 25) (.buildSlice 22 1 #[(0, (.const (.string ⟨#[109]⟩)))]) 22,
     .eff none (some 26) (.call { callee := .value (.func 29), args := #[(.tmp 24), (.tmp 25)], argTypes := #[42, 22] }) 38,
     .asg none 23 (.var 26),
     .asg none 27 (.op1 (.ext 0) (.var 23)),
     .asg none 28 (.op1 (.ext 1) (.var 23)),
     .eff none (some 2) (.alloc 26) 0,
     .eff none none (.store 26 (.tmp 2) (.tmp 27)) 0,
     .asg none 3 (.var 28),
     .asg none 30 (.var 1),
     .eff none (some 31) (.buildSlice 22 2 #[(0, (.const (.string ⟨#[109]⟩))), (1, (.const (.string ⟨#[104]⟩)))]) 22,
     .eff none (some 32) (.call { callee := .value (.func 29), args := #[(.tmp 30), (.tmp 31)], argTypes := #[42, 22] }) 38,
     .asg none 29 (.var 32),
     .asg none 33 (.op1 (.ext 0) (.var 29)),
     .asg none 34 (.op1 (.ext 1) (.var 29)),
     .eff none (some 4) (.alloc 26) 0,
     .eff none none (.store 26 (.tmp 4) (.tmp 33)) 0,
     .asg none 5 (.var 34),
     .asg none 36 (.var 1),
     .eff none (some 37) (.buildSlice 22 1 #[(0, (.const (.string ⟨#[104]⟩)))]) 22,
     .eff none (some 38) (.call { callee := .value (.func 36), args := #[(.tmp 36), (.tmp 37)], argTypes := #[42, 22] }) 58,
     .asg none 35 (.var 38),
     .asg none 39 (.op1 (.ext 0) (.var 35)),
     .asg none 40 (.op1 (.ext 1) (.var 35)),
     .asg none 6 (.var 39),
     .asg none 7 (.var 40),
     .asg none 42 (.op1 (.loadN 3) (.var 2)),
     .eff none (some 43) (.call { callee := .value (.func 15), args := #[(.tmp 42), (.const (.string ⟨#[103]⟩))], argTypes := #[26, 9] }) 30,
     .asg none 41 (.var 43),
     .asg none 44 (.op1 (.ext 0) (.var 41)),
     .asg none 45 (.op1 (.ext 1) (.var 41)),
     .asg none 46 (.op1 (.ext 2) (.var 41)),
     .asg none 8 (.var 44),
     .asg none 9 (.var 45),
     .asg none 10 (.var 46),
     .asg none 48 (.op1 (.loadN 3) (.var 2)),
     .eff none (some 49) (.call { callee := .value (.func 17), args := #[(.tmp 48), (.const (.int .i64 2))], argTypes := #[26, 3] }) 32,
     .asg none 47 (.var 49),
     .asg none 50 (.op1 (.ext 0) (.var 47)),
     .asg none 51 (.op1 (.ext 1) (.var 47)),
     .asg none 11 (.var 50),
     .asg none 12 (.var 51),
     .asg none 53 (.var 1),
     .eff none (some 54) (.buildSlice 22 1 #[(0, (.const (.string ⟨#[103]⟩)))]) 22,
     .eff none (some 55) (.call { callee := .value (.func 29), args := #[(.tmp 53), (.tmp 54)], argTypes := #[42, 22] }) 38,
     .asg none 52 (.var 55),
     .asg none 56 (.op1 (.ext 0) (.var 52)),
     .asg none 57 (.op1 (.ext 1) (.var 52)),
     .eff none (some 13) (.alloc 26) 0,
     .eff none none (.store 26 (.tmp 13) (.tmp 56)) 0,
     .asg none 14 (.var 57),
     .asg none 59 (.op1 (.loadN 3) (.var 13)),
     .eff none (some 60) (.call { callee := .value (.func 22), args := #[(.tmp 59)], argTypes := #[26] }) 32,
     .asg none 58 (.var 60),
     .asg none 61 (.op1 (.ext 0) (.var 58)),
     .asg none 62 (.op1 (.ext 1) (.var 58)),
     .asg none 15 (.var 61),
     .asg none 16 (.var 62),
     .asg none 64 (.var 15),
     .eff none (some 65) (.call { callee := .value (.func 24), args := #[(.tmp 64)], argTypes := #[24] }) 38,
     .asg none 63 (.var 65),
     .asg none 66 (.op1 (.ext 0) (.var 63)),
     .asg none 67 (.op1 (.ext 1) (.var 63)),
     .eff none (some 17) (.alloc 26) 0,
     .eff none none (.store 26 (.tmp 17) (.tmp 66)) 0,
     .asg none 18 (.var 67)]) <|
  .seq (.raw (rawReg ir14_body 10))
  (ir14_k1)
def ir14_V : List Nat := [0, 1, 2, 3, 4, 5, 6, 7, 8, 9, 10, 11, 12, 13, 14, 15, 16, 17, 18, 19, 20, 21, 22, 23, 24, 25, 26, 27, 28, 29, 30, 31, 32, 33, 34, 35, 36, 37, 38, 39, 40, 41, 42, 43, 44, 45, 46, 47, 48, 49, 50, 51, 52, 53, 54, 55, 56, 57, 58, 59, 60, 61, 62, 63, 64, 65, 66, 67, 68, 69, 70, 71, 72, 73, 74, 75, 76, 77, 78, 79, 80, 81, 82, 83, 84, 85, 119, 121, 122, 123, 124, 126, 127, 128, 130, 132, 133, 134, 155, 156, 157, 158, 160, 161, 162, 163, 165, 166, 167, 168]
theorem ir14_ok : (comp Tryd.prog Tryd.f14.ntmps ir14_V [10] (Tryd.f14.body.getD .skip)).map IR.norm = some ir14 := by kernel_rfl
theorem ir14_calls {w : World} {R : Ending → World → Prop} (h : ∀ ρ : Env, ir14.wp ⟨Tryd.prog, 182, ir14_V, []⟩ (retK [.tmp 0] R) (ksOf [.tmp 0] R) ρ w) :
    Calls Tryd.prog 14 #[] w R := by
  obtain ⟨ir0, h1, h2⟩ := Option.map_eq_some_iff.1 ir14_ok
  exact calls_ir (args := #[]) Tryd.func14 (c := Tryd.f14.body.getD .skip) rfl h1 h2 (by kernel_rfl) (show rvsOf Tryd.prog ir14_V Tryd.f14.results.toList = some [.tmp 0] by kernel_rfl) (Nat.le_of_ble_eq_true rfl) (h _ )

/-! ### 16: argus/argusref16.Number  params #[26, 9] results #[3, 4, 29]  slots [(0, i), (1, name), (2, i), (7, e), (8, at)] -/
noncomputable def ir16_k0 : IR :=
  .seq (.reg [.asg none 15 (.op1 .load1 (.op1 (.fadr 0) (.var 2))),
     .asg none 16 (.var 1),
     .eff none (some 17) (.call { callee := .value (.func 51), args := #[(.tmp 15), (.tmp 16)], argTypes := #[22, 9] }) 3,
     .asg none 8 (.var 17),
     .asg none 18 (.var 8),
     .eff none (some 19) (.call { callee := .builtin .max, args := #[(.tmp 18), (.const (.int .i64 0))], argTypes := #[3, 3] }) 3,
     .asg none 21 (.op2 (.ibin .geq .i64) (.var 8) (.const (.int .i64 0))),
     .asg none 4 (.var 19),
     .asg none 5 (.var 21),
     .asg none 6 (.const (.int .i64 0))]) <|
  .ret
noncomputable def ir16 : IR :=
  .seq (.reg [.eff none (some 2) (.box 26 (.tmp 0)) 0,
     .asg none 4 (.const (.int .i64 0)),
     .asg none 5 (.const (.bool false)),
     .asg none 6 (.const (.int .i64 0)),
     .asg none 9 (.op1 (.loadN 3) (.var 2)),
     .eff none (some 10) (.call { callee := .value (.func 20), args := #[(.tmp 9)], argTypes := #[26] }) 29,
     .asg none 7 (.var 10),
     .asg none 12 (.op2 (.ibin .neq .i64) (.var 7) (.const (.int .i64 0)))]) <|
  .seq (.cond (.var 12)
    (.seq (.reg [.asg none 13 (.var 7),
        .asg none 4 (.const (.int .i64 0)),
        .asg none 5 (.const (.bool false)),
        .asg none 6 (.var 13)]) <|
     .ret)
    (.skip))
  (ir16_k0)
def ir16_V : List Nat := [0, 1, 2, 4, 5, 6, 7, 8, 9, 10, 12, 13, 15, 16, 17, 18, 19, 21]
theorem ir16_ok : (comp Tryd.prog Tryd.f16.ntmps ir16_V [] (Tryd.f16.body.getD .skip)).map IR.norm = some ir16 := by kernel_rfl
theorem ir16_calls {v0 v1 : Value} {w : World} {R : Ending → World → Prop} (h : ∀ ρ : Env, ρ 0 = v0 → ρ 1 = v1 → ir16.wp ⟨Tryd.prog, 22, ir16_V, []⟩ (retK [.tmp 4, .tmp 5, .tmp 6] R) (ksOf [.tmp 4, .tmp 5, .tmp 6] R) ρ w) :
    Calls Tryd.prog 16 #[v0, v1] w R := by
  obtain ⟨ir0, h1, h2⟩ := Option.map_eq_some_iff.1 ir16_ok
  exact calls_ir (args := #[v0, v1]) Tryd.func16 (c := Tryd.f16.body.getD .skip) rfl h1 h2 (by kernel_rfl) (show rvsOf Tryd.prog ir16_V Tryd.f16.results.toList = some [.tmp 4, .tmp 5, .tmp 6] by kernel_rfl) (Nat.le_of_ble_eq_true rfl) (h _ rfl rfl)

/-! ### 18: argus/argusref16.Part  params #[26, 3] results #[24, 29]  slots [(0, i), (1, n), (2, i), (6, e), (7, end)] -/
noncomputable def ir18_body : Code := (Tryd.f18.body).getD .skip
noncomputable def ir18_k0 : IR :=
  .ret
noncomputable def ir18_k1 : IR :=
  .seq (.raw (rawReg ir18_body 9))
  (ir18_k0)
noncomputable def ir18_k2 : IR :=
  .seq (.reg [.asg none 7 (.op1 .lenS (.op1 .load1 (.op1 (.fadr 2) (.var 2)))),
     .asg none 30 (.op2 (.ibin .lss .i64) (.op2 (.ibin .add .i64) (.var 1) (.const (.int .i64 1))) (.op1 .lenS (.op1 .load1 (.op1 (.fadr 0) (.var 2)))))]) <|
  .seq (.cond (.var 30)
    (.reg [.asg none 7 (.op1 .load1 (.op2 (.ixa 1) (.op1 .load1 (.op1 (.fadr 1) (.var 2))) (.op2 (.ibin .add .i64) (.var 1) (.const (.int .i64 1)))))])
    (.skip))
  (ir18_k1)
noncomputable def ir18_k3 : IR :=
  .seq (.reg [.asg none 21 (.ite (.op2 (.ibin .lss .i64) (.var 1) (.const (.int .i64 0))) (.const (.bool true)) (.op2 (.ibin .geq .i64) (.var 1) (.op1 .lenS (.op1 .load1 (.op1 (.fadr 0) (.var 2))))))]) <|
  .seq (.cond (.var 21)
    (.seq (.reg [.asg none 4 (.const (.slice none 0 0)),
        .asg none 5 (.const (.int .i64 1))]) <|
     .ret)
    (.skip))
  (ir18_k2)
noncomputable def ir18 : IR :=
  .seq (.reg [.eff none (some 2) (.box 26 (.tmp 0)) 0,
     .asg none 4 (.const (.slice none 0 0)),
     .asg none 5 (.const (.int .i64 0)),
     .asg none 8 (.op1 (.loadN 3) (.var 2)),
     .eff none (some 9) (.call { callee := .value (.func 20), args := #[(.tmp 8)], argTypes := #[26] }) 29,
     .asg none 6 (.var 9),
     .asg none 11 (.op2 (.ibin .neq .i64) (.var 6) (.const (.int .i64 0)))]) <|
  .seq (.cond (.var 11)
    (.seq (.reg [.asg none 12 (.var 6),
        .asg none 4 (.const (.slice none 0 0)),
        .asg none 5 (.var 12)]) <|
     .ret)
    (.skip))
  (ir18_k3)
def ir18_V : List Nat := [0, 1, 2, 4, 5, 6, 7, 8, 9, 11, 12, 21, 30, 37, 38, 39, 40, 41, 42, 43, 44, 45, 46, 47]
theorem ir18_ok : (comp Tryd.prog Tryd.f18.ntmps ir18_V [9] (Tryd.f18.body.getD .skip)).map IR.norm = some ir18 := by kernel_rfl
theorem ir18_calls {v0 v1 : Value} {w : World} {R : Ending → World → Prop} (h : ∀ ρ : Env, ρ 0 = v0 → ρ 1 = v1 → ir18.wp ⟨Tryd.prog, 48, ir18_V, []⟩ (retK [.tmp 4, .tmp 5] R) (ksOf [.tmp 4, .tmp 5] R) ρ w) :
    Calls Tryd.prog 18 #[v0, v1] w R := by
  obtain ⟨ir0, h1, h2⟩ := Option.map_eq_some_iff.1 ir18_ok
  exact calls_ir (args := #[v0, v1]) Tryd.func18 (c := Tryd.f18.body.getD .skip) rfl h1 h2 (by kernel_rfl) (show rvsOf Tryd.prog ir18_V Tryd.f18.results.toList = some [.tmp 4, .tmp 5] by kernel_rfl) (Nat.le_of_ble_eq_true rfl) (h _ rfl rfl)

/-! ### 20: argus/argusref16.CheckImage  params #[26] results #[29]  slots [(0, i), (1, i), (3, k)] -/
noncomputable def ir20_k0 : IR :=
  .cond (.var 107)
   (.seq (.reg [.asg none 2 (.const (.int .i64 162))]) <|
    .ret)
   (.skip)
noncomputable def ir20_k1 : IR :=
  .reg [.asg none 3 (.op2 (.ibin .add .i64) (.var 3) (.const (.int .i64 1)))]
noncomputable def ir20_k2 : IR :=
  .seq (.block 1 (.seq (.drw [.asg none 46 (.op1 .load1 (.op2 (.ixa 1) (.op1 .load1 (.op1 (.fadr 0) (.var 1))) (.var 3))),
       .eff none (some 47) (.call { callee := .value (.func 54), args := #[(.tmp 46)], argTypes := #[9] }) 4,
       .asg none 107 (.ite (.ite (.ite (.ite (.op1 .not (.var 47)) (.const (.bool true)) (.ite (.op2 (.ibin .gtr .i64) (.var 3) (.const (.int .i64 0))) (.op2 (.sbin .geq) (.op1 .load1 (.op2 (.ixa 1) (.op1 .load1 (.op1 (.fadr 0) (.var 1))) (.op2 (.ibin .sub .i64) (.var 3) (.const (.int .i64 1))))) (.op1 .load1 (.op2 (.ixa 1) (.op1 .load1 (.op1 (.fadr 0) (.var 1))) (.var 3)))) (.const (.bool false)))) (.const (.bool true)) (.ite (.op2 (.ibin .eql .i64) (.var 3) (.const (.int .i64 0))) (.op2 (.ibin .neq .i64) (.op1 .load1 (.op2 (.ixa 1) (.op1 .load1 (.op1 (.fadr 1) (.var 1))) (.var 3))) (.const (.int .i64 0))) (.const (.bool false)))) (.const (.bool true)) (.ite (.op2 (.ibin .gtr .i64) (.var 3) (.const (.int .i64 0))) (.op2 (.ibin .lss .i64) (.op1 .load1 (.op2 (.ixa 1) (.op1 .load1 (.op1 (.fadr 1) (.var 1))) (.var 3))) (.op1 .load1 (.op2 (.ixa 1) (.op1 .load1 (.op1 (.fadr 1) (.var 1))) (.op2 (.ibin .sub .i64) (.var 3) (.const (.int .i64 1)))))) (.const (.bool false)))) (.const (.bool true)) (.op2 (.ibin .gtr .i64) (.op1 .load1 (.op2 (.ixa 1) (.op1 .load1 (.op1 (.fadr 1) (.var 1))) (.var 3))) (.op1 .lenS (.op1 .load1 (.op1 (.fadr 2) (.var 1))))))])
    (ir20_k0)))
  (ir20_k1)
noncomputable def ir20_l3 : IR :=
  .seq (.reg [.asg none 39 (.op2 (.ibin .lss .i64) (.var 3) (.op1 .lenS (.op1 .load1 (.op1 (.fadr 0) (.var 1)))))]) <|
  .seq (.cond (.var 39)
    (.skip)
    (.exit 0))
  (ir20_k2)
noncomputable def ir20_k4 : IR :=
  .seq (.reg [.asg none 2 (.const (.int .i64 0))]) <|
  .ret
noncomputable def ir20_k5 : IR :=
  .seq (.reg [.asg none 3 (.const (.int .i64 0))]) <|
  .seq (.block 0 (.loop ir20_l3))
  (ir20_k4)
noncomputable def ir20 : IR :=
  .seq (.reg [.eff none (some 1) (.box 26 (.tmp 0)) 0,
     .asg none 2 (.const (.int .i64 0)),
     .asg none 34 (.ite (.ite (.ite (.op2 (.ibin .gtr .i64) (.op1 .lenS (.op1 .load1 (.op1 (.fadr 0) (.var 1)))) (.const (.int .i64 60))) (.const (.bool true)) (.op2 (.ibin .neq .i64) (.op1 .lenS (.op1 .load1 (.op1 (.fadr 1) (.var 1)))) (.op1 .lenS (.op1 .load1 (.op1 (.fadr 0) (.var 1)))))) (.const (.bool true)) (.op2 (.ibin .gtr .i64) (.op1 .lenS (.op1 .load1 (.op1 (.fadr 2) (.var 1)))) (.const (.int .i64 1200000)))) (.const (.bool true)) (.ite (.op2 (.ibin .eql .i64) (.op1 .lenS (.op1 .load1 (.op1 (.fadr 0) (.var 1)))) (.const (.int .i64 0))) (.op2 (.ibin .gtr .i64) (.op1 .lenS (.op1 .load1 (.op1 (.fadr 2) (.var 1)))) (.const (.int .i64 0))) (.const (.bool false))))]) <|
  .seq (.cond (.var 34)
    (.seq (.reg [.asg none 2 (.const (.int .i64 162))]) <|
     .ret)
    (.skip))
  (ir20_k5)
def ir20_V : List Nat := [0, 1, 2, 3, 34, 39, 46, 47, 107]
theorem ir20_ok : (comp Tryd.prog Tryd.f20.ntmps ir20_V [] (Tryd.f20.body.getD .skip)).map IR.norm = some ir20 := by kernel_rfl
theorem ir20_calls {v0 : Value} {w : World} {R : Ending → World → Prop} (h : ∀ ρ : Env, ρ 0 = v0 → ir20.wp ⟨Tryd.prog, 108, ir20_V, []⟩ (retK [.tmp 2] R) (ksOf [.tmp 2] R) ρ w) :
    Calls Tryd.prog 20 #[v0] w R := by
  obtain ⟨ir0, h1, h2⟩ := Option.map_eq_some_iff.1 ir20_ok
  exact calls_ir (args := #[v0]) Tryd.func20 (c := Tryd.f20.body.getD .skip) rfl h1 h2 (by kernel_rfl) (show rvsOf Tryd.prog ir20_V Tryd.f20.results.toList = some [.tmp 2] by kernel_rfl) (Nat.le_of_ble_eq_true rfl) (h _ rfl)

/-! ### 21: argus/argusref16.SameBytes  params #[24, 24] results #[4]  slots [(0, a), (1, b)] -/
noncomputable def ir21 : IR :=
  .seq (.reg [.asg none 4 (.const (.bool false)),
     .asg none 4 (.op2 (.sbin .eql) (.op1 .b2s (.var 0)) (.op1 .b2s (.var 1)))]) <|
  .ret
def ir21_V : List Nat := [0, 1, 4]
theorem ir21_ok : (comp Tryd.prog Tryd.f21.ntmps ir21_V [] (Tryd.f21.body.getD .skip)).map IR.norm = some ir21 := by kernel_rfl
theorem ir21_calls {v0 v1 : Value} {w : World} {R : Ending → World → Prop} (h : ∀ ρ : Env, ρ 0 = v0 → ρ 1 = v1 → ir21.wp ⟨Tryd.prog, 10, ir21_V, []⟩ (retK [.tmp 4] R) (ksOf [.tmp 4] R) ρ w) :
    Calls Tryd.prog 21 #[v0, v1] w R := by
  obtain ⟨ir0, h1, h2⟩ := Option.map_eq_some_iff.1 ir21_ok
  exact calls_ir (args := #[v0, v1]) Tryd.func21 (c := Tryd.f21.body.getD .skip) rfl h1 h2 (by kernel_rfl) (show rvsOf Tryd.prog ir21_V Tryd.f21.results.toList = some [.tmp 4] by kernel_rfl) (Nat.le_of_ble_eq_true rfl) (h _ rfl rfl)

/-! ### 26: argus/argusref16.Same  params #[26, 26] results #[4]  slots [(0, a), (1, b), (2, a), (3, b)] -/
noncomputable def ir26 : IR :=
  .seq (.reg [.eff none (some 2) (.box 26 (.tmp 0)) 0,
     .eff none (some 3) (.box 26 (.tmp 1)) 0,
     .asg none 4 (.const (.bool false)),
     .asg none 6 (.op1 .load1 (.op1 (.fadr 0) (.var 2))),
     .asg none 8 (.op1 .load1 (.op1 (.fadr 0) (.var 3))),
     .eff none (some 9) (.call { callee := .value (.func 40), args := #[(.tmp 6), (.tmp 8)], argTypes := #[22, 22] }) 4,
     .asg none 10 (.var 9),
     .asg (some (10, true)) 12 (.op1 .load1 (.op1 (.fadr 1) (.var 2))),
     .asg (some (10, true)) 14 (.op1 .load1 (.op1 (.fadr 1) (.var 3))),
     .eff (some (10, true)) (some 15) (.call { callee := .value (.func 32), args := #[(.tmp 12), (.tmp 14)], argTypes := #[23, 23] }) 4,
     .asg none 17 (.ite (.var 10) (.var 15) (.const (.bool false))),
     .asg (some (17, true)) 19 (.op1 .load1 (.op1 (.fadr 2) (.var 2))),
     .asg (some (17, true)) 21 (.op1 .load1 (.op1 (.fadr 2) (.var 3))),
     .eff (some (17, true)) (some 22) (.call { callee := .value (.func 21), args := #[(.tmp 19), (.tmp 21)], argTypes := #[24, 24] }) 4,
     .asg none 4 (.ite (.var 17) (.var 22) (.const (.bool false)))]) <|
  .ret
def ir26_V : List Nat := [0, 1, 2, 3, 4, 6, 8, 9, 10, 12, 14, 15, 17, 19, 21, 22]
theorem ir26_ok : (comp Tryd.prog Tryd.f26.ntmps ir26_V [] (Tryd.f26.body.getD .skip)).map IR.norm = some ir26 := by kernel_rfl
theorem ir26_calls {v0 v1 : Value} {w : World} {R : Ending → World → Prop} (h : ∀ ρ : Env, ρ 0 = v0 → ρ 1 = v1 → ir26.wp ⟨Tryd.prog, 24, ir26_V, []⟩ (retK [.tmp 4] R) (ksOf [.tmp 4] R) ρ w) :
    Calls Tryd.prog 26 #[v0, v1] w R := by
  obtain ⟨ir0, h1, h2⟩ := Option.map_eq_some_iff.1 ir26_ok
  exact calls_ir (args := #[v0, v1]) Tryd.func26 (c := Tryd.f26.body.getD .skip) rfl h1 h2 (by kernel_rfl) (show rvsOf Tryd.prog ir26_V Tryd.f26.results.toList = some [.tmp 4] by kernel_rfl) (Nat.le_of_ble_eq_true rfl) (h _ rfl rfl)

/-! ### 28: argus/arguslaw16.short  params #[22] results #[4]  slots [(0, l), (3, i)] -/
noncomputable def ir28_k0 : IR :=
  .reg [.asg none 3 (.op2 (.ibin .add .i64) (.var 3) (.const (.int .i64 1)))]
noncomputable def ir28_k1 : IR :=
  .seq (.block 1 (.seq (.reg [.asg none 15 (.op2 (.ibin .gtr .i64) (.op1 .lenT (.op1 .load1 (.op2 (.ixa 1) (.var 0) (.var 3)))) (.const (.int .i64 130)))]) <|
    .cond (.var 15)
     (.seq (.reg [.asg none 2 (.const (.bool false))]) <|
      .ret)
     (.skip)))
  (ir28_k0)
noncomputable def ir28_l2 : IR :=
  .seq (.reg [.asg none 7 (.op2 (.ibin .lss .i64) (.var 3) (.op1 .lenS (.var 0)))]) <|
  .seq (.cond (.var 7)
    (.skip)
    (.exit 0))
  (ir28_k1)
noncomputable def ir28_k3 : IR :=
  .seq (.reg [.asg none 2 (.ite (.op2 (.ibin .leq .i64) (.op1 .lenS (.var 0)) (.const (.int .i64 12))) (.const (.bool true)) (.ite (.op2 (.ibin .gtr .i64) (.op1 .lenS (.var 0)) (.const (.int .i64 60))) (.op2 (.ibin .leq .i64) (.op1 .lenS (.var 0)) (.const (.int .i64 62))) (.const (.bool false))))]) <|
  .ret
noncomputable def ir28 : IR :=
  .seq (.reg [.asg none 2 (.const (.bool false)),
     .asg none 3 (.const (.int .i64 0))]) <|
  .seq (.block 0 (.loop ir28_l2))
  (ir28_k3)
def ir28_V : List Nat := [0, 2, 3, 7, 15]
theorem ir28_ok : (comp Tryd.prog Tryd.f28.ntmps ir28_V [] (Tryd.f28.body.getD .skip)).map IR.norm = some ir28 := by kernel_rfl
theorem ir28_calls {v0 : Value} {w : World} {R : Ending → World → Prop} (h : ∀ ρ : Env, ρ 0 = v0 → ir28.wp ⟨Tryd.prog, 29, ir28_V, []⟩ (retK [.tmp 2] R) (ksOf [.tmp 2] R) ρ w) :
    Calls Tryd.prog 28 #[v0] w R := by
  obtain ⟨ir0, h1, h2⟩ := Option.map_eq_some_iff.1 ir28_ok
  exact calls_ir (args := #[v0]) Tryd.func28 (c := Tryd.f28.body.getD .skip) rfl h1 h2 (by kernel_rfl) (show rvsOf Tryd.prog ir28_V Tryd.f28.results.toList = some [.tmp 2] by kernel_rfl) (Nat.le_of_ble_eq_true rfl) (h _ rfl)

/-! ### 32: argus/argusref16.SameInts  params #[23, 23] results #[4]  slots [(0, a), (1, b), (5, i)] -/
noncomputable def ir32_k0 : IR :=
  .cond (.var 25)
   (.seq (.reg [.asg none 4 (.const (.bool false))]) <|
    .ret)
   (.skip)
noncomputable def ir32_k1 : IR :=
  .reg [.asg none 5 (.op2 (.ibin .add .i64) (.var 5) (.const (.int .i64 1)))]
noncomputable def ir32_k2 : IR :=
  .seq (.block 1 (.seq (.drw [.asg none 25 (.op2 (.ibin .neq .i64) (.op1 .load1 (.op2 (.ixa 1) (.var 0) (.var 5))) (.op1 .load1 (.op2 (.ixa 1) (.var 1) (.var 5))))])
    (ir32_k0)))
  (ir32_k1)
noncomputable def ir32_l3 : IR :=
  .seq (.reg [.asg none 14 (.op2 (.ibin .lss .i64) (.var 5) (.op1 .lenS (.var 0)))]) <|
  .seq (.cond (.var 14)
    (.skip)
    (.exit 0))
  (ir32_k2)
noncomputable def ir32_k4 : IR :=
  .seq (.reg [.asg none 4 (.const (.bool true))]) <|
  .ret
noncomputable def ir32_k5 : IR :=
  .seq (.reg [.asg none 5 (.const (.int .i64 0))]) <|
  .seq (.block 0 (.loop ir32_l3))
  (ir32_k4)
noncomputable def ir32 : IR :=
  .seq (.reg [.asg none 4 (.const (.bool false)),
     .asg none 10 (.op2 (.ibin .neq .i64) (.op1 .lenS (.var 0)) (.op1 .lenS (.var 1)))]) <|
  .seq (.cond (.var 10)
    (.seq (.reg [.asg none 4 (.const (.bool false))]) <|
     .ret)
    (.skip))
  (ir32_k5)
def ir32_V : List Nat := [0, 1, 4, 5, 10, 14, 25]
theorem ir32_ok : (comp Tryd.prog Tryd.f32.ntmps ir32_V [] (Tryd.f32.body.getD .skip)).map IR.norm = some ir32 := by kernel_rfl
theorem ir32_calls {v0 v1 : Value} {w : World} {R : Ending → World → Prop} (h : ∀ ρ : Env, ρ 0 = v0 → ρ 1 = v1 → ir32.wp ⟨Tryd.prog, 26, ir32_V, []⟩ (retK [.tmp 4] R) (ksOf [.tmp 4] R) ρ w) :
    Calls Tryd.prog 32 #[v0, v1] w R := by
  obtain ⟨ir0, h1, h2⟩ := Option.map_eq_some_iff.1 ir32_ok
  exact calls_ir (args := #[v0, v1]) Tryd.func32 (c := Tryd.f32.body.getD .skip) rfl h1 h2 (by kernel_rfl) (show rvsOf Tryd.prog ir32_V Tryd.f32.results.toList = some [.tmp 4] by kernel_rfl) (Nat.le_of_ble_eq_true rfl) (h _ rfl rfl)

/-! ### 40: argus/argusref16.SameStrings  params #[22, 22] results #[4]  slots [(0, a), (1, b), (5, i)] -/
noncomputable def ir40_k0 : IR :=
  .cond (.var 25)
   (.seq (.reg [.asg none 4 (.const (.bool false))]) <|
    .ret)
   (.skip)
noncomputable def ir40_k1 : IR :=
  .reg [.asg none 5 (.op2 (.ibin .add .i64) (.var 5) (.const (.int .i64 1)))]
noncomputable def ir40_k2 : IR :=
  .seq (.block 1 (.seq (.drw [.asg none 25 (.op2 (.sbin .neq) (.op1 .load1 (.op2 (.ixa 1) (.var 0) (.var 5))) (.op1 .load1 (.op2 (.ixa 1) (.var 1) (.var 5))))])
    (ir40_k0)))
  (ir40_k1)
noncomputable def ir40_l3 : IR :=
  .seq (.reg [.asg none 14 (.op2 (.ibin .lss .i64) (.var 5) (.op1 .lenS (.var 0)))]) <|
  .seq (.cond (.var 14)
    (.skip)
    (.exit 0))
  (ir40_k2)
noncomputable def ir40_k4 : IR :=
  .seq (.reg [.asg none 4 (.const (.bool true))]) <|
  .ret
noncomputable def ir40_k5 : IR :=
  .seq (.reg [.asg none 5 (.const (.int .i64 0))]) <|
  .seq (.block 0 (.loop ir40_l3))
  (ir40_k4)
noncomputable def ir40 : IR :=
  .seq (.reg [.asg none 4 (.const (.bool false)),
     .asg none 10 (.op2 (.ibin .neq .i64) (.op1 .lenS (.var 0)) (.op1 .lenS (.var 1)))]) <|
  .seq (.cond (.var 10)
    (.seq (.reg [.asg none 4 (.const (.bool false))]) <|
     .ret)
    (.skip))
  (ir40_k5)
def ir40_V : List Nat := [0, 1, 4, 5, 10, 14, 25]
theorem ir40_ok : (comp Tryd.prog Tryd.f40.ntmps ir40_V [] (Tryd.f40.body.getD .skip)).map IR.norm = some ir40 := by kernel_rfl
theorem ir40_calls {v0 v1 : Value} {w : World} {R : Ending → World → Prop} (h : ∀ ρ : Env, ρ 0 = v0 → ρ 1 = v1 → ir40.wp ⟨Tryd.prog, 26, ir40_V, []⟩ (retK [.tmp 4] R) (ksOf [.tmp 4] R) ρ w) :
    Calls Tryd.prog 40 #[v0, v1] w R := by
  obtain ⟨ir0, h1, h2⟩ := Option.map_eq_some_iff.1 ir40_ok
  exact calls_ir (args := #[v0, v1]) Tryd.func40 (c := Tryd.f40.body.getD .skip) rfl h1 h2 (by kernel_rfl) (show rvsOf Tryd.prog ir40_V Tryd.f40.results.toList = some [.tmp 4] by kernel_rfl) (Nat.le_of_ble_eq_true rfl) (h _ rfl rfl)

/-! ### 41: argus/argusref16.SameObjects  params #[42, 42] results #[4]  slots [(0, a), (1, b), (5, i), (6, k)] -/
noncomputable def ir41_body : Code := (Tryd.f41.body).getD .skip
noncomputable def ir41_k0 : IR :=
  .cond (.var 84)
   (.seq (.reg [.asg none 4 (.const (.bool false))]) <|
    .ret)
   (.skip)
noncomputable def ir41_k1 : IR :=
  .reg [.asg none 6 (.op2 (.ibin .add .i64) (.var 6) (.const (.int .i64 1)))]
noncomputable def ir41_k2 : IR :=
  .seq (.block 3 (.seq (.raw (rawReg ir41_body 11))
    (ir41_k0)))
  (ir41_k1)
noncomputable def ir41_l3 : IR :=
  .seq (.reg [.asg none 65 (.op2 (.ibin .lss .i64) (.var 6) (.op1 .lenS (.op1 .load1 (.op1 (.fadr 2) (.op2 (.ixa 3) (.var 0) (.var 5))))))]) <|
  .seq (.cond (.var 65)
    (.skip)
    (.exit 2))
  (ir41_k2)
noncomputable def ir41_k4 : IR :=
  .seq (.reg [.asg none 6 (.const (.int .i64 0))]) <|
  .block 2 (.loop ir41_l3)
noncomputable def ir41_k5 : IR :=
  .seq (.cond (.var 57)
    (.seq (.reg [.asg none 4 (.const (.bool false))]) <|
     .ret)
    (.skip))
  (ir41_k4)
noncomputable def ir41_k6 : IR :=
  .reg [.asg none 5 (.op2 (.ibin .add .i64) (.var 5) (.const (.int .i64 1)))]
noncomputable def ir41_k7 : IR :=
  .seq (.block 1 (.seq (.drw [.asg none 29 (.op2 (.sbin .neq) (.op1 .load1 (.op1 (.fadr 0) (.op2 (.ixa 3) (.var 0) (.var 5)))) (.op1 .load1 (.op1 (.fadr 0) (.op2 (.ixa 3) (.var 1) (.var 5))))),
       .asg (some (29, false)) 34 (.op1 .load1 (.op1 (.fadr 1) (.op2 (.ixa 3) (.var 0) (.var 5)))),
       .asg (some (29, false)) 39 (.op1 .load1 (.op1 (.fadr 1) (.op2 (.ixa 3) (.var 1) (.var 5)))),
       .eff (some (29, false)) (some 40) (.call { callee := .value (.func 21), args := #[(.tmp 34), (.tmp 39)], argTypes := #[24, 24] }) 4,
       .asg none 57 (.ite (.ite (.var 29) (.const (.bool true)) (.op1 .not (.var 40))) (.const (.bool true)) (.op2 (.ibin .neq .i64) (.op1 .lenS (.op1 .load1 (.op1 (.fadr 2) (.op2 (.ixa 3) (.var 0) (.var 5))))) (.op1 .lenS (.op1 .load1 (.op1 (.fadr 2) (.op2 (.ixa 3) (.var 1) (.var 5)))))))])
    (ir41_k5)))
  (ir41_k6)
noncomputable def ir41_l8 : IR :=
  .seq (.reg [.asg none 15 (.op2 (.ibin .lss .i64) (.var 5) (.op1 .lenS (.var 0)))]) <|
  .seq (.cond (.var 15)
    (.skip)
    (.exit 0))
  (ir41_k7)
noncomputable def ir41_k9 : IR :=
  .seq (.reg [.asg none 4 (.const (.bool true))]) <|
  .ret
noncomputable def ir41_k10 : IR :=
  .seq (.reg [.asg none 5 (.const (.int .i64 0))]) <|
  .seq (.block 0 (.loop ir41_l8))
  (ir41_k9)
noncomputable def ir41 : IR :=
  .seq (.reg [.asg none 4 (.const (.bool false)),
     .asg none 11 (.op2 (.ibin .neq .i64) (.op1 .lenS (.var 0)) (.op1 .lenS (.var 1)))]) <|
  .seq (.cond (.var 11)
    (.seq (.reg [.asg none 4 (.const (.bool false))]) <|
     .ret)
    (.skip))
  (ir41_k10)
def ir41_V : List Nat := [0, 1, 4, 5, 6, 11, 15, 29, 34, 39, 40, 57, 65, 68, 69, 70, 71, 72, 73, 74, 75, 76, 77, 78, 79, 80, 81, 82, 83, 84]
theorem ir41_ok : (comp Tryd.prog Tryd.f41.ntmps ir41_V [11] (Tryd.f41.body.getD .skip)).map IR.norm = some ir41 := by kernel_rfl
theorem ir41_calls {v0 v1 : Value} {w : World} {R : Ending → World → Prop} (h : ∀ ρ : Env, ρ 0 = v0 → ρ 1 = v1 → ir41.wp ⟨Tryd.prog, 85, ir41_V, []⟩ (retK [.tmp 4] R) (ksOf [.tmp 4] R) ρ w) :
    Calls Tryd.prog 41 #[v0, v1] w R := by
  obtain ⟨ir0, h1, h2⟩ := Option.map_eq_some_iff.1 ir41_ok
  exact calls_ir (args := #[v0, v1]) Tryd.func41 (c := Tryd.f41.body.getD .skip) rfl h1 h2 (by kernel_rfl) (show rvsOf Tryd.prog ir41_V Tryd.f41.results.toList = some [.tmp 4] by kernel_rfl) (Nat.le_of_ble_eq_true rfl) (h _ rfl rfl)

/-! ### 45: argus/argusref16.Check  params #[45] results #[29]  slots [(0, o), (1, o), (3, i), (4, r)] -/
noncomputable def ir45_k0 : IR :=
  .cond (.var 86)
   (.seq (.reg [.asg none 2 (.const (.int .i64 161))]) <|
    .ret)
   (.skip)
noncomputable def ir45_k1 : IR :=
  .reg [.asg none 3 (.op2 (.ibin .add .i64) (.var 3) (.const (.int .i64 1)))]
noncomputable def ir45_k2 : IR :=
  .seq (.block 1 (.seq (.reg [.asg none 32 (.op1 (.loadN 2) (.op2 (.ixa 2) (.op1 .load1 (.op1 (.fadr 2) (.var 1))) (.var 3))),
       .eff none (some 4) (.alloc 54) 0,
       .eff none none (.store 54 (.tmp 4) (.tmp 32)) 0]) <|
    .seq (.drw [.asg none 45 (.ite (.op2 (.ibin .lss .i64) (.op1 .load1 (.op1 (.fadr 0) (.var 4))) (.const (.int .i64 0))) (.const (.bool true)) (.op2 (.ibin .gtr .i64) (.op1 .load1 (.op1 (.fadr 0) (.var 4))) (.op2 (.ibin .sub .i64) (.op1 .lenS (.op1 .load1 (.op1 (.fadr 1) (.var 1)))) (.const (.int .i64 2))))),
       .asg (some (45, false)) 47 (.op1 .load1 (.op1 (.fadr 1) (.var 4))),
       .eff (some (45, false)) (some 48) (.call { callee := .value (.func 54), args := #[(.tmp 47)], argTypes := #[9] }) 4,
       .asg none 86 (.ite (.ite (.ite (.ite (.var 45) (.const (.bool true)) (.op1 .not (.var 48))) (.const (.bool true)) (.ite (.op2 (.ibin .gtr .i64) (.var 3) (.const (.int .i64 0))) (.op2 (.ibin .lss .i64) (.op1 .load1 (.op1 (.fadr 0) (.var 4))) (.op2 (.ibin .add .i64) (.op1 .load1 (.op1 (.fadr 0) (.op2 (.ixa 2) (.op1 .load1 (.op1 (.fadr 2) (.var 1))) (.op2 (.ibin .sub .i64) (.var 3) (.const (.int .i64 1)))))) (.const (.int .i64 2)))) (.const (.bool false)))) (.const (.bool true)) (.op2 (.ibin .neq .u8) (.op1 .load1 (.op2 (.ixa 1) (.op1 .load1 (.op1 (.fadr 1) (.var 1))) (.op1 .load1 (.op1 (.fadr 0) (.var 4))))) (.const (.int .u8 0)))) (.const (.bool true)) (.op2 (.ibin .neq .u8) (.op1 .load1 (.op2 (.ixa 1) (.op1 .load1 (.op1 (.fadr 1) (.var 1))) (.op2 (.ibin .add .i64) (.op1 .load1 (.op1 (.fadr 0) (.var 4))) (.const (.int .i64 1))))) (.const (.int .u8 0))))])
    (ir45_k0)))
  (ir45_k1)
noncomputable def ir45_l3 : IR :=
  .seq (.reg [.asg none 25 (.op2 (.ibin .lss .i64) (.var 3) (.op1 .lenS (.op1 .load1 (.op1 (.fadr 2) (.var 1)))))]) <|
  .seq (.cond (.var 25)
    (.skip)
    (.exit 0))
  (ir45_k2)
noncomputable def ir45_k4 : IR :=
  .seq (.reg [.asg none 2 (.const (.int .i64 0))]) <|
  .ret
noncomputable def ir45_k5 : IR :=
  .seq (.reg [.asg none 3 (.const (.int .i64 0))]) <|
  .seq (.block 0 (.loop ir45_l3))
  (ir45_k4)
noncomputable def ir45 : IR :=
  .seq (.reg [.eff none (some 1) (.box 45 (.tmp 0)) 0,
     .asg none 2 (.const (.int .i64 0)),
     .asg none 6 (.op1 .load1 (.op1 (.fadr 0) (.var 1))),
     .eff none (some 7) (.call { callee := .value (.func 54), args := #[(.tmp 6)], argTypes := #[9] }) 4,
     .asg none 20 (.ite (.ite (.op1 .not (.var 7)) (.const (.bool true)) (.op2 (.ibin .gtr .i64) (.op1 .lenS (.op1 .load1 (.op1 (.fadr 1) (.var 1)))) (.const (.int .i64 20000)))) (.const (.bool true)) (.op2 (.ibin .gtr .i64) (.op1 .lenS (.op1 .load1 (.op1 (.fadr 2) (.var 1)))) (.const (.int .i64 2000))))]) <|
  .seq (.cond (.var 20)
    (.seq (.reg [.asg none 2 (.const (.int .i64 161))]) <|
     .ret)
    (.skip))
  (ir45_k5)
def ir45_V : List Nat := [0, 1, 2, 3, 4, 6, 7, 20, 25, 32, 45, 47, 48, 86]
theorem ir45_ok : (comp Tryd.prog Tryd.f45.ntmps ir45_V [] (Tryd.f45.body.getD .skip)).map IR.norm = some ir45 := by kernel_rfl
theorem ir45_calls {v0 : Value} {w : World} {R : Ending → World → Prop} (h : ∀ ρ : Env, ρ 0 = v0 → ir45.wp ⟨Tryd.prog, 87, ir45_V, []⟩ (retK [.tmp 2] R) (ksOf [.tmp 2] R) ρ w) :
    Calls Tryd.prog 45 #[v0] w R := by
  obtain ⟨ir0, h1, h2⟩ := Option.map_eq_some_iff.1 ir45_ok
  exact calls_ir (args := #[v0]) Tryd.func45 (c := Tryd.f45.body.getD .skip) rfl h1 h2 (by kernel_rfl) (show rvsOf Tryd.prog ir45_V Tryd.f45.results.toList = some [.tmp 2] by kernel_rfl) (Nat.le_of_ble_eq_true rfl) (h _ rfl)

/-! ### 46: argus/argusref16.CheckAll  params #[42] results #[3, 29]  slots [(0, l), (4, i), (5, k)] -/
noncomputable def ir46_k0 : IR :=
  .cond (.var 37)
   (.seq (.reg [.asg none 2 (.var 4),
       .asg none 3 (.const (.int .i64 6))]) <|
    .ret)
   (.skip)
noncomputable def ir46_k1 : IR :=
  .reg [.asg none 5 (.op2 (.ibin .add .i64) (.var 5) (.const (.int .i64 1)))]
noncomputable def ir46_k2 : IR :=
  .seq (.block 3 (.seq (.drw [.asg none 37 (.op2 (.sbin .eql) (.op1 .load1 (.op1 (.fadr 0) (.op2 (.ixa 3) (.var 0) (.var 5)))) (.op1 .load1 (.op1 (.fadr 0) (.op2 (.ixa 3) (.var 0) (.var 4)))))])
    (ir46_k0)))
  (ir46_k1)
noncomputable def ir46_l3 : IR :=
  .seq (.reg [.asg none 24 (.op2 (.ibin .lss .i64) (.var 5) (.var 4))]) <|
  .seq (.cond (.var 24)
    (.skip)
    (.exit 2))
  (ir46_k2)
noncomputable def ir46_k4 : IR :=
  .seq (.reg [.asg none 5 (.const (.int .i64 0))]) <|
  .block 2 (.loop ir46_l3)
noncomputable def ir46_k5 : IR :=
  .reg [.asg none 4 (.op2 (.ibin .add .i64) (.var 4) (.const (.int .i64 1)))]
noncomputable def ir46_k6 : IR :=
  .seq (.block 1 (.seq (.reg [.asg none 18 (.op1 (.loadN 3) (.op2 (.ixa 3) (.var 0) (.var 4))),
       .eff none (some 19) (.call { callee := .value (.func 45), args := #[(.tmp 18)], argTypes := #[45] }) 29,
       .asg none 20 (.op2 (.ibin .neq .i64) (.var 19) (.const (.int .i64 0)))]) <|
    .seq (.cond (.var 20)
      (.seq (.reg [.asg none 2 (.var 4),
          .asg none 3 (.const (.int .i64 161))]) <|
       .ret)
      (.skip))
    (ir46_k4)))
  (ir46_k5)
noncomputable def ir46_l7 : IR :=
  .seq (.reg [.asg none 12 (.op2 (.ibin .lss .i64) (.var 4) (.op1 .lenS (.var 0)))]) <|
  .seq (.cond (.var 12)
    (.skip)
    (.exit 0))
  (ir46_k6)
noncomputable def ir46_k8 : IR :=
  .seq (.reg [.asg none 2 (.const (.int .i64 0)),
     .asg none 3 (.const (.int .i64 0))]) <|
  .ret
noncomputable def ir46_k9 : IR :=
  .seq (.reg [.asg none 4 (.const (.int .i64 0))]) <|
  .seq (.block 0 (.loop ir46_l7))
  (ir46_k8)
noncomputable def ir46 : IR :=
  .seq (.reg [.asg none 2 (.const (.int .i64 0)),
     .asg none 3 (.const (.int .i64 0)),
     .asg none 8 (.op2 (.ibin .gtr .i64) (.op1 .lenS (.var 0)) (.const (.int .i64 60)))]) <|
  .seq (.cond (.var 8)
    (.seq (.reg [.asg none 2 (.const (.int .i64 0)),
        .asg none 3 (.const (.int .i64 2))]) <|
     .ret)
    (.skip))
  (ir46_k9)
def ir46_V : List Nat := [0, 2, 3, 4, 5, 8, 12, 18, 19, 20, 24, 37]
theorem ir46_ok : (comp Tryd.prog Tryd.f46.ntmps ir46_V [] (Tryd.f46.body.getD .skip)).map IR.norm = some ir46 := by kernel_rfl
theorem ir46_calls {v0 : Value} {w : World} {R : Ending → World → Prop} (h : ∀ ρ : Env, ρ 0 = v0 → ir46.wp ⟨Tryd.prog, 39, ir46_V, []⟩ (retK [.tmp 2, .tmp 3] R) (ksOf [.tmp 2, .tmp 3] R) ρ w) :
    Calls Tryd.prog 46 #[v0] w R := by
  obtain ⟨ir0, h1, h2⟩ := Option.map_eq_some_iff.1 ir46_ok
  exact calls_ir (args := #[v0]) Tryd.func46 (c := Tryd.f46.body.getD .skip) rfl h1 h2 (by kernel_rfl) (show rvsOf Tryd.prog ir46_V Tryd.f46.results.toList = some [.tmp 2, .tmp 3] by kernel_rfl) (Nat.le_of_ble_eq_true rfl) (h _ rfl)

/-! ### 51: argus/argusref16.index  params #[22, 9] results #[3]  slots [(0, l), (1, s), (5, i)] -/
noncomputable def ir51_k0 : IR :=
  .reg [.asg none 5 (.op2 (.ibin .add .i64) (.var 5) (.const (.int .i64 1)))]
noncomputable def ir51_k1 : IR :=
  .seq (.block 1 (.seq (.reg [.asg none 17 (.op2 (.sbin .eql) (.op1 .load1 (.op2 (.ixa 1) (.var 0) (.var 5))) (.var 1))]) <|
    .cond (.var 17)
     (.seq (.reg [.asg none 4 (.var 5)]) <|
      .ret)
     (.skip)))
  (ir51_k0)
noncomputable def ir51_l2 : IR :=
  .seq (.reg [.asg none 9 (.op2 (.ibin .lss .i64) (.var 5) (.op1 .lenS (.var 0)))]) <|
  .seq (.cond (.var 9)
    (.skip)
    (.exit 0))
  (ir51_k1)
noncomputable def ir51_k3 : IR :=
  .seq (.reg [.asg none 4 (.const (.int .i64 (-1)))]) <|
  .ret
noncomputable def ir51 : IR :=
  .seq (.reg [.asg none 4 (.const (.int .i64 0)),
     .asg none 5 (.const (.int .i64 0))]) <|
  .seq (.block 0 (.loop ir51_l2))
  (ir51_k3)
def ir51_V : List Nat := [0, 1, 4, 5, 9, 17]
theorem ir51_ok : (comp Tryd.prog Tryd.f51.ntmps ir51_V [] (Tryd.f51.body.getD .skip)).map IR.norm = some ir51 := by kernel_rfl
theorem ir51_calls {v0 v1 : Value} {w : World} {R : Ending → World → Prop} (h : ∀ ρ : Env, ρ 0 = v0 → ρ 1 = v1 → ir51.wp ⟨Tryd.prog, 19, ir51_V, []⟩ (retK [.tmp 4] R) (ksOf [.tmp 4] R) ρ w) :
    Calls Tryd.prog 51 #[v0, v1] w R := by
  obtain ⟨ir0, h1, h2⟩ := Option.map_eq_some_iff.1 ir51_ok
  exact calls_ir (args := #[v0, v1]) Tryd.func51 (c := Tryd.f51.body.getD .skip) rfl h1 h2 (by kernel_rfl) (show rvsOf Tryd.prog ir51_V Tryd.f51.results.toList = some [.tmp 4] by kernel_rfl) (Nat.le_of_ble_eq_true rfl) (h _ rfl rfl)

/-! ### 54: argus/argusref16.isName  params #[9] results #[4]  slots [(0, s), (3, i)] -/
noncomputable def ir54_k0 : IR :=
  .reg [.asg none 3 (.op2 (.ibin .add .i64) (.var 3) (.const (.int .i64 1)))]
noncomputable def ir54_k1 : IR :=
  .seq (.block 1 (.seq (.reg [.asg none 19 (.ite (.op2 (.ibin .lss .u8) (.op2 .ixs (.var 0) (.var 3)) (.const (.int .u8 33))) (.const (.bool true)) (.op2 (.ibin .gtr .u8) (.op2 .ixs (.var 0) (.var 3)) (.const (.int .u8 126))))]) <|
    .cond (.var 19)
     (.seq (.reg [.asg none 2 (.const (.bool false))]) <|
      .ret)
     (.skip)))
  (ir54_k0)
noncomputable def ir54_l2 : IR :=
  .seq (.reg [.asg none 7 (.op2 (.ibin .lss .i64) (.var 3) (.op1 .lenT (.var 0)))]) <|
  .seq (.cond (.var 7)
    (.skip)
    (.exit 0))
  (ir54_k1)
noncomputable def ir54_k3 : IR :=
  .seq (.reg [.asg none 2 (.ite (.op2 (.ibin .geq .i64) (.op1 .lenT (.var 0)) (.const (.int .i64 1))) (.op2 (.ibin .leq .i64) (.op1 .lenT (.var 0)) (.const (.int .i64 120))) (.const (.bool false)))]) <|
  .ret
noncomputable def ir54 : IR :=
  .seq (.reg [.asg none 2 (.const (.bool false)),
     .asg none 3 (.const (.int .i64 0))]) <|
  .seq (.block 0 (.loop ir54_l2))
  (ir54_k3)
def ir54_V : List Nat := [0, 2, 3, 7, 19]
theorem ir54_ok : (comp Tryd.prog Tryd.f54.ntmps ir54_V [] (Tryd.f54.body.getD .skip)).map IR.norm = some ir54 := by kernel_rfl
theorem ir54_calls {v0 : Value} {w : World} {R : Ending → World → Prop} (h : ∀ ρ : Env, ρ 0 = v0 → ir54.wp ⟨Tryd.prog, 28, ir54_V, []⟩ (retK [.tmp 2] R) (ksOf [.tmp 2] R) ρ w) :
    Calls Tryd.prog 54 #[v0] w R := by
  obtain ⟨ir0, h1, h2⟩ := Option.map_eq_some_iff.1 ir54_ok
  exact calls_ir (args := #[v0]) Tryd.func54 (c := Tryd.f54.body.getD .skip) rfl h1 h2 (by kernel_rfl) (show rvsOf Tryd.prog ir54_V Tryd.f54.results.toList = some [.tmp 2] by kernel_rfl) (Nat.le_of_ble_eq_true rfl) (h _ rfl)

/-! ### 66: argus/argusref16.find  params #[42, 9] results #[3]  slots [(0, l), (1, name), (5, i)] -/
noncomputable def ir66_k0 : IR :=
  .reg [.asg none 5 (.op2 (.ibin .add .i64) (.var 5) (.const (.int .i64 1)))]
noncomputable def ir66_k1 : IR :=
  .seq (.block 1 (.seq (.reg [.asg none 18 (.op2 (.sbin .eql) (.op1 .load1 (.op1 (.fadr 0) (.op2 (.ixa 3) (.var 0) (.var 5)))) (.var 1))]) <|
    .cond (.var 18)
     (.seq (.reg [.asg none 4 (.var 5)]) <|
      .ret)
     (.skip)))
  (ir66_k0)
noncomputable def ir66_l2 : IR :=
  .seq (.reg [.asg none 9 (.op2 (.ibin .lss .i64) (.var 5) (.op1 .lenS (.var 0)))]) <|
  .seq (.cond (.var 9)
    (.skip)
    (.exit 0))
  (ir66_k1)
noncomputable def ir66_k3 : IR :=
  .seq (.reg [.asg none 4 (.const (.int .i64 (-1)))]) <|
  .ret
noncomputable def ir66 : IR :=
  .seq (.reg [.asg none 4 (.const (.int .i64 0)),
     .asg none 5 (.const (.int .i64 0))]) <|
  .seq (.block 0 (.loop ir66_l2))
  (ir66_k3)
def ir66_V : List Nat := [0, 1, 4, 5, 9, 18]
theorem ir66_ok : (comp Tryd.prog Tryd.f66.ntmps ir66_V [] (Tryd.f66.body.getD .skip)).map IR.norm = some ir66 := by kernel_rfl
theorem ir66_calls {v0 v1 : Value} {w : World} {R : Ending → World → Prop} (h : ∀ ρ : Env, ρ 0 = v0 → ρ 1 = v1 → ir66.wp ⟨Tryd.prog, 20, ir66_V, []⟩ (retK [.tmp 4] R) (ksOf [.tmp 4] R) ρ w) :
    Calls Tryd.prog 66 #[v0, v1] w R := by
  obtain ⟨ir0, h1, h2⟩ := Option.map_eq_some_iff.1 ir66_ok
  exact calls_ir (args := #[v0, v1]) Tryd.func66 (c := Tryd.f66.body.getD .skip) rfl h1 h2 (by kernel_rfl) (show rvsOf Tryd.prog ir66_V Tryd.f66.results.toList = some [.tmp 4] by kernel_rfl) (Nat.le_of_ble_eq_true rfl) (h _ rfl rfl)

/-! ### 69: argus/argusref16.asked  params #[42, 22] results #[29]  slots [(0, l), (1, roots), (5, _), (6, e)] -/
noncomputable def ir69_k0 : IR :=
  .seq (.reg [.asg none 4 (.var 6)]) <|
  .ret
noncomputable def ir69 : IR :=
  .seq (.reg [.asg none 4 (.const (.int .i64 0)),
     .asg none 8 (.var 0),
     .eff none (some 9) (.call { callee := .value (.func 46), args := #[(.tmp 8)], argTypes := #[42] }) 50,
     .asg none 7 (.var 9),
     .asg none 10 (.op1 (.ext 0) (.var 7)),
     .asg none 11 (.op1 (.ext 1) (.var 7)),
     .asg none 5 (.var 10),
     .asg none 6 (.var 11),
     .asg none 18 (.ite (.op2 (.ibin .eql .i64) (.var 6) (.const (.int .i64 0))) (.op2 (.ibin .gtr .i64) (.op1 .lenS (.var 1)) (.const (.int .i64 60))) (.const (.bool false)))]) <|
  .seq (.cond (.var 18)
    (.reg [.asg none 6 (.const (.int .i64 2))])
    (.skip))
  (ir69_k0)
def ir69_V : List Nat := [0, 1, 4, 5, 6, 7, 8, 9, 10, 11, 18]
theorem ir69_ok : (comp Tryd.prog Tryd.f69.ntmps ir69_V [] (Tryd.f69.body.getD .skip)).map IR.norm = some ir69 := by kernel_rfl
theorem ir69_calls {v0 v1 : Value} {w : World} {R : Ending → World → Prop} (h : ∀ ρ : Env, ρ 0 = v0 → ρ 1 = v1 → ir69.wp ⟨Tryd.prog, 20, ir69_V, []⟩ (retK [.tmp 4] R) (ksOf [.tmp 4] R) ρ w) :
    Calls Tryd.prog 69 #[v0, v1] w R := by
  obtain ⟨ir0, h1, h2⟩ := Option.map_eq_some_iff.1 ir69_ok
  exact calls_ir (args := #[v0, v1]) Tryd.func69 (c := Tryd.f69.body.getD .skip) rfl h1 h2 (by kernel_rfl) (show rvsOf Tryd.prog ir69_V Tryd.f69.results.toList = some [.tmp 4] by kernel_rfl) (Nat.le_of_ble_eq_true rfl) (h _ rfl rfl)

/-! ### 73: argus/argusref16.put  params #[22, 9] results #[22]  slots [(0, l), (1, s), (5, at), (6, out)] -/
noncomputable def ir73_k0 : IR :=
  .block 1 (.reg [.asg none 5 (.op2 (.ibin .add .i64) (.var 5) (.const (.int .i64 1)))])
noncomputable def ir73_l1 : IR :=
  .seq (.reg [.asg none 18 (.ite (.op2 (.ibin .lss .i64) (.var 5) (.op1 .lenS (.var 0))) (.op2 (.sbin .lss) (.op1 .load1 (.op2 (.ixa 1) (.var 0) (.var 5))) (.var 1)) (.const (.bool false)))]) <|
  .seq (.cond (.var 18)
    (.skip)
    (.exit 0))
  (ir73_k0)
noncomputable def ir73_k2 : IR :=
  .seq (.reg [.eff none (some 34) (.buildSlice 22 0 #[]) 22,
     .asg none 37 (.op3 (.slLoHi 1) (.var 0) (.const (.int .i64 0)) (.var 5)),
     .eff none (some 38) (.call { callee := .builtin .append, args := #[(.tmp 34), (.tmp 37)], argTypes := #[22, 22] }) 22,
     .asg none 39 (.var 1),
     .eff none (some 40) (.buildSlice 22 1 #[(0, (.tmp 39))]) 22,
     .eff none (some 41) (.call { callee := .builtin .append, args := #[(.tmp 38), (.tmp 40)], argTypes := #[22, 22] }) 22,
     .asg none 6 (.var 41),
     .asg none 42 (.var 6),
     .asg none 45 (.op2 (.slLo 1) (.var 0) (.var 5)),
     .eff none (some 46) (.call { callee := .builtin .append, args := #[(.tmp 42), (.tmp 45)], argTypes := #[22, 22] }) 22,
     .asg none 4 (.var 46)]) <|
  .ret
noncomputable def ir73_k3 : IR :=
  .seq (.reg [.asg none 32 (.ite (.op2 (.ibin .lss .i64) (.var 5) (.op1 .lenS (.var 0))) (.op2 (.sbin .eql) (.op1 .load1 (.op2 (.ixa 1) (.var 0) (.var 5))) (.var 1)) (.const (.bool false)))]) <|
  .seq (.cond (.var 32)
    (.seq (.reg [.asg none 4 (.var 0)]) <|
     .ret)
    (.skip))
  (ir73_k2)
noncomputable def ir73 : IR :=
  .seq (.reg [.asg none 4 (.const (.slice none 0 0)),
     .asg none 5 (.const (.int .i64 0))]) <|
  .seq (.block 0 (.loop ir73_l1))
  (ir73_k3)
def ir73_V : List Nat := [0, 1, 4, 5, 6, 18, 32, 34, 37, 38, 39, 40, 41, 42, 45, 46]
theorem ir73_ok : (comp Tryd.prog Tryd.f73.ntmps ir73_V [] (Tryd.f73.body.getD .skip)).map IR.norm = some ir73 := by kernel_rfl
theorem ir73_calls {v0 v1 : Value} {w : World} {R : Ending → World → Prop} (h : ∀ ρ : Env, ρ 0 = v0 → ρ 1 = v1 → ir73.wp ⟨Tryd.prog, 47, ir73_V, []⟩ (retK [.tmp 4] R) (ksOf [.tmp 4] R) ρ w) :
    Calls Tryd.prog 73 #[v0, v1] w R := by
  obtain ⟨ir0, h1, h2⟩ := Option.map_eq_some_iff.1 ir73_ok
  exact calls_ir (args := #[v0, v1]) Tryd.func73 (c := Tryd.f73.body.getD .skip) rfl h1 h2 (by kernel_rfl) (show rvsOf Tryd.prog ir73_V Tryd.f73.results.toList = some [.tmp 4] by kernel_rfl) (Nat.le_of_ble_eq_true rfl) (h _ rfl rfl)

/-! ### 43: argus/argusref16.Needs  params #[45] results #[22, 29]  slots [(0, o), (1, o), (4, out), (5, i)] -/
noncomputable def ir43_k0 : IR :=
  .reg [.asg none 5 (.op2 (.ibin .add .i64) (.var 5) (.const (.int .i64 1)))]
noncomputable def ir43_k1 : IR :=
  .seq (.block 1 (.reg [.asg none 16 (.var 4),
      .asg none 22 (.op1 .load1 (.op1 (.fadr 1) (.op2 (.ixa 2) (.op1 .load1 (.op1 (.fadr 2) (.var 1))) (.var 5)))),
      .eff none (some 23) (.call { callee := .value (.func 73), args := #[(.tmp 16), (.tmp 22)], argTypes := #[22, 9] }) 22,
      .asg none 4 (.var 23)]))
  (ir43_k0)
noncomputable def ir43_l2 : IR :=
  .seq (.reg [.asg none 13 (.op2 (.ibin .lss .i64) (.var 5) (.op1 .lenS (.op1 .load1 (.op1 (.fadr 2) (.var 1)))))]) <|
  .seq (.cond (.var 13)
    (.skip)
    (.exit 0))
  (ir43_k1)
noncomputable def ir43_k3 : IR :=
  .seq (.reg [.asg none 2 (.var 4),
     .asg none 3 (.const (.int .i64 0))]) <|
  .ret
noncomputable def ir43_k4 : IR :=
  .seq (.reg [.asg none 4 (.const (.slice none 0 0)),
     .asg none 5 (.const (.int .i64 0))]) <|
  .seq (.block 0 (.loop ir43_l2))
  (ir43_k3)
noncomputable def ir43 : IR :=
  .seq (.reg [.eff none (some 1) (.box 45 (.tmp 0)) 0,
     .asg none 2 (.const (.slice none 0 0)),
     .asg none 3 (.const (.int .i64 0)),
     .asg none 6 (.op1 (.loadN 3) (.var 1)),
     .eff none (some 7) (.call { callee := .value (.func 45), args := #[(.tmp 6)], argTypes := #[45] }) 29,
     .asg none 8 (.op2 (.ibin .neq .i64) (.var 7) (.const (.int .i64 0)))]) <|
  .seq (.cond (.var 8)
    (.seq (.reg [.asg none 2 (.const (.slice none 0 0)),
        .asg none 3 (.const (.int .i64 161))]) <|
     .ret)
    (.skip))
  (ir43_k4)
def ir43_V : List Nat := [0, 1, 2, 3, 4, 5, 6, 7, 8, 13, 16, 22, 23]
theorem ir43_ok : (comp Tryd.prog Tryd.f43.ntmps ir43_V [] (Tryd.f43.body.getD .skip)).map IR.norm = some ir43 := by kernel_rfl
theorem ir43_calls {v0 : Value} {w : World} {R : Ending → World → Prop} (h : ∀ ρ : Env, ρ 0 = v0 → ir43.wp ⟨Tryd.prog, 25, ir43_V, []⟩ (retK [.tmp 2, .tmp 3] R) (ksOf [.tmp 2, .tmp 3] R) ρ w) :
    Calls Tryd.prog 43 #[v0] w R := by
  obtain ⟨ir0, h1, h2⟩ := Option.map_eq_some_iff.1 ir43_ok
  exact calls_ir (args := #[v0]) Tryd.func43 (c := Tryd.f43.body.getD .skip) rfl h1 h2 (by kernel_rfl) (show rvsOf Tryd.prog ir43_V Tryd.f43.results.toList = some [.tmp 2, .tmp 3] by kernel_rfl) (Nat.le_of_ble_eq_true rfl) (h _ rfl)

/-! ### 65: argus/argusref16.reached  params #[42, 22] results #[22]  slots [(0, l), (1, roots), (5, out), (6, todo), (7, s), (8, at), (9, needs), (10, _)] -/
noncomputable def ir65_k0 : IR :=
  .seq (.reg [.asg none 26 (.var 5),
     .asg none 27 (.var 7),
     .eff none (some 28) (.call { callee := .value (.func 73), args := #[(.tmp 26), (.tmp 27)], argTypes := #[22, 9] }) 22,
     .asg none 5 (.var 28),
     .asg none 29 (.var 0),
     .asg none 30 (.var 7),
     .eff none (some 31) (.call { callee := .value (.func 66), args := #[(.tmp 29), (.tmp 30)], argTypes := #[42, 9] }) 3,
     .asg none 8 (.var 31),
     .asg none 33 (.op2 (.ibin .geq .i64) (.var 8) (.const (.int .i64 0)))]) <|
  .cond (.var 33)
   (.reg [.asg none 38 (.op1 (.loadN 3) (.op2 (.ixa 3) (.var 0) (.var 8))),
      .eff none (some 39) (.call { callee := .value (.func 43), args := #[(.tmp 38)], argTypes := #[45] }) 58,
      .asg none 34 (.var 39),
      .asg none 40 (.op1 (.ext 0) (.var 34)),
      .asg none 41 (.op1 (.ext 1) (.var 34)),
      .asg none 9 (.var 40),
      .asg none 10 (.var 41),
      .asg none 42 (.var 6),
      .asg none 43 (.var 9),
      .eff none (some 44) (.call { callee := .builtin .append, args := #[(.tmp 42), (.tmp 43)], argTypes := #[22, 22] }) 22,
      .asg none 6 (.var 44)])
   (.skip)
noncomputable def ir65_k1 : IR :=
  .block 1 (.seq (.reg [.asg none 7 (.op1 .load1 (.op2 (.ixa 1) (.var 6) (.const (.int .i64 0)))),
      .asg none 6 (.op2 (.slLo 1) (.var 6) (.const (.int .i64 1))),
      .asg none 22 (.var 5),
      .asg none 23 (.var 7),
      .eff none (some 24) (.call { callee := .value (.func 51), args := #[(.tmp 22), (.tmp 23)], argTypes := #[22, 9] }) 3,
      .asg none 25 (.op2 (.ibin .geq .i64) (.var 24) (.const (.int .i64 0)))]) <|
   .seq (.cond (.var 25)
     (.exit 1)
     (.skip))
   (ir65_k0))
noncomputable def ir65_l2 : IR :=
  .seq (.reg [.asg none 16 (.op2 (.ibin .gtr .i64) (.op1 .lenS (.var 6)) (.const (.int .i64 0)))]) <|
  .seq (.cond (.var 16)
    (.skip)
    (.exit 0))
  (ir65_k1)
noncomputable def ir65_k3 : IR :=
  .seq (.reg [.asg none 4 (.var 5)]) <|
  .ret
noncomputable def ir65 : IR :=
  .seq (.reg [.asg none 4 (.const (.slice none 0 0)),
     .asg none 5 (.const (.slice none 0 0)),
     .eff none (some 11) (.buildSlice 22 0 #[]) 22,
     .asg none 12 (.var 1),
     .eff none (some 13) (.call { callee := .builtin .append, args := #[(.tmp 11), (.tmp 12)], argTypes := #[22, 22] }) 22,
     .asg none 6 (.var 13)]) <|
  .seq (.block 0 (.loop ir65_l2))
  (ir65_k3)
def ir65_V : List Nat := [0, 1, 4, 5, 6, 7, 8, 9, 10, 11, 12, 13, 16, 22, 23, 24, 25, 26, 27, 28, 29, 30, 31, 33, 34, 38, 39, 40, 41, 42, 43, 44]
theorem ir65_ok : (comp Tryd.prog Tryd.f65.ntmps ir65_V [] (Tryd.f65.body.getD .skip)).map IR.norm = some ir65 := by kernel_rfl
theorem ir65_calls {v0 v1 : Value} {w : World} {R : Ending → World → Prop} (h : ∀ ρ : Env, ρ 0 = v0 → ρ 1 = v1 → ir65.wp ⟨Tryd.prog, 46, ir65_V, []⟩ (retK [.tmp 4] R) (ksOf [.tmp 4] R) ρ w) :
    Calls Tryd.prog 65 #[v0, v1] w R := by
  obtain ⟨ir0, h1, h2⟩ := Option.map_eq_some_iff.1 ir65_ok
  exact calls_ir (args := #[v0, v1]) Tryd.func65 (c := Tryd.f65.body.getD .skip) rfl h1 h2 (by kernel_rfl) (show rvsOf Tryd.prog ir65_V Tryd.f65.results.toList = some [.tmp 4] by kernel_rfl) (Nat.le_of_ble_eq_true rfl) (h _ rfl rfl)

/-! ### 35: argus/argusref16.Reached  params #[42, 22] results #[22, 29]  slots [(0, l), (1, roots), (6, e)] -/
noncomputable def ir35_k0 : IR :=
  .seq (.reg [.asg none 13 (.var 0),
     .asg none 14 (.var 1),
     .eff none (some 15) (.call { callee := .value (.func 65), args := #[(.tmp 13), (.tmp 14)], argTypes := #[42, 22] }) 22,
     .asg none 4 (.var 15),
     .asg none 5 (.const (.int .i64 0))]) <|
  .ret
noncomputable def ir35 : IR :=
  .seq (.reg [.asg none 4 (.const (.slice none 0 0)),
     .asg none 5 (.const (.int .i64 0)),
     .asg none 7 (.var 0),
     .asg none 8 (.var 1),
     .eff none (some 9) (.call { callee := .value (.func 69), args := #[(.tmp 7), (.tmp 8)], argTypes := #[42, 22] }) 29,
     .asg none 6 (.var 9),
     .asg none 11 (.op2 (.ibin .neq .i64) (.var 6) (.const (.int .i64 0)))]) <|
  .seq (.cond (.var 11)
    (.seq (.reg [.asg none 12 (.var 6),
        .asg none 4 (.const (.slice none 0 0)),
        .asg none 5 (.var 12)]) <|
     .ret)
    (.skip))
  (ir35_k0)
def ir35_V : List Nat := [0, 1, 4, 5, 6, 7, 8, 9, 11, 12, 13, 14, 15]
theorem ir35_ok : (comp Tryd.prog Tryd.f35.ntmps ir35_V [] (Tryd.f35.body.getD .skip)).map IR.norm = some ir35 := by kernel_rfl
theorem ir35_calls {v0 v1 : Value} {w : World} {R : Ending → World → Prop} (h : ∀ ρ : Env, ρ 0 = v0 → ρ 1 = v1 → ir35.wp ⟨Tryd.prog, 16, ir35_V, []⟩ (retK [.tmp 4, .tmp 5] R) (ksOf [.tmp 4, .tmp 5] R) ρ w) :
    Calls Tryd.prog 35 #[v0, v1] w R := by
  obtain ⟨ir0, h1, h2⟩ := Option.map_eq_some_iff.1 ir35_ok
  exact calls_ir (args := #[v0, v1]) Tryd.func35 (c := Tryd.f35.body.getD .skip) rfl h1 h2 (by kernel_rfl) (show rvsOf Tryd.prog ir35_V Tryd.f35.results.toList = some [.tmp 4, .tmp 5] by kernel_rfl) (Nat.le_of_ble_eq_true rfl) (h _ rfl rfl)

/-! ### 37: argus/argusref16.Missing  params #[42, 22] results #[22, 29]  slots [(0, l), (1, roots), (6, all), (7, e), (8, out), (9, i)] -/
noncomputable def ir37_k0 : IR :=
  .reg [.asg none 9 (.op2 (.ibin .add .i64) (.var 9) (.const (.int .i64 1)))]
noncomputable def ir37_k1 : IR :=
  .seq (.block 1 (.seq (.reg [.asg none 25 (.var 0),
       .asg none 29 (.op1 .load1 (.op2 (.ixa 1) (.var 6) (.var 9))),
       .eff none (some 30) (.call { callee := .value (.func 66), args := #[(.tmp 25), (.tmp 29)], argTypes := #[42, 9] }) 3,
       .asg none 31 (.op2 (.ibin .lss .i64) (.var 30) (.const (.int .i64 0)))]) <|
    .cond (.var 31)
     (.reg [.asg none 32 (.var 8),
        .asg none 36 (.op1 .load1 (.op2 (.ixa 1) (.var 6) (.var 9))),
        .eff none (some 37) (.buildSlice 22 1 #[(0, (.tmp 36))]) 22,
        .eff none (some 38) (.call { callee := .builtin .append, args := #[(.tmp 32), (.tmp 37)], argTypes := #[22, 22] }) 22,
        .asg none 8 (.var 38)])
     (.skip)))
  (ir37_k0)
noncomputable def ir37_l2 : IR :=
  .seq (.reg [.asg none 22 (.op2 (.ibin .lss .i64) (.var 9) (.op1 .lenS (.var 6)))]) <|
  .seq (.cond (.var 22)
    (.skip)
    (.exit 0))
  (ir37_k1)
noncomputable def ir37_k3 : IR :=
  .seq (.reg [.asg none 4 (.var 8),
     .asg none 5 (.const (.int .i64 0))]) <|
  .ret
noncomputable def ir37_k4 : IR :=
  .seq (.reg [.asg none 8 (.const (.slice none 0 0)),
     .asg none 9 (.const (.int .i64 0))]) <|
  .seq (.block 0 (.loop ir37_l2))
  (ir37_k3)
noncomputable def ir37 : IR :=
  .seq (.reg [.asg none 4 (.const (.slice none 0 0)),
     .asg none 5 (.const (.int .i64 0)),
     .asg none 11 (.var 0),
     .asg none 12 (.var 1),
     .eff none (some 13) (.call { callee := .value (.func 35), args := #[(.tmp 11), (.tmp 12)], argTypes := #[42, 22] }) 58,
     .asg none 10 (.var 13),
     .asg none 14 (.op1 (.ext 0) (.var 10)),
     .asg none 15 (.op1 (.ext 1) (.var 10)),
     .asg none 6 (.var 14),
     .asg none 7 (.var 15),
     .asg none 17 (.op2 (.ibin .neq .i64) (.var 7) (.const (.int .i64 0)))]) <|
  .seq (.cond (.var 17)
    (.seq (.reg [.asg none 18 (.var 7),
        .asg none 4 (.const (.slice none 0 0)),
        .asg none 5 (.var 18)]) <|
     .ret)
    (.skip))
  (ir37_k4)
def ir37_V : List Nat := [0, 1, 4, 5, 6, 7, 8, 9, 10, 11, 12, 13, 14, 15, 17, 18, 22, 25, 29, 30, 31, 32, 36, 37, 38]
theorem ir37_ok : (comp Tryd.prog Tryd.f37.ntmps ir37_V [] (Tryd.f37.body.getD .skip)).map IR.norm = some ir37 := by kernel_rfl
theorem ir37_calls {v0 v1 : Value} {w : World} {R : Ending → World → Prop} (h : ∀ ρ : Env, ρ 0 = v0 → ρ 1 = v1 → ir37.wp ⟨Tryd.prog, 40, ir37_V, []⟩ (retK [.tmp 4, .tmp 5] R) (ksOf [.tmp 4, .tmp 5] R) ρ w) :
    Calls Tryd.prog 37 #[v0, v1] w R := by
  obtain ⟨ir0, h1, h2⟩ := Option.map_eq_some_iff.1 ir37_ok
  exact calls_ir (args := #[v0, v1]) Tryd.func37 (c := Tryd.f37.body.getD .skip) rfl h1 h2 (by kernel_rfl) (show rvsOf Tryd.prog ir37_V Tryd.f37.results.toList = some [.tmp 4, .tmp 5] by kernel_rfl) (Nat.le_of_ble_eq_true rfl) (h _ rfl rfl)

/-! ### 33: argus/argusref16.Link  params #[42, 22] results #[26, 29]  slots [(0, l), (1, roots), (6, missing), (7, e), (8, out), (9, i), (10, o), (11, code), (12, k), (13, n)] -/
noncomputable def ir33_k0 : IR :=
  .reg [.asg none 77 (.var 11),
    .asg none 83 (.op1 .load1 (.op1 (.fadr 0) (.op2 (.ixa 2) (.op1 .load1 (.op1 (.fadr 2) (.var 10))) (.var 12)))),
    .asg none 86 (.op1 (.conv .u8) (.op2 (.ibin .quo .i64) (.var 13) (.const (.int .i64 256)))),
    .asg none 87 (.op2 (.ixa 1) (.var 77) (.var 83)),
    .eff none none (.store 5 (.tmp 87) (.tmp 86)) 0,
    .asg none 88 (.var 11),
    .asg none 95 (.op2 (.ibin .add .i64) (.op1 .load1 (.op1 (.fadr 0) (.op2 (.ixa 2) (.op1 .load1 (.op1 (.fadr 2) (.var 10))) (.var 12)))) (.const (.int .i64 1))),
    .asg none 98 (.op1 (.conv .u8) (.op2 (.ibin .rem .i64) (.var 13) (.const (.int .i64 256)))),
    .asg none 99 (.op2 (.ixa 1) (.var 88) (.var 95)),
    .eff none none (.store 5 (.tmp 99) (.tmp 98)) 0]
noncomputable def ir33_k1 : IR :=
  .reg [.asg none 12 (.op2 (.ibin .add .i64) (.var 12) (.const (.int .i64 1)))]
noncomputable def ir33_k2 : IR :=
  .seq (.block 3 (.seq (.drw [.asg none 69 (.op1 .load1 (.op1 (.fadr 0) (.var 8))),
       .asg none 75 (.op1 .load1 (.op1 (.fadr 1) (.op2 (.ixa 2) (.op1 .load1 (.op1 (.fadr 2) (.var 10))) (.var 12)))),
       .eff none (some 76) (.call { callee := .value (.func 51), args := #[(.tmp 69), (.tmp 75)], argTypes := #[22, 9] }) 3,
       .asg none 13 (.var 76)])
    (ir33_k0)))
  (ir33_k1)
noncomputable def ir33_l3 : IR :=
  .seq (.reg [.asg none 65 (.op2 (.ibin .lss .i64) (.var 12) (.op1 .lenS (.op1 .load1 (.op1 (.fadr 2) (.var 10)))))]) <|
  .seq (.cond (.var 65)
    (.skip)
    (.exit 2))
  (ir33_k2)
noncomputable def ir33_k4 : IR :=
  .reg [.asg none 101 (.op1 .load1 (.op1 (.fadr 2) (.var 8))),
    .asg none 102 (.var 11),
    .eff none (some 103) (.call { callee := .builtin .append, args := #[(.tmp 101), (.tmp 102)], argTypes := #[24, 24] }) 24,
    .asg none 104 (.op1 (.fadr 2) (.var 8)),
    .eff none none (.store 24 (.tmp 104) (.tmp 103)) 0]
noncomputable def ir33_k5 : IR :=
  .reg [.asg none 9 (.op2 (.ibin .add .i64) (.var 9) (.const (.int .i64 1)))]
noncomputable def ir33_k6 : IR :=
  .seq (.block 1 (.seq (.reg [.asg none 39 (.var 0),
       .asg none 40 (.var 0),
       .asg none 45 (.op1 .load1 (.op2 (.ixa 1) (.op1 .load1 (.op1 (.fadr 0) (.var 8))) (.var 9))),
       .eff none (some 46) (.call { callee := .value (.func 66), args := #[(.tmp 40), (.tmp 45)], argTypes := #[42, 9] }) 3,
       .asg none 48 (.op1 (.loadN 3) (.op2 (.ixa 3) (.var 39) (.var 46))),
       .eff none (some 10) (.alloc 45) 0,
       .eff none none (.store 45 (.tmp 10) (.tmp 48)) 0,
       .asg none 50 (.op1 .load1 (.op1 (.fadr 1) (.var 8))),
       .asg none 53 (.op1 .lenS (.op1 .load1 (.op1 (.fadr 2) (.var 8)))),
       .eff none (some 54) (.buildSlice 23 1 #[(0, (.tmp 53))]) 23,
       .eff none (some 55) (.call { callee := .builtin .append, args := #[(.tmp 50), (.tmp 54)], argTypes := #[23, 23] }) 23,
       .asg none 56 (.op1 (.fadr 1) (.var 8)),
       .eff none none (.store 23 (.tmp 56) (.tmp 55)) 0,
       .eff none (some 57) (.buildSlice 24 0 #[]) 24,
       .asg none 59 (.op1 .load1 (.op1 (.fadr 1) (.var 10))),
       .eff none (some 60) (.call { callee := .builtin .append, args := #[(.tmp 57), (.tmp 59)], argTypes := #[24, 24] }) 24,
       .asg none 11 (.var 60),
       .asg none 12 (.const (.int .i64 0))]) <|
    .seq (.block 2 (.loop ir33_l3))
    (ir33_k4)))
  (ir33_k5)
noncomputable def ir33_l7 : IR :=
  .seq (.reg [.asg none 36 (.op2 (.ibin .lss .i64) (.var 9) (.op1 .lenS (.op1 .load1 (.op1 (.fadr 0) (.var 8)))))]) <|
  .seq (.cond (.var 36)
    (.skip)
    (.exit 0))
  (ir33_k6)
noncomputable def ir33_k8 : IR :=
  .seq (.reg [.asg none 105 (.op1 (.loadN 3) (.var 8)),
     .eff none none (.store 26 (.tmp 4) (.tmp 105)) 0,
     .asg none 5 (.const (.int .i64 0))]) <|
  .ret
noncomputable def ir33_k9 : IR :=
  .seq (.reg [.eff none (some 8) (.alloc 26) 0,
     .asg none 28 (.var 0),
     .asg none 29 (.var 1),
     .eff none (some 30) (.call { callee := .value (.func 65), args := #[(.tmp 28), (.tmp 29)], argTypes := #[42, 22] }) 22,
     .asg none 31 (.op1 (.fadr 0) (.var 8)),
     .eff none none (.store 22 (.tmp 31) (.tmp 30)) 0,
     .asg none 9 (.const (.int .i64 0))]) <|
  .seq (.block 0 (.loop ir33_l7))
  (ir33_k8)
noncomputable def ir33_k10 : IR :=
  .seq (.reg [.asg none 26 (.op2 (.ibin .gtr .i64) (.op1 .lenS (.var 6)) (.const (.int .i64 0)))]) <|
  .seq (.cond (.var 26)
    (.seq (.reg [.eff none (some 27) (.build 26 #[]) 26,
        .eff none none (.store 26 (.tmp 4) (.tmp 27)) 0,
        .asg none 5 (.const (.int .i64 160))]) <|
     .ret)
    (.skip))
  (ir33_k9)
noncomputable def ir33 : IR :=
  .seq (.reg [.eff none (some 4) (.alloc 26) 0,
     .asg none 5 (.const (.int .i64 0)),
     .asg none 15 (.var 0),
     .asg none 16 (.var 1),
     .eff none (some 17) (.call { callee := .value (.func 37), args := #[(.tmp 15), (.tmp 16)], argTypes := #[42, 22] }) 58,
     .asg none 14 (.var 17),
     .asg none 18 (.op1 (.ext 0) (.var 14)),
     .asg none 19 (.op1 (.ext 1) (.var 14)),
     .asg none 6 (.var 18),
     .asg none 7 (.var 19),
     .asg none 21 (.op2 (.ibin .neq .i64) (.var 7) (.const (.int .i64 0)))]) <|
  .seq (.cond (.var 21)
    (.seq (.reg [.eff none (some 22) (.build 26 #[]) 26,
        .asg none 23 (.var 7),
        .eff none none (.store 26 (.tmp 4) (.tmp 22)) 0,
        .asg none 5 (.var 23)]) <|
     .ret)
    (.skip))
  (ir33_k10)
def ir33_V : List Nat := [0, 1, 4, 5, 6, 7, 8, 9, 10, 11, 12, 13, 14, 15, 16, 17, 18, 19, 21, 22, 23, 26, 27, 28, 29, 30, 31, 36, 39, 40, 45, 46, 48, 50, 53, 54, 55, 56, 57, 59, 60, 65, 69, 75, 76, 77, 83, 86, 87, 88, 95, 98, 99, 101, 102, 103, 104, 105]
theorem ir33_ok : (comp Tryd.prog Tryd.f33.ntmps ir33_V [] (Tryd.f33.body.getD .skip)).map IR.norm = some ir33 := by kernel_rfl
theorem ir33_calls {v0 v1 : Value} {w : World} {R : Ending → World → Prop} (h : ∀ ρ : Env, ρ 0 = v0 → ρ 1 = v1 → ir33.wp ⟨Tryd.prog, 106, ir33_V, []⟩ (retK [.cellN 4 3, .tmp 5] R) (ksOf [.cellN 4 3, .tmp 5] R) ρ w) :
    Calls Tryd.prog 33 #[v0, v1] w R := by
  obtain ⟨ir0, h1, h2⟩ := Option.map_eq_some_iff.1 ir33_ok
  exact calls_ir (args := #[v0, v1]) Tryd.func33 (c := Tryd.f33.body.getD .skip) rfl h1 h2 (by kernel_rfl) (show rvsOf Tryd.prog ir33_V Tryd.f33.results.toList = some [.cellN 4 3, .tmp 5] by kernel_rfl) (Nat.le_of_ble_eq_true rfl) (h _ rfl rfl)

/-! ### 23: argus/argusref16.Write  params #[26] results #[24, 29]  slots [(0, i), (1, i), (4, e), (5, out), (6, k), (7, n)] -/
noncomputable def ir23_k0 : IR :=
  .reg [.asg none 6 (.op2 (.ibin .add .i64) (.var 6) (.const (.int .i64 1)))]
noncomputable def ir23_k1 : IR :=
  .seq (.block 1 (.reg [.asg none 25 (.var 5),
      .asg none 32 (.op1 (.conv .u8) (.op1 .lenT (.op1 .load1 (.op2 (.ixa 1) (.op1 .load1 (.op1 (.fadr 0) (.var 1))) (.var 6))))),
      .eff none (some 33) (.buildSlice 24 1 #[(0, (.tmp 32))]) 24,
      .eff none (some 34) (.call { callee := .builtin .append, args := #[(.tmp 25), (.tmp 33)], argTypes := #[24, 24] }) 24,
      .asg none 5 (.var 34),
      .asg none 35 (.var 5),
      .asg none 40 (.op1 .load1 (.op2 (.ixa 1) (.op1 .load1 (.op1 (.fadr 0) (.var 1))) (.var 6))),
      .eff none (some 41) (.convert 9 24 (.tmp 40)) 24,
      .eff none (some 42) (.call { callee := .builtin .append, args := #[(.tmp 35), (.tmp 41)], argTypes := #[24, 24] }) 24,
      .asg none 5 (.var 42),
      .asg none 7 (.op1 .load1 (.op2 (.ixa 1) (.op1 .load1 (.op1 (.fadr 1) (.var 1))) (.var 6))),
      .asg none 48 (.var 5),
      .asg none 51 (.op1 (.conv .u8) (.op2 (.shf .shr) (.var 7) (.const (.int .u64 24)))),
      .asg none 54 (.op1 (.conv .u8) (.op2 (.shf .shr) (.var 7) (.const (.int .u64 16)))),
      .asg none 57 (.op1 (.conv .u8) (.op2 (.shf .shr) (.var 7) (.const (.int .u64 8)))),
      .asg none 59 (.op1 (.conv .u8) (.var 7)),
      .eff none (some 60) (.buildSlice 24 4 #[(0, (.tmp 51)), (1, (.tmp 54)), (2, (.tmp 57)), (3, (.tmp 59))]) 24,
      .eff none (some 61) (.call { callee := .builtin .append, args := #[(.tmp 48), (.tmp 60)], argTypes := #[24, 24] }) 24,
      .asg none 5 (.var 61)]))
  (ir23_k0)
noncomputable def ir23_l2 : IR :=
  .seq (.reg [.asg none 22 (.op2 (.ibin .lss .i64) (.var 6) (.op1 .lenS (.op1 .load1 (.op1 (.fadr 0) (.var 1)))))]) <|
  .seq (.cond (.var 22)
    (.skip)
    (.exit 0))
  (ir23_k1)
noncomputable def ir23_k3 : IR :=
  .seq (.reg [.asg none 62 (.var 5),
     .asg none 64 (.op1 .load1 (.op1 (.fadr 2) (.var 1))),
     .eff none (some 65) (.call { callee := .builtin .append, args := #[(.tmp 62), (.tmp 64)], argTypes := #[24, 24] }) 24,
     .asg none 2 (.var 65),
     .asg none 3 (.const (.int .i64 0))]) <|
  .ret
noncomputable def ir23_k4 : IR :=
  .seq (.reg [.asg none 16 (.op1 (.conv .u8) (.op1 .lenS (.op1 .load1 (.op1 (.fadr 0) (.var 1))))),
     .eff none (some 17) (.buildSlice 24 1 #[(0, (.tmp 16))]) 24,
     .asg none 5 (.var 17),
     .asg none 6 (.const (.int .i64 0))]) <|
  .seq (.block 0 (.loop ir23_l2))
  (ir23_k3)
noncomputable def ir23 : IR :=
  .seq (.reg [.eff none (some 1) (.box 26 (.tmp 0)) 0,
     .asg none 2 (.const (.slice none 0 0)),
     .asg none 3 (.const (.int .i64 0)),
     .asg none 8 (.op1 (.loadN 3) (.var 1)),
     .eff none (some 9) (.call { callee := .value (.func 20), args := #[(.tmp 8)], argTypes := #[26] }) 29,
     .asg none 4 (.var 9),
     .asg none 11 (.op2 (.ibin .neq .i64) (.var 4) (.const (.int .i64 0)))]) <|
  .seq (.cond (.var 11)
    (.seq (.reg [.asg none 12 (.var 4),
        .asg none 2 (.const (.slice none 0 0)),
        .asg none 3 (.var 12)]) <|
     .ret)
    (.skip))
  (ir23_k4)
def ir23_V : List Nat := [0, 1, 2, 3, 4, 5, 6, 7, 8, 9, 11, 12, 16, 17, 22, 25, 32, 33, 34, 35, 40, 41, 42, 48, 51, 54, 57, 59, 60, 61, 62, 64, 65]
theorem ir23_ok : (comp Tryd.prog Tryd.f23.ntmps ir23_V [] (Tryd.f23.body.getD .skip)).map IR.norm = some ir23 := by kernel_rfl
theorem ir23_calls {v0 : Value} {w : World} {R : Ending → World → Prop} (h : ∀ ρ : Env, ρ 0 = v0 → ir23.wp ⟨Tryd.prog, 66, ir23_V, []⟩ (retK [.tmp 2, .tmp 3] R) (ksOf [.tmp 2, .tmp 3] R) ρ w) :
    Calls Tryd.prog 23 #[v0] w R := by
  obtain ⟨ir0, h1, h2⟩ := Option.map_eq_some_iff.1 ir23_ok
  exact calls_ir (args := #[v0]) Tryd.func23 (c := Tryd.f23.body.getD .skip) rfl h1 h2 (by kernel_rfl) (show rvsOf Tryd.prog ir23_V Tryd.f23.results.toList = some [.tmp 2, .tmp 3] by kernel_rfl) (Nat.le_of_ble_eq_true rfl) (h _ rfl)

/-! ### 25: argus/argusref16.Read  params #[24] results #[26, 29]  slots [(0, b), (4, out), (5, n), (6, at), (7, k), (8, size)] -/
noncomputable def ir25_body : Code := (Tryd.f25.body).getD .skip
noncomputable def ir25_k0 : IR :=
  .reg [.asg none 6 (.op2 (.ibin .add .i64) (.var 6) (.const (.int .i64 4)))]
noncomputable def ir25_k1 : IR :=
  .seq (.reg [.asg none 6 (.op2 (.ibin .add .i64) (.op2 (.ibin .add .i64) (.var 6) (.const (.int .i64 1))) (.var 8))]) <|
  .seq (.raw (rawReg ir25_body 14))
  (ir25_k0)
noncomputable def ir25_k2 : IR :=
  .seq (.reg [.asg none 8 (.op1 (.conv .i64) (.op1 .load1 (.op2 (.ixa 1) (.var 0) (.var 6))))]) <|
  .seq (.raw (rawReg ir25_body 12))
  (ir25_k1)
noncomputable def ir25_k3 : IR :=
  .reg [.asg none 7 (.op2 (.ibin .add .i64) (.var 7) (.const (.int .i64 1)))]
noncomputable def ir25_k4 : IR :=
  .seq (.block 1 (.seq (.reg [.asg none 39 (.ite (.op2 (.ibin .geq .i64) (.var 6) (.op1 .lenS (.var 0))) (.const (.bool true)) (.op2 (.ibin .gtr .i64) (.op2 (.ibin .add .i64) (.op2 (.ibin .add .i64) (.op2 (.ibin .add .i64) (.var 6) (.const (.int .i64 1))) (.op1 (.conv .i64) (.op1 .load1 (.op2 (.ixa 1) (.var 0) (.var 6))))) (.const (.int .i64 4))) (.op1 .lenS (.var 0))))]) <|
    .seq (.cond (.var 39)
      (.seq (.reg [.eff none (some 40) (.build 26 #[]) 26,
          .eff none none (.store 26 (.tmp 2) (.tmp 40)) 0,
          .asg none 3 (.const (.int .i64 4))]) <|
       .ret)
      (.skip))
    (ir25_k2)))
  (ir25_k3)
noncomputable def ir25_l5 : IR :=
  .seq (.reg [.asg none 19 (.op2 (.ibin .lss .i64) (.var 7) (.var 5))]) <|
  .seq (.cond (.var 19)
    (.skip)
    (.exit 0))
  (ir25_k4)
noncomputable def ir25_k6 : IR :=
  .seq (.reg [.asg none 111 (.op1 (.loadN 3) (.var 4)),
     .eff none none (.store 26 (.tmp 2) (.tmp 111)) 0,
     .asg none 3 (.const (.int .i64 0))]) <|
  .ret
noncomputable def ir25_k7 : IR :=
  .seq (.reg [.asg none 107 (.op1 (.loadN 3) (.var 4)),
     .eff none (some 108) (.call { callee := .value (.func 20), args := #[(.tmp 107)], argTypes := #[26] }) 29,
     .asg none 109 (.op2 (.ibin .neq .i64) (.var 108) (.const (.int .i64 0)))]) <|
  .seq (.cond (.var 109)
    (.seq (.reg [.eff none (some 110) (.build 26 #[]) 26,
        .eff none none (.store 26 (.tmp 2) (.tmp 110)) 0,
        .asg none 3 (.const (.int .i64 4))]) <|
     .ret)
    (.skip))
  (ir25_k6)
noncomputable def ir25_k8 : IR :=
  .seq (.raw (rawReg ir25_body 16))
  (ir25_k7)
noncomputable def ir25_k9 : IR :=
  .seq (.reg [.eff none (some 4) (.alloc 26) 0,
     .asg none 5 (.op1 (.conv .i64) (.op1 .load1 (.op2 (.ixa 1) (.var 0) (.const (.int .i64 0))))),
     .asg none 6 (.const (.int .i64 1)),
     .asg none 7 (.const (.int .i64 0))]) <|
  .seq (.block 0 (.loop ir25_l5))
  (ir25_k8)
noncomputable def ir25 : IR :=
  .seq (.reg [.eff none (some 2) (.alloc 26) 0,
     .asg none 3 (.const (.int .i64 0)),
     .asg none 11 (.op2 (.ibin .eql .i64) (.op1 .lenS (.var 0)) (.const (.int .i64 0)))]) <|
  .seq (.cond (.var 11)
    (.seq (.reg [.eff none (some 12) (.build 26 #[]) 26,
        .eff none none (.store 26 (.tmp 2) (.tmp 12)) 0,
        .asg none 3 (.const (.int .i64 4))]) <|
     .ret)
    (.skip))
  (ir25_k9)
def ir25_V : List Nat := [0, 2, 3, 4, 5, 6, 7, 8, 11, 12, 19, 39, 40, 46, 47, 48, 49, 50, 51, 52, 53, 54, 55, 56, 57, 58, 59, 64, 65, 66, 67, 68, 69, 70, 71, 72, 73, 74, 75, 76, 77, 78, 79, 80, 81, 82, 83, 84, 85, 86, 87, 88, 89, 90, 91, 92, 93, 94, 95, 96, 97, 100, 101, 102, 103, 104, 105, 106, 107, 108, 109, 110, 111]
theorem ir25_ok : (comp Tryd.prog Tryd.f25.ntmps ir25_V [16, 14, 12] (Tryd.f25.body.getD .skip)).map IR.norm = some ir25 := by kernel_rfl
theorem ir25_calls {v0 : Value} {w : World} {R : Ending → World → Prop} (h : ∀ ρ : Env, ρ 0 = v0 → ir25.wp ⟨Tryd.prog, 112, ir25_V, []⟩ (retK [.cellN 2 3, .tmp 3] R) (ksOf [.cellN 2 3, .tmp 3] R) ρ w) :
    Calls Tryd.prog 25 #[v0] w R := by
  obtain ⟨ir0, h1, h2⟩ := Option.map_eq_some_iff.1 ir25_ok
  exact calls_ir (args := #[v0]) Tryd.func25 (c := Tryd.f25.body.getD .skip) rfl h1 h2 (by kernel_rfl) (show rvsOf Tryd.prog ir25_V Tryd.f25.results.toList = some [.cellN 2 3, .tmp 3] by kernel_rfl) (Nat.le_of_ble_eq_true rfl) (h _ rfl)

/-! ### 39: argus/argusref16.Without  params #[42, 22] results #[42, 29]  slots [(0, l), (1, roots), (6, _), (7, e), (8, all), (9, out), (10, i)] -/
noncomputable def ir39_k0 : IR :=
  .reg [.asg none 10 (.op2 (.ibin .add .i64) (.var 10) (.const (.int .i64 1)))]
noncomputable def ir39_k1 : IR :=
  .seq (.block 1 (.seq (.reg [.asg none 29 (.var 8),
       .asg none 34 (.op1 .load1 (.op1 (.fadr 0) (.op2 (.ixa 3) (.var 0) (.var 10)))),
       .eff none (some 35) (.call { callee := .value (.func 51), args := #[(.tmp 29), (.tmp 34)], argTypes := #[22, 9] }) 3,
       .asg none 36 (.op2 (.ibin .geq .i64) (.var 35) (.const (.int .i64 0)))]) <|
    .cond (.var 36)
     (.reg [.asg none 37 (.var 9),
        .asg none 41 (.op1 (.loadN 3) (.op2 (.ixa 3) (.var 0) (.var 10))),
        .eff none (some 42) (.buildSlice 42 1 #[(0, (.tmp 41))]) 42,
        .eff none (some 43) (.call { callee := .builtin .append, args := #[(.tmp 37), (.tmp 42)], argTypes := #[42, 42] }) 42,
        .asg none 9 (.var 43)])
     (.skip)))
  (ir39_k0)
noncomputable def ir39_l2 : IR :=
  .seq (.reg [.asg none 26 (.op2 (.ibin .lss .i64) (.var 10) (.op1 .lenS (.var 0)))]) <|
  .seq (.cond (.var 26)
    (.skip)
    (.exit 0))
  (ir39_k1)
noncomputable def ir39_k3 : IR :=
  .seq (.reg [.asg none 4 (.var 9),
     .asg none 5 (.const (.int .i64 0))]) <|
  .ret
noncomputable def ir39_k4 : IR :=
  .seq (.reg [.asg none 20 (.var 0),
     .asg none 21 (.var 1),
     .eff none (some 22) (.call { callee := .value (.func 65), args := #[(.tmp 20), (.tmp 21)], argTypes := #[42, 22] }) 22,
     .asg none 8 (.var 22),
     .asg none 9 (.const (.slice none 0 0)),
     .asg none 10 (.const (.int .i64 0))]) <|
  .seq (.block 0 (.loop ir39_l2))
  (ir39_k3)
noncomputable def ir39 : IR :=
  .seq (.reg [.asg none 4 (.const (.slice none 0 0)),
     .asg none 5 (.const (.int .i64 0)),
     .asg none 12 (.var 0),
     .asg none 13 (.var 1),
     .eff none (some 14) (.call { callee := .value (.func 33), args := #[(.tmp 12), (.tmp 13)], argTypes := #[42, 22] }) 38,
     .asg none 11 (.var 14),
     .asg none 15 (.op1 (.ext 0) (.var 11)),
     .asg none 16 (.op1 (.ext 1) (.var 11)),
     .eff none (some 6) (.alloc 26) 0,
     .eff none none (.store 26 (.tmp 6) (.tmp 15)) 0,
     .asg none 7 (.var 16),
     .asg none 18 (.op2 (.ibin .neq .i64) (.var 7) (.const (.int .i64 0)))]) <|
  .seq (.cond (.var 18)
    (.seq (.reg [.asg none 19 (.var 7),
        .asg none 4 (.const (.slice none 0 0)),
        .asg none 5 (.var 19)]) <|
     .ret)
    (.skip))
  (ir39_k4)
def ir39_V : List Nat := [0, 1, 4, 5, 6, 7, 8, 9, 10, 11, 12, 13, 14, 15, 16, 18, 19, 20, 21, 22, 26, 29, 34, 35, 36, 37, 41, 42, 43]
theorem ir39_ok : (comp Tryd.prog Tryd.f39.ntmps ir39_V [] (Tryd.f39.body.getD .skip)).map IR.norm = some ir39 := by kernel_rfl
theorem ir39_calls {v0 v1 : Value} {w : World} {R : Ending → World → Prop} (h : ∀ ρ : Env, ρ 0 = v0 → ρ 1 = v1 → ir39.wp ⟨Tryd.prog, 45, ir39_V, []⟩ (retK [.tmp 4, .tmp 5] R) (ksOf [.tmp 4, .tmp 5] R) ρ w) :
    Calls Tryd.prog 39 #[v0, v1] w R := by
  obtain ⟨ir0, h1, h2⟩ := Option.map_eq_some_iff.1 ir39_ok
  exact calls_ir (args := #[v0, v1]) Tryd.func39 (c := Tryd.f39.body.getD .skip) rfl h1 h2 (by kernel_rfl) (show rvsOf Tryd.prog ir39_V Tryd.f39.results.toList = some [.tmp 4, .tmp 5] by kernel_rfl) (Nat.le_of_ble_eq_true rfl) (h _ rfl rfl)

/-! ### 48: argus/argusref16.CheckLink  params #[42, 22, 26] results #[4, 29]  slots [(0, l), (1, roots), (2, i), (5, i), (8, e), (9, own), (10, f)] -/
noncomputable def ir48_k0 : IR :=
  .seq (.reg [.asg none 18 (.var 0),
     .asg none 19 (.var 1),
     .eff none (some 20) (.call { callee := .value (.func 33), args := #[(.tmp 18), (.tmp 19)], argTypes := #[42, 22] }) 38,
     .asg none 17 (.var 20),
     .asg none 21 (.op1 (.ext 0) (.var 17)),
     .asg none 22 (.op1 (.ext 1) (.var 17)),
     .eff none (some 9) (.alloc 26) 0,
     .eff none none (.store 26 (.tmp 9) (.tmp 21)) 0,
     .asg none 10 (.var 22),
     .asg none 25 (.op2 (.ibin .eql .i64) (.var 10) (.const (.int .i64 0))),
     .asg (some (25, true)) 26 (.op1 (.loadN 3) (.var 9)),
     .asg (some (25, true)) 27 (.op1 (.loadN 3) (.var 5)),
     .eff (some (25, true)) (some 28) (.call { callee := .value (.func 26), args := #[(.tmp 26), (.tmp 27)], argTypes := #[26, 26] }) 4,
     .asg none 6 (.ite (.var 25) (.var 28) (.const (.bool false))),
     .asg none 7 (.const (.int .i64 0))]) <|
  .ret
noncomputable def ir48 : IR :=
  .seq (.reg [.eff none (some 5) (.box 26 (.tmp 2)) 0,
     .asg none 6 (.const (.bool false)),
     .asg none 7 (.const (.int .i64 0)),
     .asg none 11 (.var 0),
     .asg none 12 (.var 1),
     .eff none (some 13) (.call { callee := .value (.func 69), args := #[(.tmp 11), (.tmp 12)], argTypes := #[42, 22] }) 29,
     .asg none 8 (.var 13),
     .asg none 15 (.op2 (.ibin .neq .i64) (.var 8) (.const (.int .i64 0)))]) <|
  .seq (.cond (.var 15)
    (.seq (.reg [.asg none 16 (.var 8),
        .asg none 6 (.const (.bool false)),
        .asg none 7 (.var 16)]) <|
     .ret)
    (.skip))
  (ir48_k0)
def ir48_V : List Nat := [0, 1, 2, 5, 6, 7, 8, 9, 10, 11, 12, 13, 15, 16, 17, 18, 19, 20, 21, 22, 25, 26, 27, 28]
theorem ir48_ok : (comp Tryd.prog Tryd.f48.ntmps ir48_V [] (Tryd.f48.body.getD .skip)).map IR.norm = some ir48 := by kernel_rfl
theorem ir48_calls {v0 v1 v2 : Value} {w : World} {R : Ending → World → Prop} (h : ∀ ρ : Env, ρ 0 = v0 → ρ 1 = v1 → ρ 2 = v2 → ir48.wp ⟨Tryd.prog, 30, ir48_V, []⟩ (retK [.tmp 6, .tmp 7] R) (ksOf [.tmp 6, .tmp 7] R) ρ w) :
    Calls Tryd.prog 48 #[v0, v1, v2] w R := by
  obtain ⟨ir0, h1, h2⟩ := Option.map_eq_some_iff.1 ir48_ok
  exact calls_ir (args := #[v0, v1, v2]) Tryd.func48 (c := Tryd.f48.body.getD .skip) rfl h1 h2 (by kernel_rfl) (show rvsOf Tryd.prog ir48_V Tryd.f48.results.toList = some [.tmp 6, .tmp 7] by kernel_rfl) (Nat.le_of_ble_eq_true rfl) (h _ rfl rfl rfl)

end Go.Proofs
