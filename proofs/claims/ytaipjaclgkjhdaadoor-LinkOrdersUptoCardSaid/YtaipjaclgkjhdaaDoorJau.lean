/- Texts of mine for the claims about layer 16 (link), joined: L16Ic. -/
import Derived.Test.YtaipjaclgkjhdaaDoorJaf
import Derived.Test.YtaipjaclgkjhdaaDoorProg
import Derived.KernelRfl
set_option linter.all false
set_option linter.unusedSimpArgs false
set_option linter.unusedVariables false
/- Readings of functions, by program. -/
namespace Go.Proofs
open Go Go.Eng
set_option maxRecDepth 100000
/-! ### 3: argus/arguslaw16.LinkImages  params #[26, 3, 9] results #[4]  slots [(0, i), (1, n), (2, name), (3, i), (7, a), (8, is), (9, e), (10, b), (11, was), (12, f), (13, c), (14, g), (15, d), (16, h)] -/
noncomputable def ir3_k0 : IR :=
  .ret
noncomputable def ir3_k1 : IR :=
  .seq (.reg [.asg none 27 (.op1 (.loadN 3) (.var 3)),
     .asg none 28 (.var 2),
     .eff none (some 29) (.call { callee := .value (.func 15), args := #[(.tmp 27), (.tmp 28)], argTypes := #[26, 9] }) 30,
     .asg none 26 (.var 29),
     .asg none 30 (.op1 (.ext 0) (.var 26)),
     .asg none 31 (.op1 (.ext 1) (.var 26)),
     .asg none 32 (.op1 (.ext 2) (.var 26)),
     .asg none 7 (.var 30),
     .asg none 8 (.var 31),
     .asg none 9 (.var 32),
     .asg none 34 (.op1 (.loadN 3) (.var 3)),
     .asg none 35 (.var 2),
     .eff none (some 36) (.call { callee := .value (.func 16), args := #[(.tmp 34), (.tmp 35)], argTypes := #[26, 9] }) 30,
     .asg none 33 (.var 36),
     .asg none 37 (.op1 (.ext 0) (.var 33)),
     .asg none 38 (.op1 (.ext 1) (.var 33)),
     .asg none 39 (.op1 (.ext 2) (.var 33)),
     .asg none 10 (.var 37),
     .asg none 11 (.var 38),
     .asg none 12 (.var 39),
     .asg none 41 (.op1 (.loadN 3) (.var 3)),
     .asg none 42 (.var 1),
     .eff none (some 43) (.call { callee := .value (.func 17), args := #[(.tmp 41), (.tmp 42)], argTypes := #[26, 3] }) 32,
     .asg none 40 (.var 43),
     .asg none 44 (.op1 (.ext 0) (.var 40)),
     .asg none 45 (.op1 (.ext 1) (.var 40)),
     .asg none 13 (.var 44),
     .asg none 14 (.var 45),
     .asg none 47 (.op1 (.loadN 3) (.var 3)),
     .asg none 48 (.var 1),
     .eff none (some 49) (.call { callee := .value (.func 18), args := #[(.tmp 47), (.tmp 48)], argTypes := #[26, 3] }) 32,
     .asg none 46 (.var 49),
     .asg none 50 (.op1 (.ext 0) (.var 46)),
     .asg none 51 (.op1 (.ext 1) (.var 46)),
     .asg none 15 (.var 50),
     .asg none 16 (.var 51)]) <|
  .seq (.drw [.eff none (some 52) (.call { callee := .value (.func 14), args := #[], argTypes := #[] }) 4,
     .asg none 53 (.var 52),
     .asg (some (53, true)) 54 (.op1 (.loadN 3) (.var 3)),
     .eff (some (53, true)) (some 55) (.call { callee := .value (.func 19), args := #[(.tmp 54)], argTypes := #[26] }) 29,
     .asg (some (53, true)) 56 (.op1 (.loadN 3) (.var 3)),
     .eff (some (53, true)) (some 57) (.call { callee := .value (.func 20), args := #[(.tmp 56)], argTypes := #[26] }) 29,
     .asg none 75 (.ite (.ite (.ite (.ite (.var 53) (.op2 (.ibin .eql .i64) (.var 55) (.var 57)) (.const (.bool false))) (.op2 (.ibin .eql .i64) (.var 7) (.var 10)) (.const (.bool false))) (.op2 (.bbin .eql) (.var 8) (.var 11)) (.const (.bool false))) (.op2 (.ibin .eql .i64) (.var 9) (.var 12)) (.const (.bool false))),
     .asg (some (75, true)) 76 (.var 13),
     .asg (some (75, true)) 77 (.var 15),
     .eff (some (75, true)) (some 78) (.call { callee := .value (.func 21), args := #[(.tmp 76), (.tmp 77)], argTypes := #[24, 24] }) 4,
     .asg none 6 (.ite (.ite (.var 75) (.var 78) (.const (.bool false))) (.op2 (.ibin .eql .i64) (.var 14) (.var 16)) (.const (.bool false)))])
  (ir3_k0)
noncomputable def ir3 : IR :=
  .seq (.reg [.eff none (some 3) (.box 26 (.tmp 0)) 0,
     .asg none 6 (.const (.bool false)),
     .asg none 17 (.op1 (.loadN 3) (.var 3)),
     .eff none (some 18) (.call { callee := .value (.func 13), args := #[(.tmp 17)], argTypes := #[26] }) 4,
     .asg none 24 (.ite (.op1 .not (.var 18)) (.const (.bool true)) (.op2 (.ibin .gtr .i64) (.op1 .lenT (.var 2)) (.const (.int .i64 130))))]) <|
  .seq (.cond (.var 24)
    (.seq (.reg [.eff none (some 25) (.call { callee := .value (.func 14), args := #[], argTypes := #[] }) 4,
        .asg none 6 (.var 25)]) <|
     .ret)
    (.skip))
  (ir3_k1)
def ir3_V : List Nat := [0, 1, 2, 3, 6, 7, 8, 9, 10, 11, 12, 13, 14, 15, 16, 17, 18, 24, 25, 26, 27, 28, 29, 30, 31, 32, 33, 34, 35, 36, 37, 38, 39, 40, 41, 42, 43, 44, 45, 46, 47, 48, 49, 50, 51, 52, 53, 54, 55, 56, 57, 75, 76, 77, 78]
theorem ir3_ok : (comp Tryd.prog Tryd.f3.ntmps ir3_V [] (Tryd.f3.body.getD .skip)).map IR.norm = some ir3 := by kernel_rfl
theorem ir3_calls {v0 v1 v2 : Value} {w : World} {R : Ending → World → Prop} (h : ∀ ρ : Env, ρ 0 = v0 → ρ 1 = v1 → ρ 2 = v2 → ir3.wp ⟨Tryd.prog, 85, ir3_V, []⟩ (retK [.tmp 6] R) (ksOf [.tmp 6] R) ρ w) :
    Calls Tryd.prog 3 #[v0, v1, v2] w R := by
  obtain ⟨ir0, h1, h2⟩ := Option.map_eq_some_iff.1 ir3_ok
  exact calls_ir (args := #[v0, v1, v2]) Tryd.func3 (c := Tryd.f3.body.getD .skip) rfl h1 h2 (by kernel_rfl) (show rvsOf Tryd.prog ir3_V Tryd.f3.results.toList = some [.tmp 6] by kernel_rfl) (Nat.le_of_ble_eq_true rfl) (h _ rfl rfl rfl)

/-! ### 4: argus/arguslaw16.LinkBytes  params #[26, 24] results #[4]  slots [(0, i), (1, b), (2, i), (5, x), (6, e), (7, y), (8, f), (9, p), (10, g), (11, q), (12, h), (13, back), (14, j), (15, back), (16, j)] -/
noncomputable def ir4_k0 : IR :=
  .seq (.reg [.eff none (some 96) (.call { callee := .value (.func 14), args := #[], argTypes := #[] }) 4,
     .asg none 4 (.var 96)]) <|
  .ret
noncomputable def ir4_k1 : IR :=
  .seq (.reg [.asg none 82 (.op2 (.ibin .eql .i64) (.var 10) (.const (.int .i64 0)))]) <|
  .seq (.cond (.var 82)
    (.seq (.reg [.asg none 84 (.op1 (.loadN 3) (.var 9)),
        .eff none (some 85) (.call { callee := .value (.func 22), args := #[(.tmp 84)], argTypes := #[26] }) 32,
        .asg none 83 (.var 85),
        .asg none 86 (.op1 (.ext 0) (.var 83)),
        .asg none 87 (.op1 (.ext 1) (.var 83)),
        .asg none 15 (.var 86),
        .asg none 16 (.var 87),
        .asg none 90 (.op2 (.ibin .neq .i64) (.var 16) (.const (.int .i64 0))),
        .asg (some (90, false)) 91 (.var 15),
        .asg (some (90, false)) 92 (.var 1),
        .eff (some (90, false)) (some 93) (.call { callee := .value (.func 21), args := #[(.tmp 91), (.tmp 92)], argTypes := #[24, 24] }) 4,
        .asg none 95 (.ite (.var 90) (.const (.bool true)) (.op1 .not (.var 93)))]) <|
     .cond (.var 95)
      (.seq (.reg [.asg none 4 (.const (.bool false))]) <|
       .ret)
      (.skip))
    (.skip))
  (ir4_k0)
noncomputable def ir4_k2 : IR :=
  .seq (.reg [.asg none 67 (.op2 (.ibin .eql .i64) (.var 6) (.const (.int .i64 0)))]) <|
  .seq (.cond (.var 67)
    (.seq (.reg [.asg none 69 (.var 5),
        .eff none (some 70) (.call { callee := .value (.func 24), args := #[(.tmp 69)], argTypes := #[24] }) 38,
        .asg none 68 (.var 70),
        .asg none 71 (.op1 (.ext 0) (.var 68)),
        .asg none 72 (.op1 (.ext 1) (.var 68)),
        .eff none (some 13) (.alloc 26) 0,
        .eff none none (.store 26 (.tmp 13) (.tmp 71)) 0,
        .asg none 14 (.var 72),
        .asg none 75 (.op2 (.ibin .neq .i64) (.var 14) (.const (.int .i64 0))),
        .asg (some (75, false)) 76 (.op1 (.loadN 3) (.var 13)),
        .asg (some (75, false)) 77 (.op1 (.loadN 3) (.var 2)),
        .eff (some (75, false)) (some 78) (.call { callee := .value (.func 26), args := #[(.tmp 76), (.tmp 77)], argTypes := #[26, 26] }) 4,
        .asg none 80 (.ite (.var 75) (.const (.bool true)) (.op1 .not (.var 78)))]) <|
     .cond (.var 80)
      (.seq (.reg [.asg none 4 (.const (.bool false))]) <|
       .ret)
      (.skip))
    (.skip))
  (ir4_k1)
noncomputable def ir4_k3 : IR :=
  .seq (.reg [.asg none 27 (.op1 (.loadN 3) (.var 2)),
     .eff none (some 28) (.call { callee := .value (.func 22), args := #[(.tmp 27)], argTypes := #[26] }) 32,
     .asg none 26 (.var 28),
     .asg none 29 (.op1 (.ext 0) (.var 26)),
     .asg none 30 (.op1 (.ext 1) (.var 26)),
     .asg none 5 (.var 29),
     .asg none 6 (.var 30),
     .asg none 32 (.op1 (.loadN 3) (.var 2)),
     .eff none (some 33) (.call { callee := .value (.func 23), args := #[(.tmp 32)], argTypes := #[26] }) 32,
     .asg none 31 (.var 33),
     .asg none 34 (.op1 (.ext 0) (.var 31)),
     .asg none 35 (.op1 (.ext 1) (.var 31)),
     .asg none 7 (.var 34),
     .asg none 8 (.var 35),
     .asg none 37 (.var 1),
     .eff none (some 38) (.call { callee := .value (.func 24), args := #[(.tmp 37)], argTypes := #[24] }) 38,
     .asg none 36 (.var 38),
     .asg none 39 (.op1 (.ext 0) (.var 36)),
     .asg none 40 (.op1 (.ext 1) (.var 36)),
     .eff none (some 9) (.alloc 26) 0,
     .eff none none (.store 26 (.tmp 9) (.tmp 39)) 0,
     .asg none 10 (.var 40),
     .asg none 42 (.var 1),
     .eff none (some 43) (.call { callee := .value (.func 25), args := #[(.tmp 42)], argTypes := #[24] }) 38,
     .asg none 41 (.var 43),
     .asg none 44 (.op1 (.ext 0) (.var 41)),
     .asg none 45 (.op1 (.ext 1) (.var 41)),
     .eff none (some 11) (.alloc 26) 0,
     .eff none none (.store 26 (.tmp 11) (.tmp 44)) 0,
     .asg none 12 (.var 45),
     .asg none 46 (.var 5),
     .asg none 47 (.var 7),
     .eff none (some 48) (.call { callee := .value (.func 21), args := #[(.tmp 46), (.tmp 47)], argTypes := #[24, 24] }) 4,
     .asg none 55 (.ite (.op1 .not (.var 48)) (.const (.bool true)) (.op2 (.ibin .neq .i64) (.var 6) (.var 8))),
     .asg (some (55, false)) 56 (.op1 (.loadN 3) (.var 9)),
     .asg (some (55, false)) 57 (.op1 (.loadN 3) (.var 11)),
     .eff (some (55, false)) (some 58) (.call { callee := .value (.func 26), args := #[(.tmp 56), (.tmp 57)], argTypes := #[26, 26] }) 4,
     .asg none 65 (.ite (.ite (.var 55) (.const (.bool true)) (.op1 .not (.var 58))) (.const (.bool true)) (.op2 (.ibin .neq .i64) (.var 10) (.var 12)))]) <|
  .seq (.cond (.var 65)
    (.seq (.reg [.asg none 4 (.const (.bool false))]) <|
     .ret)
    (.skip))
  (ir4_k2)
noncomputable def ir4 : IR :=
  .seq (.reg [.eff none (some 2) (.box 26 (.tmp 0)) 0,
     .asg none 4 (.const (.bool false)),
     .asg none 17 (.op1 (.loadN 3) (.var 2)),
     .eff none (some 18) (.call { callee := .value (.func 13), args := #[(.tmp 17)], argTypes := #[26] }) 4,
     .asg none 24 (.ite (.op1 .not (.var 18)) (.const (.bool true)) (.op2 (.ibin .gtr .i64) (.op1 .lenS (.var 1)) (.const (.int .i64 1500))))]) <|
  .seq (.cond (.var 24)
    (.seq (.reg [.eff none (some 25) (.call { callee := .value (.func 14), args := #[], argTypes := #[] }) 4,
        .asg none 4 (.var 25)]) <|
     .ret)
    (.skip))
  (ir4_k3)
def ir4_V : List Nat := [0, 1, 2, 4, 5, 6, 7, 8, 9, 10, 11, 12, 13, 14, 15, 16, 17, 18, 24, 25, 26, 27, 28, 29, 30, 31, 32, 33, 34, 35, 36, 37, 38, 39, 40, 41, 42, 43, 44, 45, 46, 47, 48, 55, 56, 57, 58, 65, 67, 68, 69, 70, 71, 72, 75, 76, 77, 78, 80, 82, 83, 84, 85, 86, 87, 90, 91, 92, 93, 95, 96]
theorem ir4_ok : (comp Tryd.prog Tryd.f4.ntmps ir4_V [] (Tryd.f4.body.getD .skip)).map IR.norm = some ir4 := by kernel_rfl
theorem ir4_calls {v0 v1 : Value} {w : World} {R : Ending → World → Prop} (h : ∀ ρ : Env, ρ 0 = v0 → ρ 1 = v1 → ir4.wp ⟨Tryd.prog, 97, ir4_V, []⟩ (retK [.tmp 4] R) (ksOf [.tmp 4] R) ρ w) :
    Calls Tryd.prog 4 #[v0, v1] w R := by
  obtain ⟨ir0, h1, h2⟩ := Option.map_eq_some_iff.1 ir4_ok
  exact calls_ir (args := #[v0, v1]) Tryd.func4 (c := Tryd.f4.body.getD .skip) rfl h1 h2 (by kernel_rfl) (show rvsOf Tryd.prog ir4_V Tryd.f4.results.toList = some [.tmp 4] by kernel_rfl) (Nat.le_of_ble_eq_true rfl) (h _ rfl rfl)

/-! ### 5: argus/arguslaw16.LinkOrders  params #[42, 22, 23, 45] results #[4]  slots [(0, l), (1, roots), (2, order), (3, more), (7, more), (9, a), (10, e), (11, back), (12, i), (13, b), (14, f), (15, wide), (16, _), (17, g), (18, c), (19, h)] -/
noncomputable def ir5_body : Code := (Tryd.f5.body).getD .skip
noncomputable def ir5_k0 : IR :=
  .reg [.asg none 12 (.op2 (.ibin .sub .i64) (.var 12) (.const (.int .i64 1)))]
noncomputable def ir5_k1 : IR :=
  .seq (.block 1 (.reg [.asg none 66 (.var 11),
      .asg none 70 (.op1 .load1 (.op2 (.ixa 1) (.var 1) (.var 12))),
      .eff none (some 71) (.buildSlice 22 1 #[(0, (.tmp 70))]) 22,
      .eff none (some 72) (.call { callee := .builtin .append, args := #[(.tmp 66), (.tmp 71)], argTypes := #[22, 22] }) 22,
      .asg none 11 (.var 72)]))
  (ir5_k0)
noncomputable def ir5_l2 : IR :=
  .seq (.reg [.asg none 63 (.op2 (.ibin .geq .i64) (.var 12) (.const (.int .i64 0)))]) <|
  .seq (.cond (.var 63)
    (.skip)
    (.exit 0))
  (ir5_k1)
noncomputable def ir5_k3 : IR :=
  .seq (.reg [.asg none 104 (.var 15),
     .asg none 105 (.var 1),
     .eff none (some 106) (.call { callee := .value (.func 29), args := #[(.tmp 104), (.tmp 105)], argTypes := #[42, 22] }) 38,
     .asg none 103 (.var 106),
     .asg none 107 (.op1 (.ext 0) (.var 103)),
     .asg none 108 (.op1 (.ext 1) (.var 103)),
     .eff none (some 18) (.alloc 26) 0,
     .eff none none (.store 26 (.tmp 18) (.tmp 107)) 0,
     .asg none 19 (.var 108),
     .eff none (some 109) (.call { callee := .value (.func 14), args := #[], argTypes := #[] }) 4,
     .asg none 114 (.ite (.var 109) (.op2 (.ibin .eql .i64) (.var 19) (.const (.int .i64 0))) (.const (.bool false))),
     .asg (some (114, true)) 115 (.op1 (.loadN 3) (.var 9)),
     .asg (some (114, true)) 116 (.op1 (.loadN 3) (.var 18)),
     .eff (some (114, true)) (some 117) (.call { callee := .value (.func 26), args := #[(.tmp 115), (.tmp 116)], argTypes := #[26, 26] }) 4,
     .asg none 8 (.ite (.var 114) (.var 117) (.const (.bool false)))]) <|
  .ret
noncomputable def ir5_k4 : IR :=
  .seq (.reg [.asg none 96 (.var 15),
     .eff none (some 97) (.call { callee := .value (.func 31), args := #[(.tmp 96)], argTypes := #[42] }) 50,
     .asg none 95 (.var 97),
     .asg none 98 (.op1 (.ext 0) (.var 95)),
     .asg none 99 (.op1 (.ext 1) (.var 95)),
     .asg none 16 (.var 98),
     .asg none 17 (.var 99),
     .asg none 101 (.op2 (.ibin .neq .i64) (.var 17) (.const (.int .i64 0)))]) <|
  .seq (.cond (.var 101)
    (.seq (.reg [.eff none (some 102) (.call { callee := .value (.func 14), args := #[], argTypes := #[] }) 4,
        .asg none 8 (.var 102)]) <|
     .ret)
    (.skip))
  (ir5_k3)
noncomputable def ir5_k5 : IR :=
  .seq (.raw (rawReg ir5_body 14))
  (ir5_k4)
noncomputable def ir5_k6 : IR :=
  .seq (.reg [.asg none 74 (.var 0),
     .asg none 75 (.var 2),
     .eff none (some 76) (.call { callee := .value (.func 30), args := #[(.tmp 74), (.tmp 75)], argTypes := #[42, 23] }) 42,
     .asg none 77 (.var 11),
     .eff none (some 78) (.call { callee := .value (.func 29), args := #[(.tmp 76), (.tmp 77)], argTypes := #[42, 22] }) 38,
     .asg none 73 (.var 78),
     .asg none 79 (.op1 (.ext 0) (.var 73)),
     .asg none 80 (.op1 (.ext 1) (.var 73)),
     .eff none (some 13) (.alloc 26) 0,
     .eff none none (.store 26 (.tmp 13) (.tmp 79)) 0,
     .asg none 14 (.var 80),
     .asg none 83 (.op2 (.ibin .neq .i64) (.var 14) (.const (.int .i64 0))),
     .asg (some (83, false)) 84 (.op1 (.loadN 3) (.var 9)),
     .asg (some (83, false)) 85 (.op1 (.loadN 3) (.var 13)),
     .eff (some (83, false)) (some 86) (.call { callee := .value (.func 26), args := #[(.tmp 84), (.tmp 85)], argTypes := #[26, 26] }) 4,
     .asg none 88 (.ite (.var 83) (.const (.bool true)) (.op1 .not (.var 86)))]) <|
  .seq (.cond (.var 88)
    (.seq (.reg [.asg none 8 (.const (.bool false))]) <|
     .ret)
    (.skip))
  (ir5_k5)
noncomputable def ir5_k7 : IR :=
  .seq (.reg [.asg none 11 (.const (.slice none 0 0)),
     .asg none 12 (.op2 (.ibin .sub .i64) (.op1 .lenS (.var 1)) (.const (.int .i64 1)))]) <|
  .seq (.block 0 (.loop ir5_l2))
  (ir5_k6)
noncomputable def ir5_k8 : IR :=
  .seq (.reg [.asg none 41 (.var 0),
     .asg none 42 (.var 1),
     .eff none (some 43) (.call { callee := .value (.func 29), args := #[(.tmp 41), (.tmp 42)], argTypes := #[42, 22] }) 38,
     .asg none 40 (.var 43),
     .asg none 44 (.op1 (.ext 0) (.var 40)),
     .asg none 45 (.op1 (.ext 1) (.var 40)),
     .eff none (some 9) (.alloc 26) 0,
     .eff none none (.store 26 (.tmp 9) (.tmp 44)) 0,
     .asg none 10 (.var 45),
     .asg none 47 (.op2 (.ibin .neq .i64) (.var 10) (.const (.int .i64 0)))]) <|
  .seq (.cond (.var 47)
    (.seq (.reg [.eff none (some 48) (.call { callee := .value (.func 14), args := #[], argTypes := #[] }) 4,
        .asg none 8 (.ite (.var 48) (.op2 (.ibin .eql .i64) (.op2 (.ibin .add .i64) (.op1 .lenS (.op1 .load1 (.op1 (.fadr 0) (.var 9)))) (.op1 .lenS (.op1 .load1 (.op1 (.fadr 2) (.var 9))))) (.const (.int .i64 0))) (.const (.bool false)))]) <|
     .ret)
    (.skip))
  (ir5_k7)
noncomputable def ir5 : IR :=
  .seq (.reg [.eff none (some 7) (.box 45 (.tmp 3)) 0,
     .asg none 8 (.const (.bool false)),
     .asg none 20 (.var 0),
     .eff none (some 21) (.call { callee := .value (.func 27), args := #[(.tmp 20)], argTypes := #[42] }) 4,
     .asg none 23 (.op1 .not (.var 21)),
     .asg (some (23, false)) 24 (.op1 (.loadN 3) (.var 7)),
     .eff (some (23, false)) (some 25) (.buildSlice 42 1 #[(0, (.tmp 24))]) 42,
     .eff (some (23, false)) (some 26) (.call { callee := .value (.func 27), args := #[(.tmp 25)], argTypes := #[42] }) 4,
     .asg none 29 (.ite (.var 23) (.const (.bool true)) (.op1 .not (.var 26))),
     .asg (some (29, false)) 30 (.var 1),
     .eff (some (29, false)) (some 31) (.call { callee := .value (.func 28), args := #[(.tmp 30)], argTypes := #[22] }) 4,
     .asg none 38 (.ite (.ite (.var 29) (.const (.bool true)) (.op1 .not (.var 31))) (.const (.bool true)) (.op2 (.ibin .gtr .i64) (.op1 .lenS (.var 2)) (.const (.int .i64 20))))]) <|
  .seq (.cond (.var 38)
    (.seq (.reg [.eff none (some 39) (.call { callee := .value (.func 14), args := #[], argTypes := #[] }) 4,
        .asg none 8 (.var 39)]) <|
     .ret)
    (.skip))
  (ir5_k8)
def ir5_V : List Nat := [0, 1, 2, 3, 7, 8, 9, 10, 11, 12, 13, 14, 15, 16, 17, 18, 19, 20, 21, 23, 24, 25, 26, 29, 30, 31, 38, 39, 40, 41, 42, 43, 44, 45, 47, 48, 63, 66, 70, 71, 72, 73, 74, 75, 76, 77, 78, 79, 80, 83, 84, 85, 86, 88, 89, 90, 91, 92, 93, 94, 95, 96, 97, 98, 99, 101, 102, 103, 104, 105, 106, 107, 108, 109, 114, 115, 116, 117]
theorem ir5_ok : (comp Tryd.prog Tryd.f5.ntmps ir5_V [14] (Tryd.f5.body.getD .skip)).map IR.norm = some ir5 := by kernel_rfl
theorem ir5_calls {v0 v1 v2 v3 : Value} {w : World} {R : Ending → World → Prop} (h : ∀ ρ : Env, ρ 0 = v0 → ρ 1 = v1 → ρ 2 = v2 → ρ 3 = v3 → ir5.wp ⟨Tryd.prog, 119, ir5_V, []⟩ (retK [.tmp 8] R) (ksOf [.tmp 8] R) ρ w) :
    Calls Tryd.prog 5 #[v0, v1, v2, v3] w R := by
  obtain ⟨ir0, h1, h2⟩ := Option.map_eq_some_iff.1 ir5_ok
  exact calls_ir (args := #[v0, v1, v2, v3]) Tryd.func5 (c := Tryd.f5.body.getD .skip) rfl h1 h2 (by kernel_rfl) (show rvsOf Tryd.prog ir5_V Tryd.f5.results.toList = some [.tmp 8] by kernel_rfl) (Nat.le_of_ble_eq_true rfl) (h _ rfl rfl rfl rfl)

/-! ### 6: argus/arguslaw16.LinkPlaces  params #[42, 22] results #[4]  slots [(0, l), (1, roots), (5, i), (6, e), (7, k), (8, n), (9, is), (10, f), (11, code), (12, g), (13, r), (14, at), (15, m), (16, there), (17, h)] -/
noncomputable def ir6_k0 : IR :=
  .reg [.asg none 135 (.op2 (.ixa 1) (.var 11) (.var 14)),
    .eff none none (.store 5 (.tmp 135) (.const (.int .u8 0))) 0,
    .asg none 139 (.op2 (.ixa 1) (.var 11) (.op2 (.ibin .add .i64) (.var 14) (.const (.int .i64 1)))),
    .eff none none (.store 5 (.tmp 139) (.const (.int .u8 0))) 0]
noncomputable def ir6_k1 : IR :=
  .seq (.cond (.var 132)
    (.seq (.reg [.asg none 4 (.const (.bool false))]) <|
     .ret)
    (.skip))
  (ir6_k0)
noncomputable def ir6_k2 : IR :=
  .seq (.drw [.asg none 132 (.ite (.ite (.op2 (.ibin .neq .i64) (.var 17) (.const (.int .i64 0))) (.const (.bool true)) (.op1 .not (.var 16))) (.const (.bool true)) (.op2 (.ibin .neq .i64) (.op2 (.ibin .add .i64) (.op2 (.ibin .mul .i64) (.const (.int .i64 256)) (.op1 (.conv .i64) (.op1 .load1 (.op2 (.ixa 1) (.var 11) (.var 14))))) (.op1 (.conv .i64) (.op1 .load1 (.op2 (.ixa 1) (.var 11) (.op2 (.ibin .add .i64) (.var 14) (.const (.int .i64 1))))))) (.var 15)))])
  (ir6_k1)
noncomputable def ir6_k3 : IR :=
  .reg [.asg none 13 (.op2 (.ibin .add .i64) (.var 13) (.const (.int .i64 1)))]
noncomputable def ir6_k4 : IR :=
  .seq (.block 3 (.seq (.reg [.asg none 14 (.op1 .load1 (.op1 (.fadr 0) (.op2 (.ixa 2) (.op1 .load1 (.op1 (.fadr 2) (.op2 (.ixa 3) (.var 0) (.var 7)))) (.var 13))))]) <|
    .seq (.drw [.asg none 96 (.op1 (.loadN 3) (.var 5)),
       .asg none 105 (.op1 .load1 (.op1 (.fadr 1) (.op2 (.ixa 2) (.op1 .load1 (.op1 (.fadr 2) (.op2 (.ixa 3) (.var 0) (.var 7)))) (.var 13)))),
       .eff none (some 106) (.call { callee := .value (.func 15), args := #[(.tmp 96), (.tmp 105)], argTypes := #[26, 9] }) 30,
       .asg none 95 (.var 106),
       .asg none 107 (.op1 (.ext 0) (.var 95)),
       .asg none 108 (.op1 (.ext 1) (.var 95)),
       .asg none 109 (.op1 (.ext 2) (.var 95)),
       .asg none 15 (.var 107),
       .asg none 16 (.var 108),
       .asg none 17 (.var 109)])
    (ir6_k2)))
  (ir6_k3)
noncomputable def ir6_l5 : IR :=
  .seq (.reg [.asg none 83 (.op2 (.ibin .lss .i64) (.var 13) (.op1 .lenS (.op1 .load1 (.op1 (.fadr 2) (.op2 (.ixa 3) (.var 0) (.var 7))))))]) <|
  .seq (.cond (.var 83)
    (.skip)
    (.exit 2))
  (ir6_k4)
noncomputable def ir6_k6 : IR :=
  .seq (.reg [.asg none 140 (.var 11),
     .asg none 145 (.op1 .load1 (.op1 (.fadr 1) (.op2 (.ixa 3) (.var 0) (.var 7)))),
     .eff none (some 146) (.call { callee := .value (.func 21), args := #[(.tmp 140), (.tmp 145)], argTypes := #[24, 24] }) 4,
     .asg none 147 (.op1 .not (.var 146))]) <|
  .cond (.var 147)
   (.seq (.reg [.asg none 4 (.const (.bool false))]) <|
    .ret)
   (.skip)
noncomputable def ir6_k7 : IR :=
  .seq (.reg [.asg none 13 (.const (.int .i64 0))]) <|
  .seq (.block 2 (.loop ir6_l5))
  (ir6_k6)
noncomputable def ir6_k8 : IR :=
  .seq (.reg [.asg none 58 (.op1 (.loadN 3) (.var 5)),
     .asg none 59 (.var 8),
     .eff none (some 60) (.call { callee := .value (.func 17), args := #[(.tmp 58), (.tmp 59)], argTypes := #[26, 3] }) 32,
     .asg none 57 (.var 60),
     .asg none 61 (.op1 (.ext 0) (.var 57)),
     .asg none 62 (.op1 (.ext 1) (.var 57)),
     .asg none 11 (.var 61),
     .asg none 12 (.var 62),
     .asg none 75 (.ite (.op2 (.ibin .neq .i64) (.var 12) (.const (.int .i64 0))) (.const (.bool true)) (.op2 (.ibin .neq .i64) (.op1 .lenS (.var 11)) (.op1 .lenS (.op1 .load1 (.op1 (.fadr 1) (.op2 (.ixa 3) (.var 0) (.var 7)))))))]) <|
  .seq (.cond (.var 75)
    (.seq (.reg [.asg none 4 (.const (.bool false))]) <|
     .ret)
    (.skip))
  (ir6_k7)
noncomputable def ir6_k9 : IR :=
  .seq (.reg [.asg none 56 (.op1 .not (.var 9))]) <|
  .seq (.cond (.var 56)
    (.exit 1)
    (.skip))
  (ir6_k8)
noncomputable def ir6_k10 : IR :=
  .seq (.reg [.asg none 54 (.op2 (.ibin .neq .i64) (.var 10) (.const (.int .i64 0)))]) <|
  .seq (.cond (.var 54)
    (.seq (.reg [.asg none 4 (.const (.bool false))]) <|
     .ret)
    (.skip))
  (ir6_k9)
noncomputable def ir6_k11 : IR :=
  .reg [.asg none 7 (.op2 (.ibin .add .i64) (.var 7) (.const (.int .i64 1)))]
noncomputable def ir6_k12 : IR :=
  .seq (.block 1 (.seq (.drw [.asg none 43 (.op1 (.loadN 3) (.var 5)),
       .asg none 48 (.op1 .load1 (.op1 (.fadr 0) (.op2 (.ixa 3) (.var 0) (.var 7)))),
       .eff none (some 49) (.call { callee := .value (.func 15), args := #[(.tmp 43), (.tmp 48)], argTypes := #[26, 9] }) 30,
       .asg none 42 (.var 49),
       .asg none 50 (.op1 (.ext 0) (.var 42)),
       .asg none 51 (.op1 (.ext 1) (.var 42)),
       .asg none 52 (.op1 (.ext 2) (.var 42)),
       .asg none 8 (.var 50),
       .asg none 9 (.var 51),
       .asg none 10 (.var 52)])
    (ir6_k10)))
  (ir6_k11)
noncomputable def ir6_l13 : IR :=
  .seq (.reg [.asg none 39 (.op2 (.ibin .lss .i64) (.var 7) (.op1 .lenS (.var 0)))]) <|
  .seq (.cond (.var 39)
    (.skip)
    (.exit 0))
  (ir6_k12)
noncomputable def ir6_k14 : IR :=
  .seq (.reg [.eff none (some 148) (.call { callee := .value (.func 14), args := #[], argTypes := #[] }) 4,
     .asg none 4 (.var 148)]) <|
  .ret
noncomputable def ir6_k15 : IR :=
  .seq (.reg [.asg none 7 (.const (.int .i64 0))]) <|
  .seq (.block 0 (.loop ir6_l13))
  (ir6_k14)
noncomputable def ir6_k16 : IR :=
  .seq (.reg [.asg none 28 (.var 0),
     .asg none 29 (.var 1),
     .eff none (some 30) (.call { callee := .value (.func 29), args := #[(.tmp 28), (.tmp 29)], argTypes := #[42, 22] }) 38,
     .asg none 27 (.var 30),
     .asg none 31 (.op1 (.ext 0) (.var 27)),
     .asg none 32 (.op1 (.ext 1) (.var 27)),
     .eff none (some 5) (.alloc 26) 0,
     .eff none none (.store 26 (.tmp 5) (.tmp 31)) 0,
     .asg none 6 (.var 32),
     .asg none 34 (.op2 (.ibin .neq .i64) (.var 6) (.const (.int .i64 0)))]) <|
  .seq (.cond (.var 34)
    (.seq (.reg [.eff none (some 35) (.call { callee := .value (.func 14), args := #[], argTypes := #[] }) 4,
        .asg none 4 (.var 35)]) <|
     .ret)
    (.skip))
  (ir6_k15)
noncomputable def ir6 : IR :=
  .seq (.reg [.asg none 4 (.const (.bool false)),
     .asg none 18 (.var 0),
     .eff none (some 19) (.call { callee := .value (.func 27), args := #[(.tmp 18)], argTypes := #[42] }) 4,
     .asg none 21 (.op1 .not (.var 19)),
     .asg (some (21, false)) 22 (.var 1),
     .eff (some (21, false)) (some 23) (.call { callee := .value (.func 28), args := #[(.tmp 22)], argTypes := #[22] }) 4,
     .asg none 25 (.ite (.var 21) (.const (.bool true)) (.op1 .not (.var 23)))]) <|
  .seq (.cond (.var 25)
    (.seq (.reg [.eff none (some 26) (.call { callee := .value (.func 14), args := #[], argTypes := #[] }) 4,
        .asg none 4 (.var 26)]) <|
     .ret)
    (.skip))
  (ir6_k16)
def ir6_V : List Nat := [0, 1, 4, 5, 6, 7, 8, 9, 10, 11, 12, 13, 14, 15, 16, 17, 18, 19, 21, 22, 23, 25, 26, 27, 28, 29, 30, 31, 32, 34, 35, 39, 42, 43, 48, 49, 50, 51, 52, 54, 56, 57, 58, 59, 60, 61, 62, 75, 83, 95, 96, 105, 106, 107, 108, 109, 132, 135, 139, 140, 145, 146, 147, 148]
theorem ir6_ok : (comp Tryd.prog Tryd.f6.ntmps ir6_V [] (Tryd.f6.body.getD .skip)).map IR.norm = some ir6 := by kernel_rfl
theorem ir6_calls {v0 v1 : Value} {w : World} {R : Ending → World → Prop} (h : ∀ ρ : Env, ρ 0 = v0 → ρ 1 = v1 → ir6.wp ⟨Tryd.prog, 149, ir6_V, []⟩ (retK [.tmp 4] R) (ksOf [.tmp 4] R) ρ w) :
    Calls Tryd.prog 6 #[v0, v1] w R := by
  obtain ⟨ir0, h1, h2⟩ := Option.map_eq_some_iff.1 ir6_ok
  exact calls_ir (args := #[v0, v1]) Tryd.func6 (c := Tryd.f6.body.getD .skip) rfl h1 h2 (by kernel_rfl) (show rvsOf Tryd.prog ir6_V Tryd.f6.results.toList = some [.tmp 4] by kernel_rfl) (Nat.le_of_ble_eq_true rfl) (h _ rfl rfl)

/-! ### 7: argus/arguslaw16.LinkNames  params #[42, 22, 5] results #[4]  slots [(0, l), (1, roots), (2, by), (7, a), (8, e), (9, head), (10, m), (11, i), (12, o), (13, k), (14, heads), (15, i), (16, b), (17, f)] -/
noncomputable def ir7_body : Code := (Tryd.f7.body).getD .skip
noncomputable def ir7_k0 : IR :=
  .raw (rawReg ir7_body 19)
noncomputable def ir7_k1 : IR :=
  .reg [.asg none 13 (.op2 (.ibin .add .i64) (.var 13) (.const (.int .i64 1)))]
noncomputable def ir7_k2 : IR :=
  .seq (.block 3 (.seq (.reg [.asg none 77 (.op2 (.ibin .gtr .i64) (.op1 .lenT (.op1 .load1 (.op1 (.fadr 1) (.op2 (.ixa 2) (.op1 .load1 (.op1 (.fadr 2) (.var 12))) (.var 13))))) (.const (.int .i64 100)))]) <|
    .seq (.cond (.var 77)
      (.seq (.reg [.eff none (some 78) (.call { callee := .value (.func 14), args := #[], argTypes := #[] }) 4,
          .asg none 6 (.var 78)]) <|
       .ret)
      (.skip))
    (ir7_k0)))
  (ir7_k1)
noncomputable def ir7_l3 : IR :=
  .seq (.reg [.asg none 67 (.op2 (.ibin .lss .i64) (.var 13) (.op1 .lenS (.op1 .load1 (.op1 (.fadr 2) (.var 12)))))]) <|
  .seq (.cond (.var 67)
    (.skip)
    (.exit 2))
  (ir7_k2)
noncomputable def ir7_k4 : IR :=
  .reg [.asg none 92 (.var 10),
    .asg none 93 (.op1 (.loadN 3) (.var 12)),
    .eff none (some 94) (.buildSlice 42 1 #[(0, (.tmp 93))]) 42,
    .eff none (some 95) (.call { callee := .builtin .append, args := #[(.tmp 92), (.tmp 94)], argTypes := #[42, 42] }) 42,
    .asg none 10 (.var 95)]
noncomputable def ir7_k5 : IR :=
  .seq (.reg [.asg none 56 (.op2 (.sbin .add) (.var 9) (.op1 .load1 (.op1 (.fadr 0) (.var 12)))),
     .asg none 57 (.op1 (.fadr 0) (.var 12)),
     .eff none none (.store 9 (.tmp 57) (.tmp 56)) 0,
     .eff none (some 58) (.buildSlice 43 0 #[]) 43,
     .asg none 60 (.op1 .load1 (.op1 (.fadr 2) (.var 12))),
     .eff none (some 61) (.call { callee := .builtin .append, args := #[(.tmp 58), (.tmp 60)], argTypes := #[43, 43] }) 43,
     .asg none 62 (.op1 (.fadr 2) (.var 12)),
     .eff none none (.store 43 (.tmp 62) (.tmp 61)) 0,
     .asg none 13 (.const (.int .i64 0))]) <|
  .seq (.block 2 (.loop ir7_l3))
  (ir7_k4)
noncomputable def ir7_k6 : IR :=
  .reg [.asg none 11 (.op2 (.ibin .add .i64) (.var 11) (.const (.int .i64 1)))]
noncomputable def ir7_k7 : IR :=
  .seq (.block 1 (.seq (.reg [.asg none 47 (.op1 (.loadN 3) (.op2 (.ixa 3) (.var 0) (.var 11))),
       .eff none (some 12) (.alloc 45) 0,
       .eff none none (.store 45 (.tmp 12) (.tmp 47)) 0,
       .asg none 51 (.op2 (.ibin .gtr .i64) (.op1 .lenT (.op1 .load1 (.op1 (.fadr 0) (.var 12)))) (.const (.int .i64 100)))]) <|
    .seq (.cond (.var 51)
      (.seq (.reg [.eff none (some 52) (.call { callee := .value (.func 14), args := #[], argTypes := #[] }) 4,
          .asg none 6 (.var 52)]) <|
       .ret)
      (.skip))
    (ir7_k5)))
  (ir7_k6)
noncomputable def ir7_l8 : IR :=
  .seq (.reg [.asg none 41 (.op2 (.ibin .lss .i64) (.var 11) (.op1 .lenS (.var 0)))]) <|
  .seq (.cond (.var 41)
    (.skip)
    (.exit 0))
  (ir7_k7)
noncomputable def ir7_k9 : IR :=
  .reg [.asg none 15 (.op2 (.ibin .add .i64) (.var 15) (.const (.int .i64 1)))]
noncomputable def ir7_k10 : IR :=
  .seq (.block 5 (.reg [.asg none 102 (.var 14),
      .asg none 108 (.op2 (.sbin .add) (.var 9) (.op1 .load1 (.op2 (.ixa 1) (.var 1) (.var 15)))),
      .eff none (some 109) (.buildSlice 22 1 #[(0, (.tmp 108))]) 22,
      .eff none (some 110) (.call { callee := .builtin .append, args := #[(.tmp 102), (.tmp 109)], argTypes := #[22, 22] }) 22,
      .asg none 14 (.var 110)]))
  (ir7_k9)
noncomputable def ir7_l11 : IR :=
  .seq (.reg [.asg none 99 (.op2 (.ibin .lss .i64) (.var 15) (.op1 .lenS (.var 1)))]) <|
  .seq (.cond (.var 99)
    (.skip)
    (.exit 4))
  (ir7_k10)
noncomputable def ir7_k12 : IR :=
  .seq (.reg [.eff none (some 120) (.call { callee := .value (.func 14), args := #[], argTypes := #[] }) 4,
     .asg none 125 (.ite (.var 120) (.op2 (.ibin .eql .i64) (.var 17) (.const (.int .i64 0))) (.const (.bool false))),
     .asg (some (125, true)) 127 (.op1 .load1 (.op1 (.fadr 1) (.var 7))),
     .asg (some (125, true)) 129 (.op1 .load1 (.op1 (.fadr 1) (.var 16))),
     .eff (some (125, true)) (some 130) (.call { callee := .value (.func 32), args := #[(.tmp 127), (.tmp 129)], argTypes := #[23, 23] }) 4,
     .asg none 132 (.ite (.var 125) (.var 130) (.const (.bool false))),
     .asg (some (132, true)) 134 (.op1 .load1 (.op1 (.fadr 2) (.var 7))),
     .asg (some (132, true)) 136 (.op1 .load1 (.op1 (.fadr 2) (.var 16))),
     .eff (some (132, true)) (some 137) (.call { callee := .value (.func 21), args := #[(.tmp 134), (.tmp 136)], argTypes := #[24, 24] }) 4,
     .asg none 6 (.ite (.var 132) (.var 137) (.const (.bool false)))]) <|
  .ret
noncomputable def ir7_k13 : IR :=
  .seq (.reg [.asg none 112 (.var 10),
     .asg none 113 (.var 14),
     .eff none (some 114) (.call { callee := .value (.func 29), args := #[(.tmp 112), (.tmp 113)], argTypes := #[42, 22] }) 38,
     .asg none 111 (.var 114),
     .asg none 115 (.op1 (.ext 0) (.var 111)),
     .asg none 116 (.op1 (.ext 1) (.var 111)),
     .eff none (some 16) (.alloc 26) 0,
     .eff none none (.store 26 (.tmp 16) (.tmp 115)) 0,
     .asg none 17 (.var 116),
     .asg none 118 (.op2 (.ibin .neq .i64) (.var 8) (.const (.int .i64 0)))]) <|
  .seq (.cond (.var 118)
    (.seq (.reg [.eff none (some 119) (.call { callee := .value (.func 14), args := #[], argTypes := #[] }) 4,
        .asg none 6 (.var 119)]) <|
     .ret)
    (.skip))
  (ir7_k12)
noncomputable def ir7_k14 : IR :=
  .seq (.reg [.asg none 14 (.const (.slice none 0 0)),
     .asg none 15 (.const (.int .i64 0))]) <|
  .seq (.block 4 (.loop ir7_l11))
  (ir7_k13)
noncomputable def ir7_k15 : IR :=
  .seq (.reg [.asg none 28 (.var 0),
     .asg none 29 (.var 1),
     .eff none (some 30) (.call { callee := .value (.func 29), args := #[(.tmp 28), (.tmp 29)], argTypes := #[42, 22] }) 38,
     .asg none 27 (.var 30),
     .asg none 31 (.op1 (.ext 0) (.var 27)),
     .asg none 32 (.op1 (.ext 1) (.var 27)),
     .eff none (some 7) (.alloc 26) 0,
     .eff none none (.store 26 (.tmp 7) (.tmp 31)) 0,
     .asg none 8 (.var 32),
     .asg none 35 (.op2 (.ibin .add .u8) (.const (.int .u8 33)) (.op2 (.ibin .rem .u8) (.var 2) (.const (.int .u8 94)))),
     .eff none (some 36) (.buildSlice 24 1 #[(0, (.tmp 35))]) 24,
     .asg none 9 (.op1 .b2s (.var 36)),
     .asg none 10 (.const (.slice none 0 0)),
     .asg none 11 (.const (.int .i64 0))]) <|
  .seq (.block 0 (.loop ir7_l8))
  (ir7_k14)
noncomputable def ir7 : IR :=
  .seq (.reg [.asg none 6 (.const (.bool false)),
     .asg none 18 (.var 0),
     .eff none (some 19) (.call { callee := .value (.func 27), args := #[(.tmp 18)], argTypes := #[42] }) 4,
     .asg none 21 (.op1 .not (.var 19)),
     .asg (some (21, false)) 22 (.var 1),
     .eff (some (21, false)) (some 23) (.call { callee := .value (.func 28), args := #[(.tmp 22)], argTypes := #[22] }) 4,
     .asg none 25 (.ite (.var 21) (.const (.bool true)) (.op1 .not (.var 23)))]) <|
  .seq (.cond (.var 25)
    (.seq (.reg [.eff none (some 26) (.call { callee := .value (.func 14), args := #[], argTypes := #[] }) 4,
        .asg none 6 (.var 26)]) <|
     .ret)
    (.skip))
  (ir7_k15)
def ir7_V : List Nat := [0, 1, 2, 6, 7, 8, 9, 10, 11, 12, 13, 14, 15, 16, 17, 18, 19, 21, 22, 23, 25, 26, 27, 28, 29, 30, 31, 32, 35, 36, 41, 47, 51, 52, 56, 57, 58, 60, 61, 62, 67, 77, 78, 79, 80, 81, 82, 83, 84, 85, 86, 87, 88, 89, 90, 91, 92, 93, 94, 95, 99, 102, 108, 109, 110, 111, 112, 113, 114, 115, 116, 118, 119, 120, 125, 127, 129, 130, 132, 134, 136, 137]
theorem ir7_ok : (comp Tryd.prog Tryd.f7.ntmps ir7_V [19] (Tryd.f7.body.getD .skip)).map IR.norm = some ir7 := by kernel_rfl
theorem ir7_calls {v0 v1 v2 : Value} {w : World} {R : Ending → World → Prop} (h : ∀ ρ : Env, ρ 0 = v0 → ρ 1 = v1 → ρ 2 = v2 → ir7.wp ⟨Tryd.prog, 139, ir7_V, []⟩ (retK [.tmp 6] R) (ksOf [.tmp 6] R) ρ w) :
    Calls Tryd.prog 7 #[v0, v1, v2] w R := by
  obtain ⟨ir0, h1, h2⟩ := Option.map_eq_some_iff.1 ir7_ok
  exact calls_ir (args := #[v0, v1, v2]) Tryd.func7 (c := Tryd.f7.body.getD .skip) rfl h1 h2 (by kernel_rfl) (show rvsOf Tryd.prog ir7_V Tryd.f7.results.toList = some [.tmp 6] by kernel_rfl) (Nat.le_of_ble_eq_true rfl) (h _ rfl rfl rfl)

/-! ### 8: argus/arguslaw16.LinkMemory  params #[42, 22] results #[4]  slots [(0, l), (1, roots), (5, want), (6, e), (7, i), (8, f), (9, k), (10, part), (11, g), (12, n), (13, same), (14, k), (15, again), (16, h)] -/
noncomputable def ir8_k0 : IR :=
  .reg [.asg none 12 (.op2 (.ibin .add .i64) (.var 12) (.const (.int .i64 1)))]
noncomputable def ir8_k1 : IR :=
  .seq (.block 3 (.reg [.asg none 62 (.op2 (.ixa 1) (.var 10) (.var 12)),
      .eff none none (.store 5 (.tmp 62) (.const (.int .u8 255))) 0]))
  (ir8_k0)
noncomputable def ir8_l2 : IR :=
  .seq (.reg [.asg none 57 (.op2 (.ibin .lss .i64) (.var 12) (.op1 .lenS (.var 10)))]) <|
  .seq (.cond (.var 57)
    (.skip)
    (.exit 2))
  (ir8_k1)
noncomputable def ir8_k3 : IR :=
  .seq (.reg [.asg none 64 (.op2 (.ibin .neq .i64) (.var 11) (.const (.int .i64 0)))]) <|
  .cond (.var 64)
   (.seq (.reg [.asg none 4 (.const (.bool false))]) <|
    .ret)
   (.skip)
noncomputable def ir8_k4 : IR :=
  .reg [.asg none 9 (.op2 (.ibin .add .i64) (.var 9) (.const (.int .i64 1)))]
noncomputable def ir8_k5 : IR :=
  .seq (.block 1 (.seq (.reg [.asg none 49 (.op1 (.loadN 3) (.var 7)),
       .asg none 50 (.var 9),
       .eff none (some 51) (.call { callee := .value (.func 17), args := #[(.tmp 49), (.tmp 50)], argTypes := #[26, 3] }) 32,
       .asg none 48 (.var 51),
       .asg none 52 (.op1 (.ext 0) (.var 48)),
       .asg none 53 (.op1 (.ext 1) (.var 48)),
       .asg none 10 (.var 52),
       .asg none 11 (.var 53),
       .asg none 12 (.const (.int .i64 0))]) <|
    .seq (.block 2 (.loop ir8_l2))
    (ir8_k3)))
  (ir8_k4)
noncomputable def ir8_l6 : IR :=
  .seq (.reg [.asg none 45 (.op2 (.ibin .lss .i64) (.var 9) (.op1 .lenS (.op1 .load1 (.op1 (.fadr 0) (.var 7)))))]) <|
  .seq (.cond (.var 45)
    (.skip)
    (.exit 0))
  (ir8_k5)
noncomputable def ir8_k7 : IR :=
  .reg [.asg none 14 (.op2 (.ibin .add .i64) (.var 14) (.const (.int .i64 1)))]
noncomputable def ir8_k8 : IR :=
  .seq (.block 5 (.reg [.asg none 78 (.op2 (.ixa 1) (.op1 .load1 (.op1 (.fadr 2) (.var 7))) (.var 14)),
      .eff none none (.store 5 (.tmp 78) (.const (.int .u8 255))) 0]))
  (ir8_k7)
noncomputable def ir8_l9 : IR :=
  .seq (.reg [.asg none 72 (.op2 (.ibin .lss .i64) (.var 14) (.op1 .lenS (.op1 .load1 (.op1 (.fadr 2) (.var 7)))))]) <|
  .seq (.cond (.var 72)
    (.skip)
    (.exit 4))
  (ir8_k8)
noncomputable def ir8_k10 : IR :=
  .seq (.reg [.asg none 80 (.var 0),
     .asg none 81 (.var 1),
     .eff none (some 82) (.call { callee := .value (.func 29), args := #[(.tmp 80), (.tmp 81)], argTypes := #[42, 22] }) 38,
     .asg none 79 (.var 82),
     .asg none 83 (.op1 (.ext 0) (.var 79)),
     .asg none 84 (.op1 (.ext 1) (.var 79)),
     .eff none (some 15) (.alloc 26) 0,
     .eff none none (.store 26 (.tmp 15) (.tmp 83)) 0,
     .asg none 16 (.var 84),
     .eff none (some 85) (.call { callee := .value (.func 14), args := #[], argTypes := #[] }) 4,
     .asg none 94 (.ite (.ite (.var 85) (.var 13) (.const (.bool false))) (.op2 (.ibin .eql .i64) (.var 16) (.var 6)) (.const (.bool false))),
     .asg (some (94, true)) 95 (.op1 (.loadN 3) (.var 15)),
     .asg (some (94, true)) 96 (.op1 (.loadN 3) (.var 5)),
     .eff (some (94, true)) (some 97) (.call { callee := .value (.func 26), args := #[(.tmp 95), (.tmp 96)], argTypes := #[26, 26] }) 4,
     .asg none 4 (.ite (.var 94) (.var 97) (.const (.bool false)))]) <|
  .ret
noncomputable def ir8_k11 : IR :=
  .seq (.reg [.asg none 65 (.op1 (.loadN 3) (.var 7)),
     .asg none 66 (.op1 (.loadN 3) (.var 5)),
     .eff none (some 67) (.call { callee := .value (.func 26), args := #[(.tmp 65), (.tmp 66)], argTypes := #[26, 26] }) 4,
     .asg none 13 (.var 67),
     .asg none 14 (.const (.int .i64 0))]) <|
  .seq (.block 4 (.loop ir8_l9))
  (ir8_k10)
noncomputable def ir8_k12 : IR :=
  .seq (.reg [.asg none 9 (.const (.int .i64 0))]) <|
  .seq (.block 0 (.loop ir8_l6))
  (ir8_k11)
noncomputable def ir8_k13 : IR :=
  .seq (.reg [.asg none 27 (.var 0),
     .asg none 28 (.var 1),
     .eff none (some 29) (.call { callee := .value (.func 33), args := #[(.tmp 27), (.tmp 28)], argTypes := #[42, 22] }) 38,
     .asg none 26 (.var 29),
     .asg none 30 (.op1 (.ext 0) (.var 26)),
     .asg none 31 (.op1 (.ext 1) (.var 26)),
     .eff none (some 5) (.alloc 26) 0,
     .eff none none (.store 26 (.tmp 5) (.tmp 30)) 0,
     .asg none 6 (.var 31),
     .asg none 33 (.var 0),
     .asg none 34 (.var 1),
     .eff none (some 35) (.call { callee := .value (.func 29), args := #[(.tmp 33), (.tmp 34)], argTypes := #[42, 22] }) 38,
     .asg none 32 (.var 35),
     .asg none 36 (.op1 (.ext 0) (.var 32)),
     .asg none 37 (.op1 (.ext 1) (.var 32)),
     .eff none (some 7) (.alloc 26) 0,
     .eff none none (.store 26 (.tmp 7) (.tmp 36)) 0,
     .asg none 8 (.var 37),
     .asg none 40 (.op2 (.ibin .neq .i64) (.var 6) (.var 8))]) <|
  .seq (.cond (.var 40)
    (.seq (.reg [.asg none 4 (.const (.bool false))]) <|
     .ret)
    (.skip))
  (ir8_k12)
noncomputable def ir8 : IR :=
  .seq (.reg [.asg none 4 (.const (.bool false)),
     .asg none 17 (.var 0),
     .eff none (some 18) (.call { callee := .value (.func 27), args := #[(.tmp 17)], argTypes := #[42] }) 4,
     .asg none 20 (.op1 .not (.var 18)),
     .asg (some (20, false)) 21 (.var 1),
     .eff (some (20, false)) (some 22) (.call { callee := .value (.func 28), args := #[(.tmp 21)], argTypes := #[22] }) 4,
     .asg none 24 (.ite (.var 20) (.const (.bool true)) (.op1 .not (.var 22)))]) <|
  .seq (.cond (.var 24)
    (.seq (.reg [.eff none (some 25) (.call { callee := .value (.func 14), args := #[], argTypes := #[] }) 4,
        .asg none 4 (.var 25)]) <|
     .ret)
    (.skip))
  (ir8_k13)
def ir8_V : List Nat := [0, 1, 4, 5, 6, 7, 8, 9, 10, 11, 12, 13, 14, 15, 16, 17, 18, 20, 21, 22, 24, 25, 26, 27, 28, 29, 30, 31, 32, 33, 34, 35, 36, 37, 40, 45, 48, 49, 50, 51, 52, 53, 57, 62, 64, 65, 66, 67, 72, 78, 79, 80, 81, 82, 83, 84, 85, 94, 95, 96, 97]
theorem ir8_ok : (comp Tryd.prog Tryd.f8.ntmps ir8_V [] (Tryd.f8.body.getD .skip)).map IR.norm = some ir8 := by kernel_rfl
theorem ir8_calls {v0 v1 : Value} {w : World} {R : Ending → World → Prop} (h : ∀ ρ : Env, ρ 0 = v0 → ρ 1 = v1 → ir8.wp ⟨Tryd.prog, 99, ir8_V, []⟩ (retK [.tmp 4] R) (ksOf [.tmp 4] R) ρ w) :
    Calls Tryd.prog 8 #[v0, v1] w R := by
  obtain ⟨ir0, h1, h2⟩ := Option.map_eq_some_iff.1 ir8_ok
  exact calls_ir (args := #[v0, v1]) Tryd.func8 (c := Tryd.f8.body.getD .skip) rfl h1 h2 (by kernel_rfl) (show rvsOf Tryd.prog ir8_V Tryd.f8.results.toList = some [.tmp 4] by kernel_rfl) (Nat.le_of_ble_eq_true rfl) (h _ rfl rfl)

/-! ### 9: argus/arguslaw16.LinkReaches  params #[42, 22] results #[4]  slots [(0, l), (1, roots), (5, a), (6, e), (7, b), (8, f), (9, c), (10, g), (11, d), (12, h), (13, x), (14, i), (15, y), (16, j)] -/
noncomputable def ir9_k0 : IR :=
  .seq (.reg [.asg none 27 (.var 0),
     .asg none 28 (.var 1),
     .eff none (some 29) (.call { callee := .value (.func 34), args := #[(.tmp 27), (.tmp 28)], argTypes := #[42, 22] }) 58,
     .asg none 26 (.var 29),
     .asg none 30 (.op1 (.ext 0) (.var 26)),
     .asg none 31 (.op1 (.ext 1) (.var 26)),
     .asg none 5 (.var 30),
     .asg none 6 (.var 31),
     .asg none 33 (.var 0),
     .asg none 34 (.var 1),
     .eff none (some 35) (.call { callee := .value (.func 35), args := #[(.tmp 33), (.tmp 34)], argTypes := #[42, 22] }) 58,
     .asg none 32 (.var 35),
     .asg none 36 (.op1 (.ext 0) (.var 32)),
     .asg none 37 (.op1 (.ext 1) (.var 32)),
     .asg none 7 (.var 36),
     .asg none 8 (.var 37),
     .asg none 39 (.var 0),
     .asg none 40 (.var 1),
     .eff none (some 41) (.call { callee := .value (.func 36), args := #[(.tmp 39), (.tmp 40)], argTypes := #[42, 22] }) 58,
     .asg none 38 (.var 41),
     .asg none 42 (.op1 (.ext 0) (.var 38)),
     .asg none 43 (.op1 (.ext 1) (.var 38)),
     .asg none 9 (.var 42),
     .asg none 10 (.var 43),
     .asg none 45 (.var 0),
     .asg none 46 (.var 1),
     .eff none (some 47) (.call { callee := .value (.func 37), args := #[(.tmp 45), (.tmp 46)], argTypes := #[42, 22] }) 58,
     .asg none 44 (.var 47),
     .asg none 48 (.op1 (.ext 0) (.var 44)),
     .asg none 49 (.op1 (.ext 1) (.var 44)),
     .asg none 11 (.var 48),
     .asg none 12 (.var 49),
     .asg none 51 (.var 0),
     .asg none 52 (.var 1),
     .eff none (some 53) (.call { callee := .value (.func 38), args := #[(.tmp 51), (.tmp 52)], argTypes := #[42, 22] }) 60,
     .asg none 50 (.var 53),
     .asg none 54 (.op1 (.ext 0) (.var 50)),
     .asg none 55 (.op1 (.ext 1) (.var 50)),
     .asg none 13 (.var 54),
     .asg none 14 (.var 55),
     .asg none 57 (.var 0),
     .asg none 58 (.var 1),
     .eff none (some 59) (.call { callee := .value (.func 39), args := #[(.tmp 57), (.tmp 58)], argTypes := #[42, 22] }) 60,
     .asg none 56 (.var 59),
     .asg none 60 (.op1 (.ext 0) (.var 56)),
     .asg none 61 (.op1 (.ext 1) (.var 56)),
     .asg none 15 (.var 60),
     .asg none 16 (.var 61),
     .eff none (some 62) (.call { callee := .value (.func 14), args := #[], argTypes := #[] }) 4,
     .asg none 63 (.var 62),
     .asg (some (63, true)) 64 (.var 5),
     .asg (some (63, true)) 65 (.var 7),
     .eff (some (63, true)) (some 66) (.call { callee := .value (.func 40), args := #[(.tmp 64), (.tmp 65)], argTypes := #[22, 22] }) 4,
     .asg none 73 (.ite (.ite (.var 63) (.var 66) (.const (.bool false))) (.op2 (.ibin .eql .i64) (.var 6) (.var 8)) (.const (.bool false))),
     .asg (some (73, true)) 74 (.var 9),
     .asg (some (73, true)) 75 (.var 11),
     .eff (some (73, true)) (some 76) (.call { callee := .value (.func 40), args := #[(.tmp 74), (.tmp 75)], argTypes := #[22, 22] }) 4,
     .asg none 83 (.ite (.ite (.var 73) (.var 76) (.const (.bool false))) (.op2 (.ibin .eql .i64) (.var 10) (.var 12)) (.const (.bool false))),
     .asg (some (83, true)) 84 (.var 13),
     .asg (some (83, true)) 85 (.var 15),
     .eff (some (83, true)) (some 86) (.call { callee := .value (.func 41), args := #[(.tmp 84), (.tmp 85)], argTypes := #[42, 42] }) 4,
     .asg none 4 (.ite (.ite (.var 83) (.var 86) (.const (.bool false))) (.op2 (.ibin .eql .i64) (.var 14) (.var 16)) (.const (.bool false)))]) <|
  .ret
noncomputable def ir9 : IR :=
  .seq (.reg [.asg none 4 (.const (.bool false)),
     .asg none 17 (.var 0),
     .eff none (some 18) (.call { callee := .value (.func 27), args := #[(.tmp 17)], argTypes := #[42] }) 4,
     .asg none 20 (.op1 .not (.var 18)),
     .asg (some (20, false)) 21 (.var 1),
     .eff (some (20, false)) (some 22) (.call { callee := .value (.func 28), args := #[(.tmp 21)], argTypes := #[22] }) 4,
     .asg none 24 (.ite (.var 20) (.const (.bool true)) (.op1 .not (.var 22)))]) <|
  .seq (.cond (.var 24)
    (.seq (.reg [.eff none (some 25) (.call { callee := .value (.func 14), args := #[], argTypes := #[] }) 4,
        .asg none 4 (.var 25)]) <|
     .ret)
    (.skip))
  (ir9_k0)
def ir9_V : List Nat := [0, 1, 4, 5, 6, 7, 8, 9, 10, 11, 12, 13, 14, 15, 16, 17, 18, 20, 21, 22, 24, 25, 26, 27, 28, 29, 30, 31, 32, 33, 34, 35, 36, 37, 38, 39, 40, 41, 42, 43, 44, 45, 46, 47, 48, 49, 50, 51, 52, 53, 54, 55, 56, 57, 58, 59, 60, 61, 62, 63, 64, 65, 66, 73, 74, 75, 76, 83, 84, 85, 86]
theorem ir9_ok : (comp Tryd.prog Tryd.f9.ntmps ir9_V [] (Tryd.f9.body.getD .skip)).map IR.norm = some ir9 := by kernel_rfl
theorem ir9_calls {v0 v1 : Value} {w : World} {R : Ending → World → Prop} (h : ∀ ρ : Env, ρ 0 = v0 → ρ 1 = v1 → ir9.wp ⟨Tryd.prog, 93, ir9_V, []⟩ (retK [.tmp 4] R) (ksOf [.tmp 4] R) ρ w) :
    Calls Tryd.prog 9 #[v0, v1] w R := by
  obtain ⟨ir0, h1, h2⟩ := Option.map_eq_some_iff.1 ir9_ok
  exact calls_ir (args := #[v0, v1]) Tryd.func9 (c := Tryd.f9.body.getD .skip) rfl h1 h2 (by kernel_rfl) (show rvsOf Tryd.prog ir9_V Tryd.f9.results.toList = some [.tmp 4] by kernel_rfl) (Nat.le_of_ble_eq_true rfl) (h _ rfl rfl)

/-! ### 10: argus/arguslaw16.LinkLeast  params #[42, 22, 3] results #[4]  slots [(0, l), (1, roots), (2, which), (7, a), (8, e), (9, least), (10, f), (11, all), (12, g), (13, b), (14, h), (15, again), (16, i), (17, fewer), (18, j), (19, k), (20, there), (21, n), (22, k), (23, cut), (24, missing), (25, j)] -/
noncomputable def ir10_body : Code := (Tryd.f10.body).getD .skip
noncomputable def ir10_k0 : IR :=
  .reg [.asg none 21 (.op2 (.ibin .add .i64) (.var 21) (.const (.int .i64 1)))]
noncomputable def ir10_k1 : IR :=
  .seq (.block 3 (.drw [.asg none 20 (.ite (.var 20) (.const (.bool true)) (.op2 (.sbin .eql) (.op1 .load1 (.op2 (.ixa 1) (.var 11) (.var 21))) (.op1 .load1 (.op2 (.ixa 1) (.var 17) (.var 19)))))]))
  (ir10_k0)
noncomputable def ir10_l2 : IR :=
  .seq (.reg [.asg none 121 (.op2 (.ibin .lss .i64) (.var 21) (.op1 .lenS (.var 11)))]) <|
  .seq (.cond (.var 121)
    (.skip)
    (.exit 2))
  (ir10_k1)
noncomputable def ir10_k3 : IR :=
  .seq (.reg [.asg none 137 (.op1 .not (.var 20))]) <|
  .cond (.var 137)
   (.seq (.reg [.asg none 6 (.const (.bool false))]) <|
    .ret)
   (.skip)
noncomputable def ir10_k4 : IR :=
  .reg [.asg none 19 (.op2 (.ibin .add .i64) (.var 19) (.const (.int .i64 1)))]
noncomputable def ir10_k5 : IR :=
  .seq (.block 1 (.seq (.reg [.asg none 20 (.const (.bool false)),
       .asg none 21 (.const (.int .i64 0))]) <|
    .seq (.block 2 (.loop ir10_l2))
    (ir10_k3)))
  (ir10_k4)
noncomputable def ir10_l6 : IR :=
  .seq (.reg [.asg none 115 (.op2 (.ibin .lss .i64) (.var 19) (.op1 .lenS (.var 17)))]) <|
  .seq (.cond (.var 115)
    (.skip)
    (.exit 0))
  (ir10_k5)
noncomputable def ir10_k7 : IR :=
  .seq (.reg [.asg none 19 (.const (.int .i64 0))]) <|
  .block 0 (.loop ir10_l6)
noncomputable def ir10_k8 : IR :=
  .ret
noncomputable def ir10_k9 : IR :=
  .seq (.reg [.asg none 160 (.var 23),
     .asg none 161 (.var 1),
     .eff none (some 162) (.call { callee := .value (.func 36), args := #[(.tmp 160), (.tmp 161)], argTypes := #[42, 22] }) 58,
     .asg none 159 (.var 162),
     .asg none 163 (.op1 (.ext 0) (.var 159)),
     .asg none 164 (.op1 (.ext 1) (.var 159)),
     .asg none 24 (.var 163),
     .asg none 25 (.var 164)]) <|
  .seq (.drw [.eff none (some 165) (.call { callee := .value (.func 14), args := #[], argTypes := #[] }) 4,
     .asg none 6 (.ite (.ite (.ite (.var 165) (.op2 (.ibin .eql .i64) (.var 25) (.const (.int .i64 0))) (.const (.bool false))) (.op2 (.ibin .eql .i64) (.op1 .lenS (.var 24)) (.const (.int .i64 1))) (.const (.bool false))) (.op2 (.sbin .eql) (.op1 .load1 (.op2 (.ixa 1) (.var 24) (.const (.int .i64 0)))) (.op1 .load1 (.op1 (.fadr 0) (.op2 (.ixa 3) (.var 9) (.var 22))))) (.const (.bool false)))])
  (ir10_k8)
noncomputable def ir10_k10 : IR :=
  .seq (.reg [.asg none 22 (.op1 (.conv .i64) (.op2 (.ibin .rem .u64) (.op1 (.conv .u64) (.var 2)) (.op1 (.conv .u64) (.op1 .lenS (.var 9)))))]) <|
  .seq (.raw (rawReg ir10_body 29))
  (ir10_k9)
noncomputable def ir10_k11 : IR :=
  .seq (.reg [.asg none 140 (.op2 (.ibin .eql .i64) (.op1 .lenS (.var 9)) (.const (.int .i64 0)))]) <|
  .seq (.cond (.var 140)
    (.seq (.reg [.eff none (some 141) (.call { callee := .value (.func 14), args := #[], argTypes := #[] }) 4,
        .asg none 6 (.var 141)]) <|
     .ret)
    (.skip))
  (ir10_k10)
noncomputable def ir10_k12 : IR :=
  .seq (.reg [.asg none 102 (.op2 (.ibin .gtr .i64) (.op1 .lenS (.var 1)) (.const (.int .i64 0)))]) <|
  .seq (.cond (.var 102)
    (.seq (.reg [.asg none 104 (.var 0),
        .asg none 106 (.op2 (.slLo 1) (.var 1) (.const (.int .i64 1))),
        .eff none (some 107) (.call { callee := .value (.func 34), args := #[(.tmp 104), (.tmp 106)], argTypes := #[42, 22] }) 58,
        .asg none 103 (.var 107),
        .asg none 108 (.op1 (.ext 0) (.var 103)),
        .asg none 109 (.op1 (.ext 1) (.var 103)),
        .asg none 17 (.var 108),
        .asg none 18 (.var 109),
        .asg none 111 (.op2 (.ibin .neq .i64) (.var 18) (.const (.int .i64 0)))]) <|
     .seq (.cond (.var 111)
       (.seq (.reg [.asg none 6 (.const (.bool false))]) <|
        .ret)
       (.skip))
     (ir10_k7))
    (.skip))
  (ir10_k11)
noncomputable def ir10_k13 : IR :=
  .seq (.reg [.asg none 63 (.var 9),
     .asg none 64 (.var 1),
     .eff none (some 65) (.call { callee := .value (.func 29), args := #[(.tmp 63), (.tmp 64)], argTypes := #[42, 22] }) 38,
     .asg none 62 (.var 65),
     .asg none 66 (.op1 (.ext 0) (.var 62)),
     .asg none 67 (.op1 (.ext 1) (.var 62)),
     .eff none (some 13) (.alloc 26) 0,
     .eff none none (.store 26 (.tmp 13) (.tmp 66)) 0,
     .asg none 14 (.var 67),
     .asg none 69 (.var 0),
     .asg none 70 (.var 11),
     .eff none (some 71) (.call { callee := .value (.func 34), args := #[(.tmp 69), (.tmp 70)], argTypes := #[42, 22] }) 58,
     .asg none 68 (.var 71),
     .asg none 72 (.op1 (.ext 0) (.var 68)),
     .asg none 73 (.op1 (.ext 1) (.var 68)),
     .asg none 15 (.var 72),
     .asg none 16 (.var 73),
     .asg none 88 (.ite (.ite (.ite (.op2 (.ibin .neq .i64) (.var 10) (.const (.int .i64 0))) (.const (.bool true)) (.op2 (.ibin .neq .i64) (.var 12) (.const (.int .i64 0)))) (.const (.bool true)) (.op2 (.ibin .neq .i64) (.var 14) (.const (.int .i64 0)))) (.const (.bool true)) (.op2 (.ibin .neq .i64) (.var 16) (.const (.int .i64 0)))),
     .asg (some (88, false)) 89 (.op1 (.loadN 3) (.var 7)),
     .asg (some (88, false)) 90 (.op1 (.loadN 3) (.var 13)),
     .eff (some (88, false)) (some 91) (.call { callee := .value (.func 26), args := #[(.tmp 89), (.tmp 90)], argTypes := #[26, 26] }) 4,
     .asg none 94 (.ite (.var 88) (.const (.bool true)) (.op1 .not (.var 91))),
     .asg (some (94, false)) 95 (.var 15),
     .asg (some (94, false)) 96 (.var 11),
     .eff (some (94, false)) (some 97) (.call { callee := .value (.func 40), args := #[(.tmp 95), (.tmp 96)], argTypes := #[22, 22] }) 4,
     .asg none 99 (.ite (.var 94) (.const (.bool true)) (.op1 .not (.var 97)))]) <|
  .seq (.cond (.var 99)
    (.seq (.reg [.asg none 6 (.const (.bool false))]) <|
     .ret)
    (.skip))
  (ir10_k12)
noncomputable def ir10_k14 : IR :=
  .seq (.reg [.asg none 36 (.var 0),
     .asg none 37 (.var 1),
     .eff none (some 38) (.call { callee := .value (.func 29), args := #[(.tmp 36), (.tmp 37)], argTypes := #[42, 22] }) 38,
     .asg none 35 (.var 38),
     .asg none 39 (.op1 (.ext 0) (.var 35)),
     .asg none 40 (.op1 (.ext 1) (.var 35)),
     .eff none (some 7) (.alloc 26) 0,
     .eff none none (.store 26 (.tmp 7) (.tmp 39)) 0,
     .asg none 8 (.var 40),
     .asg none 42 (.var 0),
     .asg none 43 (.var 1),
     .eff none (some 44) (.call { callee := .value (.func 38), args := #[(.tmp 42), (.tmp 43)], argTypes := #[42, 22] }) 60,
     .asg none 41 (.var 44),
     .asg none 45 (.op1 (.ext 0) (.var 41)),
     .asg none 46 (.op1 (.ext 1) (.var 41)),
     .asg none 9 (.var 45),
     .asg none 10 (.var 46),
     .asg none 48 (.var 0),
     .asg none 49 (.var 1),
     .eff none (some 50) (.call { callee := .value (.func 34), args := #[(.tmp 48), (.tmp 49)], argTypes := #[42, 22] }) 58,
     .asg none 47 (.var 50),
     .asg none 51 (.op1 (.ext 0) (.var 47)),
     .asg none 52 (.op1 (.ext 1) (.var 47)),
     .asg none 11 (.var 51),
     .asg none 12 (.var 52),
     .asg none 54 (.op2 (.ibin .neq .i64) (.var 8) (.const (.int .i64 0)))]) <|
  .seq (.cond (.var 54)
    (.seq (.reg [.eff none (some 55) (.call { callee := .value (.func 14), args := #[], argTypes := #[] }) 4,
        .asg none 6 (.ite (.var 55) (.op2 (.ibin .eql .i64) (.op1 .lenS (.op1 .load1 (.op1 (.fadr 0) (.var 7)))) (.const (.int .i64 0))) (.const (.bool false)))]) <|
     .ret)
    (.skip))
  (ir10_k13)
noncomputable def ir10 : IR :=
  .seq (.reg [.asg none 6 (.const (.bool false)),
     .asg none 26 (.var 0),
     .eff none (some 27) (.call { callee := .value (.func 27), args := #[(.tmp 26)], argTypes := #[42] }) 4,
     .asg none 29 (.op1 .not (.var 27)),
     .asg (some (29, false)) 30 (.var 1),
     .eff (some (29, false)) (some 31) (.call { callee := .value (.func 28), args := #[(.tmp 30)], argTypes := #[22] }) 4,
     .asg none 33 (.ite (.var 29) (.const (.bool true)) (.op1 .not (.var 31)))]) <|
  .seq (.cond (.var 33)
    (.seq (.reg [.eff none (some 34) (.call { callee := .value (.func 14), args := #[], argTypes := #[] }) 4,
        .asg none 6 (.var 34)]) <|
     .ret)
    (.skip))
  (ir10_k14)
def ir10_V : List Nat := [0, 1, 2, 6, 7, 8, 9, 10, 11, 12, 13, 14, 15, 16, 17, 18, 19, 20, 21, 22, 23, 24, 25, 26, 27, 29, 30, 31, 33, 34, 35, 36, 37, 38, 39, 40, 41, 42, 43, 44, 45, 46, 47, 48, 49, 50, 51, 52, 54, 55, 62, 63, 64, 65, 66, 67, 68, 69, 70, 71, 72, 73, 88, 89, 90, 91, 94, 95, 96, 97, 99, 102, 103, 104, 106, 107, 108, 109, 111, 115, 121, 137, 140, 141, 149, 150, 151, 152, 153, 154, 155, 156, 157, 158, 159, 160, 161, 162, 163, 164, 165]
theorem ir10_ok : (comp Tryd.prog Tryd.f10.ntmps ir10_V [29] (Tryd.f10.body.getD .skip)).map IR.norm = some ir10 := by kernel_rfl
theorem ir10_calls {v0 v1 v2 : Value} {w : World} {R : Ending → World → Prop} (h : ∀ ρ : Env, ρ 0 = v0 → ρ 1 = v1 → ρ 2 = v2 → ir10.wp ⟨Tryd.prog, 186, ir10_V, []⟩ (retK [.tmp 6] R) (ksOf [.tmp 6] R) ρ w) :
    Calls Tryd.prog 10 #[v0, v1, v2] w R := by
  obtain ⟨ir0, h1, h2⟩ := Option.map_eq_some_iff.1 ir10_ok
  exact calls_ir (args := #[v0, v1, v2]) Tryd.func10 (c := Tryd.f10.body.getD .skip) rfl h1 h2 (by kernel_rfl) (show rvsOf Tryd.prog ir10_V Tryd.f10.results.toList = some [.tmp 6] by kernel_rfl) (Nat.le_of_ble_eq_true rfl) (h _ rfl rfl rfl)

/-! ### 11: argus/arguslaw16.LinkChecks  params #[42] results #[4]  slots [(0, l), (3, i), (4, a), (5, e), (6, b), (7, f), (8, i), (9, e), (10, k), (11, f)] -/
noncomputable def ir11_k0 : IR :=
  .cond (.var 59)
   (.seq (.reg [.asg none 2 (.const (.bool false))]) <|
    .ret)
   (.skip)
noncomputable def ir11_k1 : IR :=
  .reg [.asg none 3 (.op2 (.ibin .add .i64) (.var 3) (.const (.int .i64 1)))]
noncomputable def ir11_k2 : IR :=
  .seq (.block 1 (.seq (.reg [.asg none 26 (.op1 (.loadN 3) (.op2 (.ixa 3) (.var 0) (.var 3))),
       .eff none (some 27) (.call { callee := .value (.func 42), args := #[(.tmp 26)], argTypes := #[45] }) 58,
       .asg none 22 (.var 27),
       .asg none 28 (.op1 (.ext 0) (.var 22)),
       .asg none 29 (.op1 (.ext 1) (.var 22)),
       .asg none 4 (.var 28),
       .asg none 5 (.var 29),
       .asg none 34 (.op1 (.loadN 3) (.op2 (.ixa 3) (.var 0) (.var 3))),
       .eff none (some 35) (.call { callee := .value (.func 43), args := #[(.tmp 34)], argTypes := #[45] }) 58,
       .asg none 30 (.var 35),
       .asg none 36 (.op1 (.ext 0) (.var 30)),
       .asg none 37 (.op1 (.ext 1) (.var 30)),
       .asg none 6 (.var 36),
       .asg none 7 (.var 37)]) <|
    .seq (.drw [.asg none 41 (.op1 (.loadN 3) (.op2 (.ixa 3) (.var 0) (.var 3))),
       .eff none (some 42) (.call { callee := .value (.func 44), args := #[(.tmp 41)], argTypes := #[45] }) 29,
       .asg none 46 (.op1 (.loadN 3) (.op2 (.ixa 3) (.var 0) (.var 3))),
       .eff none (some 47) (.call { callee := .value (.func 45), args := #[(.tmp 46)], argTypes := #[45] }) 29,
       .asg none 49 (.op2 (.ibin .neq .i64) (.var 42) (.var 47)),
       .asg (some (49, false)) 50 (.var 4),
       .asg (some (49, false)) 51 (.var 6),
       .eff (some (49, false)) (some 52) (.call { callee := .value (.func 40), args := #[(.tmp 50), (.tmp 51)], argTypes := #[22, 22] }) 4,
       .asg none 59 (.ite (.ite (.var 49) (.const (.bool true)) (.op1 .not (.var 52))) (.const (.bool true)) (.op2 (.ibin .neq .i64) (.var 5) (.var 7)))])
    (ir11_k0)))
  (ir11_k1)
noncomputable def ir11_l3 : IR :=
  .seq (.reg [.asg none 19 (.op2 (.ibin .lss .i64) (.var 3) (.op1 .lenS (.var 0)))]) <|
  .seq (.cond (.var 19)
    (.skip)
    (.exit 0))
  (ir11_k2)
noncomputable def ir11_k4 : IR :=
  .seq (.reg [.asg none 61 (.var 0),
     .eff none (some 62) (.call { callee := .value (.func 31), args := #[(.tmp 61)], argTypes := #[42] }) 50,
     .asg none 60 (.var 62),
     .asg none 63 (.op1 (.ext 0) (.var 60)),
     .asg none 64 (.op1 (.ext 1) (.var 60)),
     .asg none 8 (.var 63),
     .asg none 9 (.var 64),
     .asg none 66 (.var 0),
     .eff none (some 67) (.call { callee := .value (.func 46), args := #[(.tmp 66)], argTypes := #[42] }) 50,
     .asg none 65 (.var 67),
     .asg none 68 (.op1 (.ext 0) (.var 65)),
     .asg none 69 (.op1 (.ext 1) (.var 65)),
     .asg none 10 (.var 68),
     .asg none 11 (.var 69),
     .eff none (some 70) (.call { callee := .value (.func 14), args := #[], argTypes := #[] }) 4,
     .asg none 2 (.ite (.ite (.var 70) (.op2 (.ibin .eql .i64) (.var 8) (.var 10)) (.const (.bool false))) (.op2 (.ibin .eql .i64) (.var 9) (.var 11)) (.const (.bool false)))]) <|
  .ret
noncomputable def ir11_k5 : IR :=
  .seq (.reg [.asg none 3 (.const (.int .i64 0))]) <|
  .seq (.block 0 (.loop ir11_l3))
  (ir11_k4)
noncomputable def ir11 : IR :=
  .seq (.reg [.asg none 2 (.const (.bool false)),
     .asg none 12 (.var 0),
     .eff none (some 13) (.call { callee := .value (.func 27), args := #[(.tmp 12)], argTypes := #[42] }) 4,
     .asg none 14 (.op1 .not (.var 13))]) <|
  .seq (.cond (.var 14)
    (.seq (.reg [.eff none (some 15) (.call { callee := .value (.func 14), args := #[], argTypes := #[] }) 4,
        .asg none 2 (.var 15)]) <|
     .ret)
    (.skip))
  (ir11_k5)
def ir11_V : List Nat := [0, 2, 3, 4, 5, 6, 7, 8, 9, 10, 11, 12, 13, 14, 15, 19, 22, 26, 27, 28, 29, 30, 34, 35, 36, 37, 41, 42, 46, 47, 49, 50, 51, 52, 59, 60, 61, 62, 63, 64, 65, 66, 67, 68, 69, 70]
theorem ir11_ok : (comp Tryd.prog Tryd.f11.ntmps ir11_V [] (Tryd.f11.body.getD .skip)).map IR.norm = some ir11 := by kernel_rfl
theorem ir11_calls {v0 : Value} {w : World} {R : Ending → World → Prop} (h : ∀ ρ : Env, ρ 0 = v0 → ir11.wp ⟨Tryd.prog, 81, ir11_V, []⟩ (retK [.tmp 2] R) (ksOf [.tmp 2] R) ρ w) :
    Calls Tryd.prog 11 #[v0] w R := by
  obtain ⟨ir0, h1, h2⟩ := Option.map_eq_some_iff.1 ir11_ok
  exact calls_ir (args := #[v0]) Tryd.func11 (c := Tryd.f11.body.getD .skip) rfl h1 h2 (by kernel_rfl) (show rvsOf Tryd.prog ir11_V Tryd.f11.results.toList = some [.tmp 2] by kernel_rfl) (Nat.le_of_ble_eq_true rfl) (h _ rfl)

/-! ### 12: argus/arguslaw16.LinkLinks  params #[42, 22, 26] results #[4]  slots [(0, l), (1, roots), (2, i), (5, i), (7, a), (8, e), (9, b), (10, f), (11, c), (12, g), (13, d), (14, h), (15, own), (16, j)] -/
noncomputable def ir12_k0 : IR :=
  .seq (.reg [.asg none 32 (.var 0),
     .asg none 33 (.var 1),
     .eff none (some 34) (.call { callee := .value (.func 29), args := #[(.tmp 32), (.tmp 33)], argTypes := #[42, 22] }) 38,
     .asg none 31 (.var 34),
     .asg none 35 (.op1 (.ext 0) (.var 31)),
     .asg none 36 (.op1 (.ext 1) (.var 31)),
     .eff none (some 7) (.alloc 26) 0,
     .eff none none (.store 26 (.tmp 7) (.tmp 35)) 0,
     .asg none 8 (.var 36),
     .asg none 38 (.var 0),
     .asg none 39 (.var 1),
     .eff none (some 40) (.call { callee := .value (.func 33), args := #[(.tmp 38), (.tmp 39)], argTypes := #[42, 22] }) 38,
     .asg none 37 (.var 40),
     .asg none 41 (.op1 (.ext 0) (.var 37)),
     .asg none 42 (.op1 (.ext 1) (.var 37)),
     .eff none (some 9) (.alloc 26) 0,
     .eff none none (.store 26 (.tmp 9) (.tmp 41)) 0,
     .asg none 10 (.var 42),
     .asg none 44 (.var 0),
     .asg none 45 (.var 1),
     .asg none 46 (.op1 (.loadN 3) (.var 5)),
     .eff none (some 47) (.call { callee := .value (.func 47), args := #[(.tmp 44), (.tmp 45), (.tmp 46)], argTypes := #[42, 22, 26] }) 69,
     .asg none 43 (.var 47),
     .asg none 48 (.op1 (.ext 0) (.var 43)),
     .asg none 49 (.op1 (.ext 1) (.var 43)),
     .asg none 11 (.var 48),
     .asg none 12 (.var 49),
     .asg none 51 (.var 0),
     .asg none 52 (.var 1),
     .asg none 53 (.op1 (.loadN 3) (.var 5)),
     .eff none (some 54) (.call { callee := .value (.func 48), args := #[(.tmp 51), (.tmp 52), (.tmp 53)], argTypes := #[42, 22, 26] }) 69,
     .asg none 50 (.var 54),
     .asg none 55 (.op1 (.ext 0) (.var 50)),
     .asg none 56 (.op1 (.ext 1) (.var 50)),
     .asg none 13 (.var 55),
     .asg none 14 (.var 56),
     .asg none 58 (.var 0),
     .asg none 59 (.var 1),
     .asg none 60 (.op1 (.loadN 3) (.var 9)),
     .eff none (some 61) (.call { callee := .value (.func 47), args := #[(.tmp 58), (.tmp 59), (.tmp 60)], argTypes := #[42, 22, 26] }) 69,
     .asg none 57 (.var 61),
     .asg none 62 (.op1 (.ext 0) (.var 57)),
     .asg none 63 (.op1 (.ext 1) (.var 57)),
     .asg none 15 (.var 62),
     .asg none 16 (.var 63),
     .eff none (some 64) (.call { callee := .value (.func 14), args := #[], argTypes := #[] }) 4,
     .asg none 65 (.var 64),
     .asg (some (65, true)) 66 (.op1 (.loadN 3) (.var 7)),
     .asg (some (65, true)) 67 (.op1 (.loadN 3) (.var 9)),
     .eff (some (65, true)) (some 68) (.call { callee := .value (.func 26), args := #[(.tmp 66), (.tmp 67)], argTypes := #[26, 26] }) 4,
     .asg none 6 (.ite (.ite (.ite (.ite (.ite (.ite (.var 65) (.var 68) (.const (.bool false))) (.op2 (.ibin .eql .i64) (.var 8) (.var 10)) (.const (.bool false))) (.op2 (.bbin .eql) (.var 11) (.var 13)) (.const (.bool false))) (.op2 (.ibin .eql .i64) (.var 12) (.var 14)) (.const (.bool false))) (.op2 (.ibin .eql .i64) (.var 16) (.var 12)) (.const (.bool false))) (.op2 (.bbin .eql) (.var 15) (.op2 (.ibin .eql .i64) (.var 10) (.const (.int .i64 0)))) (.const (.bool false)))]) <|
  .ret
noncomputable def ir12 : IR :=
  .seq (.reg [.eff none (some 5) (.box 26 (.tmp 2)) 0,
     .asg none 6 (.const (.bool false)),
     .asg none 17 (.var 0),
     .eff none (some 18) (.call { callee := .value (.func 27), args := #[(.tmp 17)], argTypes := #[42] }) 4,
     .asg none 20 (.op1 .not (.var 18)),
     .asg (some (20, false)) 21 (.var 1),
     .eff (some (20, false)) (some 22) (.call { callee := .value (.func 28), args := #[(.tmp 21)], argTypes := #[22] }) 4,
     .asg none 25 (.ite (.var 20) (.const (.bool true)) (.op1 .not (.var 22))),
     .asg (some (25, false)) 26 (.op1 (.loadN 3) (.var 5)),
     .eff (some (25, false)) (some 27) (.call { callee := .value (.func 13), args := #[(.tmp 26)], argTypes := #[26] }) 4,
     .asg none 29 (.ite (.var 25) (.const (.bool true)) (.op1 .not (.var 27)))]) <|
  .seq (.cond (.var 29)
    (.seq (.reg [.eff none (some 30) (.call { callee := .value (.func 14), args := #[], argTypes := #[] }) 4,
        .asg none 6 (.var 30)]) <|
     .ret)
    (.skip))
  (ir12_k0)
def ir12_V : List Nat := [0, 1, 2, 5, 6, 7, 8, 9, 10, 11, 12, 13, 14, 15, 16, 17, 18, 20, 21, 22, 25, 26, 27, 29, 30, 31, 32, 33, 34, 35, 36, 37, 38, 39, 40, 41, 42, 43, 44, 45, 46, 47, 48, 49, 50, 51, 52, 53, 54, 55, 56, 57, 58, 59, 60, 61, 62, 63, 64, 65, 66, 67, 68]
theorem ir12_ok : (comp Tryd.prog Tryd.f12.ntmps ir12_V [] (Tryd.f12.body.getD .skip)).map IR.norm = some ir12 := by kernel_rfl
theorem ir12_calls {v0 v1 v2 : Value} {w : World} {R : Ending → World → Prop} (h : ∀ ρ : Env, ρ 0 = v0 → ρ 1 = v1 → ρ 2 = v2 → ir12.wp ⟨Tryd.prog, 96, ir12_V, []⟩ (retK [.tmp 6] R) (ksOf [.tmp 6] R) ρ w) :
    Calls Tryd.prog 12 #[v0, v1, v2] w R := by
  obtain ⟨ir0, h1, h2⟩ := Option.map_eq_some_iff.1 ir12_ok
  exact calls_ir (args := #[v0, v1, v2]) Tryd.func12 (c := Tryd.f12.body.getD .skip) rfl h1 h2 (by kernel_rfl) (show rvsOf Tryd.prog ir12_V Tryd.f12.results.toList = some [.tmp 6] by kernel_rfl) (Nat.le_of_ble_eq_true rfl) (h _ rfl rfl rfl)

/-! ### 50: slices.BinarySearch[[]string,string]  params #[22, 9] results #[3, 4]  slots [(0, x), (1, target), (6, n), (7, i), (8, j), (9, h)] -/
noncomputable def ir50_k0 : IR :=
  .block 1 (.seq (.reg [.asg none 9 (.op1 (.conv .i64) (.op2 (.shf .shr) (.op1 (.conv .u64) (.op2 (.ibin .add .i64) (.var 7) (.var 8))) (.const (.int .u64 1)))),
      .asg none 25 (.op1 .load1 (.op2 (.ixa 1) (.var 0) (.var 9))),
      .asg none 26 (.var 1),
      .eff none (some 27) (.call { callee := .value (.func 78), args := #[(.tmp 25), (.tmp 26)], argTypes := #[9, 9] }) 4]) <|
   .cond (.var 27)
    (.reg [.asg none 7 (.op2 (.ibin .add .i64) (.var 9) (.const (.int .i64 1)))])
    (.reg [.asg none 8 (.var 9)]))
noncomputable def ir50_l1 : IR :=
  .seq (.reg [.asg none 15 (.op2 (.ibin .lss .i64) (.var 7) (.var 8))]) <|
  .seq (.cond (.var 15)
    (.skip)
    (.exit 0))
  (ir50_k0)
noncomputable def ir50_k2 : IR :=
  .seq (.reg [.asg none 31 (.var 7),
     .asg none 35 (.op2 (.ibin .lss .i64) (.var 7) (.var 6)),
     .asg (some (35, true)) 42 (.op2 (.sbin .eql) (.op1 .load1 (.op2 (.ixa 1) (.var 0) (.var 7))) (.var 1)),
     .asg (some (42, false)) 46 (.op1 .load1 (.op2 (.ixa 1) (.var 0) (.var 7))),
     .eff (some (42, false)) (some 47) (.call { callee := .value (.func 79), args := #[(.tmp 46)], argTypes := #[9] }) 4,
     .asg (some (42, false)) 48 (.var 47),
     .asg (some (48, true)) 49 (.var 1),
     .eff (some (48, true)) (some 50) (.call { callee := .value (.func 79), args := #[(.tmp 49)], argTypes := #[9] }) 4,
     .asg (some (42, false)) 51 (.ite (.var 48) (.var 50) (.const (.bool false))),
     .asg none 53 (.ite (.var 35) (.ite (.var 42) (.const (.bool true)) (.var 51)) (.const (.bool false))),
     .asg none 4 (.var 31),
     .asg none 5 (.var 53)]) <|
  .ret
noncomputable def ir50 : IR :=
  .seq (.reg [.asg none 4 (.const (.int .i64 0)),
     .asg none 5 (.const (.bool false)),
     .asg none 6 (.op1 .lenS (.var 0)),
     .asg none 12 (.var 6),
     .asg none 7 (.const (.int .i64 0)),
     .asg none 8 (.var 12)]) <|
  .seq (.block 0 (.loop ir50_l1))
  (ir50_k2)
def ir50_V : List Nat := [0, 1, 4, 5, 6, 7, 8, 9, 12, 15, 25, 26, 27, 31, 35, 42, 46, 47, 48, 49, 50, 51, 53]
theorem ir50_ok : (comp Tryd.prog Tryd.f50.ntmps ir50_V [] (Tryd.f50.body.getD .skip)).map IR.norm = some ir50 := by kernel_rfl
theorem ir50_calls {v0 v1 : Value} {w : World} {R : Ending → World → Prop} (h : ∀ ρ : Env, ρ 0 = v0 → ρ 1 = v1 → ir50.wp ⟨Tryd.prog, 54, ir50_V, []⟩ (retK [.tmp 4, .tmp 5] R) (ksOf [.tmp 4, .tmp 5] R) ρ w) :
    Calls Tryd.prog 50 #[v0, v1] w R := by
  obtain ⟨ir0, h1, h2⟩ := Option.map_eq_some_iff.1 ir50_ok
  exact calls_ir (args := #[v0, v1]) Tryd.func50 (c := Tryd.f50.body.getD .skip) rfl h1 h2 (by kernel_rfl) (show rvsOf Tryd.prog ir50_V Tryd.f50.results.toList = some [.tmp 4, .tmp 5] by kernel_rfl) (Nat.le_of_ble_eq_true rfl) (h _ rfl rfl)

/-! ### 78: cmp.Less[string]  params #[9, 9] results #[4]  slots [(0, x), (1, y)] -/
noncomputable def ir78 : IR :=
  .seq (.reg [.asg none 4 (.const (.bool false)),
     .asg none 5 (.var 0),
     .eff none (some 6) (.call { callee := .value (.func 91), args := #[(.tmp 5)], argTypes := #[9] }) 4,
     .asg none 7 (.var 6),
     .asg (some (7, true)) 8 (.var 1),
     .eff (some (7, true)) (some 9) (.call { callee := .value (.func 91), args := #[(.tmp 8)], argTypes := #[9] }) 4,
     .asg none 4 (.ite (.ite (.var 7) (.op1 .not (.var 9)) (.const (.bool false))) (.const (.bool true)) (.op2 (.sbin .lss) (.var 0) (.var 1)))]) <|
  .ret
def ir78_V : List Nat := [0, 1, 4, 5, 6, 7, 8, 9]
theorem ir78_ok : (comp Tryd.prog Tryd.f78.ntmps ir78_V [] (Tryd.f78.body.getD .skip)).map IR.norm = some ir78 := by kernel_rfl
theorem ir78_calls {v0 v1 : Value} {w : World} {R : Ending → World → Prop} (h : ∀ ρ : Env, ρ 0 = v0 → ρ 1 = v1 → ir78.wp ⟨Tryd.prog, 17, ir78_V, []⟩ (retK [.tmp 4] R) (ksOf [.tmp 4] R) ρ w) :
    Calls Tryd.prog 78 #[v0, v1] w R := by
  obtain ⟨ir0, h1, h2⟩ := Option.map_eq_some_iff.1 ir78_ok
  exact calls_ir (args := #[v0, v1]) Tryd.func78 (c := Tryd.f78.body.getD .skip) rfl h1 h2 (by kernel_rfl) (show rvsOf Tryd.prog ir78_V Tryd.f78.results.toList = some [.tmp 4] by kernel_rfl) (Nat.le_of_ble_eq_true rfl) (h _ rfl rfl)

/-! ### 79: slices.isNaN[string]  params #[9] results #[4]  slots [(0, x)] -/
noncomputable def ir79 : IR :=
  .seq (.reg [.asg none 2 (.const (.bool false)),
     .asg none 2 (.op2 (.sbin .neq) (.var 0) (.var 0))]) <|
  .ret
def ir79_V : List Nat := [0, 2]
theorem ir79_ok : (comp Tryd.prog Tryd.f79.ntmps ir79_V [] (Tryd.f79.body.getD .skip)).map IR.norm = some ir79 := by kernel_rfl
theorem ir79_calls {v0 : Value} {w : World} {R : Ending → World → Prop} (h : ∀ ρ : Env, ρ 0 = v0 → ir79.wp ⟨Tryd.prog, 6, ir79_V, []⟩ (retK [.tmp 2] R) (ksOf [.tmp 2] R) ρ w) :
    Calls Tryd.prog 79 #[v0] w R := by
  obtain ⟨ir0, h1, h2⟩ := Option.map_eq_some_iff.1 ir79_ok
  exact calls_ir (args := #[v0]) Tryd.func79 (c := Tryd.f79.body.getD .skip) rfl h1 h2 (by kernel_rfl) (show rvsOf Tryd.prog ir79_V Tryd.f79.results.toList = some [.tmp 2] by kernel_rfl) (Nat.le_of_ble_eq_true rfl) (h _ rfl)

/-! ### 91: cmp.isNaN[string]  params #[9] results #[4]  slots [(0, x)] -/
noncomputable def ir91 : IR :=
  .seq (.reg [.asg none 2 (.const (.bool false)),
     .asg none 2 (.op2 (.sbin .neq) (.var 0) (.var 0))]) <|
  .ret
def ir91_V : List Nat := [0, 2]
theorem ir91_ok : (comp Tryd.prog Tryd.f91.ntmps ir91_V [] (Tryd.f91.body.getD .skip)).map IR.norm = some ir91 := by kernel_rfl
theorem ir91_calls {v0 : Value} {w : World} {R : Ending → World → Prop} (h : ∀ ρ : Env, ρ 0 = v0 → ir91.wp ⟨Tryd.prog, 6, ir91_V, []⟩ (retK [.tmp 2] R) (ksOf [.tmp 2] R) ρ w) :
    Calls Tryd.prog 91 #[v0] w R := by
  obtain ⟨ir0, h1, h2⟩ := Option.map_eq_some_iff.1 ir91_ok
  exact calls_ir (args := #[v0]) Tryd.func91 (c := Tryd.f91.body.getD .skip) rfl h1 h2 (by kernel_rfl) (show rvsOf Tryd.prog ir91_V Tryd.f91.results.toList = some [.tmp 2] by kernel_rfl) (Nat.le_of_ble_eq_true rfl) (h _ rfl)

/-! ### 52: slices.Clone[[]byte,byte]  params #[24] results #[24]  slots [(0, s)] -/
noncomputable def ir52_k0 : IR :=
  .seq (.reg [.eff none (some 5) (.buildSlice 24 0 #[]) 24,
     .asg none 6 (.var 0),
     .eff none (some 7) (.call { callee := .builtin .append, args := #[(.tmp 5), (.tmp 6)], argTypes := #[24, 24] }) 24,
     .asg none 2 (.var 7)]) <|
  .ret
noncomputable def ir52 : IR :=
  .seq (.reg [.asg none 2 (.const (.slice none 0 0)),
     .asg none 3 (.var 0),
     .eff none (some 4) (.binOp .eql 24 (.tmp 3) (.const (.slice none 0 0)) 24) 4]) <|
  .seq (.cond (.var 4)
    (.seq (.reg [.asg none 2 (.const (.slice none 0 0))]) <|
     .ret)
    (.skip))
  (ir52_k0)
def ir52_V : List Nat := [0, 2, 3, 4, 5, 6, 7]
theorem ir52_ok : (comp Tryd.prog Tryd.f52.ntmps ir52_V [] (Tryd.f52.body.getD .skip)).map IR.norm = some ir52 := by kernel_rfl
theorem ir52_calls {v0 : Value} {w : World} {R : Ending → World → Prop} (h : ∀ ρ : Env, ρ 0 = v0 → ir52.wp ⟨Tryd.prog, 8, ir52_V, []⟩ (retK [.tmp 2] R) (ksOf [.tmp 2] R) ρ w) :
    Calls Tryd.prog 52 #[v0] w R := by
  obtain ⟨ir0, h1, h2⟩ := Option.map_eq_some_iff.1 ir52_ok
  exact calls_ir (args := #[v0]) Tryd.func52 (c := Tryd.f52.body.getD .skip) rfl h1 h2 (by kernel_rfl) (show rvsOf Tryd.prog ir52_V Tryd.f52.results.toList = some [.tmp 2] by kernel_rfl) (Nat.le_of_ble_eq_true rfl) (h _ rfl)

/-! ### 70: slices.Clone[[]argus/api.Reloc,argus/api.Reloc]  params #[43] results #[43]  slots [(0, s)] -/
noncomputable def ir70_k0 : IR :=
  .seq (.reg [.eff none (some 5) (.buildSlice 43 0 #[]) 43,
     .asg none 6 (.var 0),
     .eff none (some 7) (.call { callee := .builtin .append, args := #[(.tmp 5), (.tmp 6)], argTypes := #[43, 43] }) 43,
     .asg none 2 (.var 7)]) <|
  .ret
noncomputable def ir70 : IR :=
  .seq (.reg [.asg none 2 (.const (.slice none 0 0)),
     .asg none 3 (.var 0),
     .eff none (some 4) (.binOp .eql 43 (.tmp 3) (.const (.slice none 0 0)) 43) 4]) <|
  .seq (.cond (.var 4)
    (.seq (.reg [.asg none 2 (.const (.slice none 0 0))]) <|
     .ret)
    (.skip))
  (ir70_k0)
def ir70_V : List Nat := [0, 2, 3, 4, 5, 6, 7]
theorem ir70_ok : (comp Tryd.prog Tryd.f70.ntmps ir70_V [] (Tryd.f70.body.getD .skip)).map IR.norm = some ir70 := by kernel_rfl
theorem ir70_calls {v0 : Value} {w : World} {R : Ending → World → Prop} (h : ∀ ρ : Env, ρ 0 = v0 → ir70.wp ⟨Tryd.prog, 8, ir70_V, []⟩ (retK [.tmp 2] R) (ksOf [.tmp 2] R) ρ w) :
    Calls Tryd.prog 70 #[v0] w R := by
  obtain ⟨ir0, h1, h2⟩ := Option.map_eq_some_iff.1 ir70_ok
  exact calls_ir (args := #[v0]) Tryd.func70 (c := Tryd.f70.body.getD .skip) rfl h1 h2 (by kernel_rfl) (show rvsOf Tryd.prog ir70_V Tryd.f70.results.toList = some [.tmp 2] by kernel_rfl) (Nat.le_of_ble_eq_true rfl) (h _ rfl)

/-! ### 75: slices.Equal[[]string,string]  params #[22, 22] results #[4]  slots [(0, s1), (1, s2), (5, i)] -/
noncomputable def ir75_k0 : IR :=
  .cond (.var 24)
   (.seq (.reg [.asg none 4 (.const (.bool false))]) <|
    .ret)
   (.skip)
noncomputable def ir75_k1 : IR :=
  .reg [.asg none 13 (.op2 (.ibin .add .i64) (.var 13) (.const (.int .i64 1)))]
noncomputable def ir75_k2 : IR :=
  .seq (.block 1 (.seq (.reg [.asg none 5 (.var 13)]) <|
    .seq (.drw [.asg none 24 (.op2 (.sbin .neq) (.op1 .load1 (.op2 (.ixa 1) (.var 0) (.var 5))) (.op1 .load1 (.op2 (.ixa 1) (.var 1) (.var 5))))])
    (ir75_k0)))
  (ir75_k1)
noncomputable def ir75_l3 : IR :=
  .seq (.reg [.asg none 14 (.op2 (.ibin .lss .i64) (.var 13) (.var 12))]) <|
  .seq (.cond (.var 14)
    (.skip)
    (.exit 0))
  (ir75_k2)
noncomputable def ir75_k4 : IR :=
  .seq (.reg [.asg none 4 (.const (.bool true))]) <|
  .ret
noncomputable def ir75_k5 : IR :=
  .seq (.reg [.asg none 12 (.op1 .lenS (.var 0)),
     .asg none 13 (.const (.int .i64 0))]) <|
  .seq (.block 0 (.loop ir75_l3))
  (ir75_k4)
noncomputable def ir75 : IR :=
  .seq (.reg [.asg none 4 (.const (.bool false)),
     .asg none 10 (.op2 (.ibin .neq .i64) (.op1 .lenS (.var 0)) (.op1 .lenS (.var 1)))]) <|
  .seq (.cond (.var 10)
    (.seq (.reg [.asg none 4 (.const (.bool false))]) <|
     .ret)
    (.skip))
  (ir75_k5)
def ir75_V : List Nat := [0, 1, 4, 5, 10, 12, 13, 14, 24]
theorem ir75_ok : (comp Tryd.prog Tryd.f75.ntmps ir75_V [] (Tryd.f75.body.getD .skip)).map IR.norm = some ir75 := by kernel_rfl
theorem ir75_calls {v0 v1 : Value} {w : World} {R : Ending → World → Prop} (h : ∀ ρ : Env, ρ 0 = v0 → ρ 1 = v1 → ir75.wp ⟨Tryd.prog, 26, ir75_V, []⟩ (retK [.tmp 4] R) (ksOf [.tmp 4] R) ρ w) :
    Calls Tryd.prog 75 #[v0, v1] w R := by
  obtain ⟨ir0, h1, h2⟩ := Option.map_eq_some_iff.1 ir75_ok
  exact calls_ir (args := #[v0, v1]) Tryd.func75 (c := Tryd.f75.body.getD .skip) rfl h1 h2 (by kernel_rfl) (show rvsOf Tryd.prog ir75_V Tryd.f75.results.toList = some [.tmp 4] by kernel_rfl) (Nat.le_of_ble_eq_true rfl) (h _ rfl rfl)

/-! ### 76: slices.Equal[[]int,int]  params #[23, 23] results #[4]  slots [(0, s1), (1, s2), (5, i)] -/
noncomputable def ir76_k0 : IR :=
  .cond (.var 24)
   (.seq (.reg [.asg none 4 (.const (.bool false))]) <|
    .ret)
   (.skip)
noncomputable def ir76_k1 : IR :=
  .reg [.asg none 13 (.op2 (.ibin .add .i64) (.var 13) (.const (.int .i64 1)))]
noncomputable def ir76_k2 : IR :=
  .seq (.block 1 (.seq (.reg [.asg none 5 (.var 13)]) <|
    .seq (.drw [.asg none 24 (.op2 (.ibin .neq .i64) (.op1 .load1 (.op2 (.ixa 1) (.var 0) (.var 5))) (.op1 .load1 (.op2 (.ixa 1) (.var 1) (.var 5))))])
    (ir76_k0)))
  (ir76_k1)
noncomputable def ir76_l3 : IR :=
  .seq (.reg [.asg none 14 (.op2 (.ibin .lss .i64) (.var 13) (.var 12))]) <|
  .seq (.cond (.var 14)
    (.skip)
    (.exit 0))
  (ir76_k2)
noncomputable def ir76_k4 : IR :=
  .seq (.reg [.asg none 4 (.const (.bool true))]) <|
  .ret
noncomputable def ir76_k5 : IR :=
  .seq (.reg [.asg none 12 (.op1 .lenS (.var 0)),
     .asg none 13 (.const (.int .i64 0))]) <|
  .seq (.block 0 (.loop ir76_l3))
  (ir76_k4)
noncomputable def ir76 : IR :=
  .seq (.reg [.asg none 4 (.const (.bool false)),
     .asg none 10 (.op2 (.ibin .neq .i64) (.op1 .lenS (.var 0)) (.op1 .lenS (.var 1)))]) <|
  .seq (.cond (.var 10)
    (.seq (.reg [.asg none 4 (.const (.bool false))]) <|
     .ret)
    (.skip))
  (ir76_k5)
def ir76_V : List Nat := [0, 1, 4, 5, 10, 12, 13, 14, 24]
theorem ir76_ok : (comp Tryd.prog Tryd.f76.ntmps ir76_V [] (Tryd.f76.body.getD .skip)).map IR.norm = some ir76 := by kernel_rfl
theorem ir76_calls {v0 v1 : Value} {w : World} {R : Ending → World → Prop} (h : ∀ ρ : Env, ρ 0 = v0 → ρ 1 = v1 → ir76.wp ⟨Tryd.prog, 26, ir76_V, []⟩ (retK [.tmp 4] R) (ksOf [.tmp 4] R) ρ w) :
    Calls Tryd.prog 76 #[v0, v1] w R := by
  obtain ⟨ir0, h1, h2⟩ := Option.map_eq_some_iff.1 ir76_ok
  exact calls_ir (args := #[v0, v1]) Tryd.func76 (c := Tryd.f76.body.getD .skip) rfl h1 h2 (by kernel_rfl) (show rvsOf Tryd.prog ir76_V Tryd.f76.results.toList = some [.tmp 4] by kernel_rfl) (Nat.le_of_ble_eq_true rfl) (h _ rfl rfl)

/-! ### 77: bytes.Equal  params #[24, 24] results #[4]  slots [(0, a), (1, b)] -/
noncomputable def ir77 : IR :=
  .seq (.reg [.asg none 4 (.const (.bool false)),
     .asg none 4 (.op2 (.sbin .eql) (.op1 .b2s (.var 0)) (.op1 .b2s (.var 1)))]) <|
  .ret
def ir77_V : List Nat := [0, 1, 4]
theorem ir77_ok : (comp Tryd.prog Tryd.f77.ntmps ir77_V [] (Tryd.f77.body.getD .skip)).map IR.norm = some ir77 := by kernel_rfl
theorem ir77_calls {v0 v1 : Value} {w : World} {R : Ending → World → Prop} (h : ∀ ρ : Env, ρ 0 = v0 → ρ 1 = v1 → ir77.wp ⟨Tryd.prog, 10, ir77_V, []⟩ (retK [.tmp 4] R) (ksOf [.tmp 4] R) ρ w) :
    Calls Tryd.prog 77 #[v0, v1] w R := by
  obtain ⟨ir0, h1, h2⟩ := Option.map_eq_some_iff.1 ir77_ok
  exact calls_ir (args := #[v0, v1]) Tryd.func77 (c := Tryd.f77.body.getD .skip) rfl h1 h2 (by kernel_rfl) (show rvsOf Tryd.prog ir77_V Tryd.f77.results.toList = some [.tmp 4] by kernel_rfl) (Nat.le_of_ble_eq_true rfl) (h _ rfl rfl)

/-! ### 80: slices.ContainsFunc[[]byte,byte]  params #[24, 122] results #[4]  slots [(0, s), (1, f)] -/
noncomputable def ir80 : IR :=
  .seq (.reg [.asg none 4 (.const (.bool false)),
     .asg none 5 (.var 0),
     .asg none 6 (.var 1),
     .eff none (some 7) (.call { callee := .value (.func 92), args := #[(.tmp 5), (.tmp 6)], argTypes := #[24, 122] }) 3,
     .asg none 4 (.op2 (.ibin .geq .i64) (.var 7) (.const (.int .i64 0)))]) <|
  .ret
def ir80_V : List Nat := [0, 1, 4, 5, 6, 7]
theorem ir80_ok : (comp Tryd.prog Tryd.f80.ntmps ir80_V [] (Tryd.f80.body.getD .skip)).map IR.norm = some ir80 := by kernel_rfl
theorem ir80_calls {v0 v1 : Value} {w : World} {R : Ending → World → Prop} (h : ∀ ρ : Env, ρ 0 = v0 → ρ 1 = v1 → ir80.wp ⟨Tryd.prog, 9, ir80_V, []⟩ (retK [.tmp 4] R) (ksOf [.tmp 4] R) ρ w) :
    Calls Tryd.prog 80 #[v0, v1] w R := by
  obtain ⟨ir0, h1, h2⟩ := Option.map_eq_some_iff.1 ir80_ok
  exact calls_ir (args := #[v0, v1]) Tryd.func80 (c := Tryd.f80.body.getD .skip) rfl h1 h2 (by kernel_rfl) (show rvsOf Tryd.prog ir80_V Tryd.f80.results.toList = some [.tmp 4] by kernel_rfl) (Nat.le_of_ble_eq_true rfl) (h _ rfl rfl)

/-! ### 81: argus/link.isName$1  params #[5] results #[4]  slots [(0, c)] -/
noncomputable def ir81 : IR :=
  .seq (.reg [.asg none 2 (.const (.bool false)),
     .asg none 2 (.ite (.op2 (.ibin .lss .u8) (.var 0) (.const (.int .u8 33))) (.const (.bool true)) (.op2 (.ibin .gtr .u8) (.var 0) (.const (.int .u8 126))))]) <|
  .ret
def ir81_V : List Nat := [0, 2]
theorem ir81_ok : (comp Tryd.prog Tryd.f81.ntmps ir81_V [] (Tryd.f81.body.getD .skip)).map IR.norm = some ir81 := by kernel_rfl
theorem ir81_calls {v0 : Value} {w : World} {R : Ending → World → Prop} (h : ∀ ρ : Env, ρ 0 = v0 → ir81.wp ⟨Tryd.prog, 9, ir81_V, []⟩ (retK [.tmp 2] R) (ksOf [.tmp 2] R) ρ w) :
    Calls Tryd.prog 81 #[v0] w R := by
  obtain ⟨ir0, h1, h2⟩ := Option.map_eq_some_iff.1 ir81_ok
  exact calls_ir (args := #[v0]) Tryd.func81 (c := Tryd.f81.body.getD .skip) rfl h1 h2 (by kernel_rfl) (show rvsOf Tryd.prog ir81_V Tryd.f81.results.toList = some [.tmp 2] by kernel_rfl) (Nat.le_of_ble_eq_true rfl) (h _ rfl)

/-! ### 92: slices.IndexFunc[[]byte,byte]  params #[24, 122] results #[3]  slots [(0, s), (1, f), (5, i)] -/
noncomputable def ir92_k0 : IR :=
  .reg [.asg none 8 (.op2 (.ibin .add .i64) (.var 8) (.const (.int .i64 1)))]
noncomputable def ir92_k1 : IR :=
  .seq (.block 1 (.seq (.reg [.asg none 5 (.var 8),
       .asg none 11 (.var 1),
       .asg none 15 (.op1 .load1 (.op2 (.ixa 1) (.var 0) (.var 5))),
       .eff none (some 16) (.call { callee := .value (.tmp 11), args := #[(.tmp 15)], argTypes := #[5] }) 4]) <|
    .cond (.var 16)
     (.seq (.reg [.asg none 4 (.var 5)]) <|
      .ret)
     (.skip)))
  (ir92_k0)
noncomputable def ir92_l2 : IR :=
  .seq (.reg [.asg none 9 (.op2 (.ibin .lss .i64) (.var 8) (.var 7))]) <|
  .seq (.cond (.var 9)
    (.skip)
    (.exit 0))
  (ir92_k1)
noncomputable def ir92_k3 : IR :=
  .seq (.reg [.asg none 4 (.const (.int .i64 (-1)))]) <|
  .ret
noncomputable def ir92 : IR :=
  .seq (.reg [.asg none 4 (.const (.int .i64 0)),
     .asg none 7 (.op1 .lenS (.var 0)),
     .asg none 8 (.const (.int .i64 0))]) <|
  .seq (.block 0 (.loop ir92_l2))
  (ir92_k3)
def ir92_V : List Nat := [0, 1, 4, 5, 7, 8, 9, 11, 15, 16]
theorem ir92_ok : (comp Tryd.prog Tryd.f92.ntmps ir92_V [] (Tryd.f92.body.getD .skip)).map IR.norm = some ir92 := by kernel_rfl
theorem ir92_calls {v0 v1 : Value} {w : World} {R : Ending → World → Prop} (h : ∀ ρ : Env, ρ 0 = v0 → ρ 1 = v1 → ir92.wp ⟨Tryd.prog, 19, ir92_V, []⟩ (retK [.tmp 4] R) (ksOf [.tmp 4] R) ρ w) :
    Calls Tryd.prog 92 #[v0, v1] w R := by
  obtain ⟨ir0, h1, h2⟩ := Option.map_eq_some_iff.1 ir92_ok
  exact calls_ir (args := #[v0, v1]) Tryd.func92 (c := Tryd.f92.body.getD .skip) rfl h1 h2 (by kernel_rfl) (show rvsOf Tryd.prog ir92_V Tryd.f92.results.toList = some [.tmp 4] by kernel_rfl) (Nat.le_of_ble_eq_true rfl) (h _ rfl rfl)

/-! ### 98: slices.ContainsFunc[[]argus/api.Reloc,argus/api.Reloc]  params #[43, 135] results #[4]  slots [(0, s), (1, f)] -/
noncomputable def ir98 : IR :=
  .seq (.reg [.asg none 4 (.const (.bool false)),
     .asg none 5 (.var 0),
     .asg none 6 (.var 1),
     .eff none (some 7) (.call { callee := .value (.func 112), args := #[(.tmp 5), (.tmp 6)], argTypes := #[43, 135] }) 3,
     .asg none 4 (.op2 (.ibin .geq .i64) (.var 7) (.const (.int .i64 0)))]) <|
  .ret
def ir98_V : List Nat := [0, 1, 4, 5, 6, 7]
theorem ir98_ok : (comp Tryd.prog Tryd.f98.ntmps ir98_V [] (Tryd.f98.body.getD .skip)).map IR.norm = some ir98 := by kernel_rfl
theorem ir98_calls {v0 v1 : Value} {w : World} {R : Ending → World → Prop} (h : ∀ ρ : Env, ρ 0 = v0 → ρ 1 = v1 → ir98.wp ⟨Tryd.prog, 9, ir98_V, []⟩ (retK [.tmp 4] R) (ksOf [.tmp 4] R) ρ w) :
    Calls Tryd.prog 98 #[v0, v1] w R := by
  obtain ⟨ir0, h1, h2⟩ := Option.map_eq_some_iff.1 ir98_ok
  exact calls_ir (args := #[v0, v1]) Tryd.func98 (c := Tryd.f98.body.getD .skip) rfl h1 h2 (by kernel_rfl) (show rvsOf Tryd.prog ir98_V Tryd.f98.results.toList = some [.tmp 4] by kernel_rfl) (Nat.le_of_ble_eq_true rfl) (h _ rfl rfl)

/-! ### 99: (argus/link.checked).named$1  params #[54] results #[4]  slots [(0, r), (1, r)] -/
noncomputable def ir99 : IR :=
  .seq (.reg [.eff none (some 1) (.box 54 (.tmp 0)) 0,
     .asg none 2 (.const (.bool false)),
     .asg none 4 (.op1 .load1 (.op1 (.fadr 1) (.var 1))),
     .eff none (some 5) (.call { callee := .value (.func 53), args := #[(.tmp 4)], argTypes := #[9] }) 4,
     .asg none 2 (.op1 .not (.var 5))]) <|
  .ret
def ir99_V : List Nat := [0, 1, 2, 4, 5]
theorem ir99_ok : (comp Tryd.prog Tryd.f99.ntmps ir99_V [] (Tryd.f99.body.getD .skip)).map IR.norm = some ir99 := by kernel_rfl
theorem ir99_calls {v0 : Value} {w : World} {R : Ending → World → Prop} (h : ∀ ρ : Env, ρ 0 = v0 → ir99.wp ⟨Tryd.prog, 7, ir99_V, []⟩ (retK [.tmp 2] R) (ksOf [.tmp 2] R) ρ w) :
    Calls Tryd.prog 99 #[v0] w R := by
  obtain ⟨ir0, h1, h2⟩ := Option.map_eq_some_iff.1 ir99_ok
  exact calls_ir (args := #[v0]) Tryd.func99 (c := Tryd.f99.body.getD .skip) rfl h1 h2 (by kernel_rfl) (show rvsOf Tryd.prog ir99_V Tryd.f99.results.toList = some [.tmp 2] by kernel_rfl) (Nat.le_of_ble_eq_true rfl) (h _ rfl)

/-! ### 100: (argus/link.checked).empty$1  params #[54] results #[4]  slots [(0, r), (2, r)] -/
noncomputable def ir100 : IR :=
  .seq (.reg [.eff none (some 2) (.box 54 (.tmp 0)) 0,
     .asg none 3 (.const (.bool false)),
     .asg none 3 (.ite (.op2 (.ibin .neq .u8) (.op1 .load1 (.op2 (.ixa 1) (.op1 .load1 (.op1 (.fadr 1) (.op1 (.fadr 0) (.var 1)))) (.op1 .load1 (.op1 (.fadr 0) (.var 2))))) (.const (.int .u8 0))) (.const (.bool true)) (.op2 (.ibin .neq .u8) (.op1 .load1 (.op2 (.ixa 1) (.op1 .load1 (.op1 (.fadr 1) (.op1 (.fadr 0) (.var 1)))) (.op2 (.ibin .add .i64) (.op1 .load1 (.op1 (.fadr 0) (.var 2))) (.const (.int .i64 1))))) (.const (.int .u8 0))))]) <|
  .ret
def ir100_V : List Nat := [0, 1, 2, 3]
theorem ir100_ok : (comp Tryd.prog Tryd.f100.ntmps ir100_V [] (Tryd.f100.body.getD .skip)).map IR.norm = some ir100 := by kernel_rfl
theorem ir100_calls {v0 : Value} {w : World} {R : Ending → World → Prop} (h : ∀ ρ : Env, ρ 0 = v0 → ir100.wp ⟨Tryd.prog, 23, ir100_V, []⟩ (retK [.tmp 3] R) (ksOf [.tmp 3] R) ρ w) :
    Calls Tryd.prog 100 #[v0] w R := by
  obtain ⟨ir0, h1, h2⟩ := Option.map_eq_some_iff.1 ir100_ok
  exact calls_ir (args := #[v0]) Tryd.func100 (c := Tryd.f100.body.getD .skip) rfl h1 h2 (by kernel_rfl) (show rvsOf Tryd.prog ir100_V Tryd.f100.results.toList = some [.tmp 3] by kernel_rfl) (Nat.le_of_ble_eq_true rfl) (h _ rfl)

/-! ### 112: slices.IndexFunc[[]argus/api.Reloc,argus/api.Reloc]  params #[43, 135] results #[3]  slots [(0, s), (1, f), (5, i)] -/
noncomputable def ir112_k0 : IR :=
  .reg [.asg none 8 (.op2 (.ibin .add .i64) (.var 8) (.const (.int .i64 1)))]
noncomputable def ir112_k1 : IR :=
  .seq (.block 1 (.seq (.reg [.asg none 5 (.var 8),
       .asg none 11 (.var 1),
       .asg none 15 (.op1 (.loadN 2) (.op2 (.ixa 2) (.var 0) (.var 5))),
       .eff none (some 16) (.call { callee := .value (.tmp 11), args := #[(.tmp 15)], argTypes := #[54] }) 4]) <|
    .cond (.var 16)
     (.seq (.reg [.asg none 4 (.var 5)]) <|
      .ret)
     (.skip)))
  (ir112_k0)
noncomputable def ir112_l2 : IR :=
  .seq (.reg [.asg none 9 (.op2 (.ibin .lss .i64) (.var 8) (.var 7))]) <|
  .seq (.cond (.var 9)
    (.skip)
    (.exit 0))
  (ir112_k1)
noncomputable def ir112_k3 : IR :=
  .seq (.reg [.asg none 4 (.const (.int .i64 (-1)))]) <|
  .ret
noncomputable def ir112 : IR :=
  .seq (.reg [.asg none 4 (.const (.int .i64 0)),
     .asg none 7 (.op1 .lenS (.var 0)),
     .asg none 8 (.const (.int .i64 0))]) <|
  .seq (.block 0 (.loop ir112_l2))
  (ir112_k3)
def ir112_V : List Nat := [0, 1, 4, 5, 7, 8, 9, 11, 15, 16]
theorem ir112_ok : (comp Tryd.prog Tryd.f112.ntmps ir112_V [] (Tryd.f112.body.getD .skip)).map IR.norm = some ir112 := by kernel_rfl
theorem ir112_calls {v0 v1 : Value} {w : World} {R : Ending → World → Prop} (h : ∀ ρ : Env, ρ 0 = v0 → ρ 1 = v1 → ir112.wp ⟨Tryd.prog, 19, ir112_V, []⟩ (retK [.tmp 4] R) (ksOf [.tmp 4] R) ρ w) :
    Calls Tryd.prog 112 #[v0, v1] w R := by
  obtain ⟨ir0, h1, h2⟩ := Option.map_eq_some_iff.1 ir112_ok
  exact calls_ir (args := #[v0, v1]) Tryd.func112 (c := Tryd.f112.body.getD .skip) rfl h1 h2 (by kernel_rfl) (show rvsOf Tryd.prog ir112_V Tryd.f112.results.toList = some [.tmp 4] by kernel_rfl) (Nat.le_of_ble_eq_true rfl) (h _ rfl rfl)

/-! ### 55: (*bytes.Buffer).WriteByte  params #[123, 5] results #[85]  slots [(0, b), (1, c), (5, m), (6, ok)] -/
noncomputable def ir55_k0 : IR :=
  .seq (.reg [.asg none 22 (.op1 .load1 (.op1 (.fadr 0) (.op1 .nilc (.var 0)))),
     .asg none 23 (.var 5),
     .asg none 24 (.var 1),
     .asg none 25 (.op2 (.ixa 1) (.var 22) (.var 23)),
     .eff none none (.store 5 (.tmp 25) (.tmp 24)) 0,
     .asg none 4 (.const .nilIface)]) <|
  .ret
noncomputable def ir55 : IR :=
  .seq (.reg [.asg none 4 (.const .nilIface),
     .asg none 9 (.op1 (.fadr 2) (.op1 .nilc (.var 0))),
     .eff none none (.store 79 (.tmp 9) (.const (.int .i8 0))) 0,
     .asg none 11 (.var 0),
     .eff none (some 12) (.call { callee := .value (.func 82), args := #[(.tmp 11), (.const (.int .i64 1))], argTypes := #[123, 3] }) 73,
     .asg none 10 (.var 12),
     .asg none 13 (.op1 (.ext 0) (.var 10)),
     .asg none 14 (.op1 (.ext 1) (.var 10)),
     .asg none 5 (.var 13),
     .asg none 6 (.var 14),
     .asg none 16 (.op1 .not (.var 6))]) <|
  .seq (.cond (.var 16)
    (.reg [.asg none 17 (.var 0),
       .eff none (some 18) (.call { callee := .value (.func 83), args := #[(.tmp 17), (.const (.int .i64 1))], argTypes := #[123, 3] }) 3,
       .asg none 5 (.var 18)])
    (.skip))
  (ir55_k0)
def ir55_V : List Nat := [0, 1, 4, 5, 6, 9, 10, 11, 12, 13, 14, 16, 17, 18, 22, 23, 24, 25]
theorem ir55_ok : (comp Tryd.prog Tryd.f55.ntmps ir55_V [] (Tryd.f55.body.getD .skip)).map IR.norm = some ir55 := by kernel_rfl
theorem ir55_calls {v0 v1 : Value} {w : World} {R : Ending → World → Prop} (h : ∀ ρ : Env, ρ 0 = v0 → ρ 1 = v1 → ir55.wp ⟨Tryd.prog, 26, ir55_V, []⟩ (retK [.tmp 4] R) (ksOf [.tmp 4] R) ρ w) :
    Calls Tryd.prog 55 #[v0, v1] w R := by
  obtain ⟨ir0, h1, h2⟩ := Option.map_eq_some_iff.1 ir55_ok
  exact calls_ir (args := #[v0, v1]) Tryd.func55 (c := Tryd.f55.body.getD .skip) rfl h1 h2 (by kernel_rfl) (show rvsOf Tryd.prog ir55_V Tryd.f55.results.toList = some [.tmp 4] by kernel_rfl) (Nat.le_of_ble_eq_true rfl) (h _ rfl rfl)

/-! ### 56: (*bytes.Buffer).WriteString  params #[123, 9] results #[3, 85]  slots [(0, b), (1, s), (4, n), (5, err), (6, m), (7, ok)] -/
noncomputable def ir56_k0 : IR :=
  .seq (.reg [.asg none 29 (.op2 (.slLo 1) (.op1 .load1 (.op1 (.fadr 0) (.op1 .nilc (.var 0)))) (.var 6)),
     .asg none 30 (.var 1),
     .eff none (some 31) (.call { callee := .builtin .copy, args := #[(.tmp 29), (.tmp 30)], argTypes := #[24, 9] }) 3,
     .asg none 4 (.var 31),
     .asg none 5 (.const .nilIface)]) <|
  .ret
noncomputable def ir56 : IR :=
  .seq (.reg [.asg none 4 (.const (.int .i64 0)),
     .asg none 5 (.const .nilIface),
     .asg none 10 (.op1 (.fadr 2) (.op1 .nilc (.var 0))),
     .eff none none (.store 79 (.tmp 10) (.const (.int .i8 0))) 0,
     .asg none 12 (.var 0),
     .asg none 14 (.op1 .lenT (.var 1)),
     .eff none (some 15) (.call { callee := .value (.func 82), args := #[(.tmp 12), (.tmp 14)], argTypes := #[123, 3] }) 73,
     .asg none 11 (.var 15),
     .asg none 16 (.op1 (.ext 0) (.var 11)),
     .asg none 17 (.op1 (.ext 1) (.var 11)),
     .asg none 6 (.var 16),
     .asg none 7 (.var 17),
     .asg none 19 (.op1 .not (.var 7))]) <|
  .seq (.cond (.var 19)
    (.reg [.asg none 20 (.var 0),
       .asg none 22 (.op1 .lenT (.var 1)),
       .eff none (some 23) (.call { callee := .value (.func 83), args := #[(.tmp 20), (.tmp 22)], argTypes := #[123, 3] }) 3,
       .asg none 6 (.var 23)])
    (.skip))
  (ir56_k0)
def ir56_V : List Nat := [0, 1, 4, 5, 6, 7, 10, 11, 12, 14, 15, 16, 17, 19, 20, 22, 23, 29, 30, 31]
theorem ir56_ok : (comp Tryd.prog Tryd.f56.ntmps ir56_V [] (Tryd.f56.body.getD .skip)).map IR.norm = some ir56 := by kernel_rfl
theorem ir56_calls {v0 v1 : Value} {w : World} {R : Ending → World → Prop} (h : ∀ ρ : Env, ρ 0 = v0 → ρ 1 = v1 → ir56.wp ⟨Tryd.prog, 32, ir56_V, []⟩ (retK [.tmp 4, .tmp 5] R) (ksOf [.tmp 4, .tmp 5] R) ρ w) :
    Calls Tryd.prog 56 #[v0, v1] w R := by
  obtain ⟨ir0, h1, h2⟩ := Option.map_eq_some_iff.1 ir56_ok
  exact calls_ir (args := #[v0, v1]) Tryd.func56 (c := Tryd.f56.body.getD .skip) rfl h1 h2 (by kernel_rfl) (show rvsOf Tryd.prog ir56_V Tryd.f56.results.toList = some [.tmp 4, .tmp 5] by kernel_rfl) (Nat.le_of_ble_eq_true rfl) (h _ rfl rfl)

/-! ### 57: (*argus/link.buffer).word  params #[126, 3] results #[]  slots [(0, b), (1, n)] -/
noncomputable def ir57 : IR :=
  .reg [.asg none 6 (.op1 (.fadr 0) (.op1 .nilc (.var 0))),
    .asg none 9 (.op1 (.conv .u8) (.op2 (.shf .shr) (.var 1) (.const (.int .u64 24)))),
    .asg none 12 (.op1 (.conv .u8) (.op2 (.shf .shr) (.var 1) (.const (.int .u64 16)))),
    .asg none 15 (.op1 (.conv .u8) (.op2 (.shf .shr) (.var 1) (.const (.int .u64 8)))),
    .asg none 17 (.op1 (.conv .u8) (.var 1)),
    .eff none (some 18) (.buildSlice 24 4 #[(0, (.tmp 9)), (1, (.tmp 12)), (2, (.tmp 15)), (3, (.tmp 17))]) 24,
    .eff none (some 19) (.call { callee := .value (.func 58), args := #[(.tmp 6), (.tmp 18)], argTypes := #[81, 24] }) 87]
def ir57_V : List Nat := [0, 1, 6, 9, 12, 15, 17, 18, 19]
theorem ir57_ok : (comp Tryd.prog Tryd.f57.ntmps ir57_V [] (Tryd.f57.body.getD .skip)).map IR.norm = some ir57 := by kernel_rfl
theorem ir57_calls {v0 v1 : Value} {w : World} {R : Ending → World → Prop} (h : ∀ ρ : Env, ρ 0 = v0 → ρ 1 = v1 → ir57.wp ⟨Tryd.prog, 20, ir57_V, []⟩ (retK [] R) (ksOf [] R) ρ w) :
    Calls Tryd.prog 57 #[v0, v1] w R := by
  obtain ⟨ir0, h1, h2⟩ := Option.map_eq_some_iff.1 ir57_ok
  exact calls_ir (args := #[v0, v1]) Tryd.func57 (c := Tryd.f57.body.getD .skip) rfl h1 h2 (by kernel_rfl) (show rvsOf Tryd.prog ir57_V Tryd.f57.results.toList = some [] by kernel_rfl) (Nat.le_of_ble_eq_true rfl) (h _ rfl rfl)

/-! ### 58: (*bytes.Buffer).Write  params #[123, 24] results #[3, 85]  slots [(0, b), (1, p), (4, n), (5, err), (6, m), (7, ok)] -/
noncomputable def ir58_k0 : IR :=
  .seq (.reg [.asg none 29 (.op2 (.slLo 1) (.op1 .load1 (.op1 (.fadr 0) (.op1 .nilc (.var 0)))) (.var 6)),
     .asg none 30 (.var 1),
     .eff none (some 31) (.call { callee := .builtin .copy, args := #[(.tmp 29), (.tmp 30)], argTypes := #[24, 24] }) 3,
     .asg none 4 (.var 31),
     .asg none 5 (.const .nilIface)]) <|
  .ret
noncomputable def ir58 : IR :=
  .seq (.reg [.asg none 4 (.const (.int .i64 0)),
     .asg none 5 (.const .nilIface),
     .asg none 10 (.op1 (.fadr 2) (.op1 .nilc (.var 0))),
     .eff none none (.store 79 (.tmp 10) (.const (.int .i8 0))) 0,
     .asg none 12 (.var 0),
     .asg none 14 (.op1 .lenS (.var 1)),
     .eff none (some 15) (.call { callee := .value (.func 82), args := #[(.tmp 12), (.tmp 14)], argTypes := #[123, 3] }) 73,
     .asg none 11 (.var 15),
     .asg none 16 (.op1 (.ext 0) (.var 11)),
     .asg none 17 (.op1 (.ext 1) (.var 11)),
     .asg none 6 (.var 16),
     .asg none 7 (.var 17),
     .asg none 19 (.op1 .not (.var 7))]) <|
  .seq (.cond (.var 19)
    (.reg [.asg none 20 (.var 0),
       .asg none 22 (.op1 .lenS (.var 1)),
       .eff none (some 23) (.call { callee := .value (.func 83), args := #[(.tmp 20), (.tmp 22)], argTypes := #[123, 3] }) 3,
       .asg none 6 (.var 23)])
    (.skip))
  (ir58_k0)
def ir58_V : List Nat := [0, 1, 4, 5, 6, 7, 10, 11, 12, 14, 15, 16, 17, 19, 20, 22, 23, 29, 30, 31]
theorem ir58_ok : (comp Tryd.prog Tryd.f58.ntmps ir58_V [] (Tryd.f58.body.getD .skip)).map IR.norm = some ir58 := by kernel_rfl
theorem ir58_calls {v0 v1 : Value} {w : World} {R : Ending → World → Prop} (h : ∀ ρ : Env, ρ 0 = v0 → ρ 1 = v1 → ir58.wp ⟨Tryd.prog, 32, ir58_V, []⟩ (retK [.tmp 4, .tmp 5] R) (ksOf [.tmp 4, .tmp 5] R) ρ w) :
    Calls Tryd.prog 58 #[v0, v1] w R := by
  obtain ⟨ir0, h1, h2⟩ := Option.map_eq_some_iff.1 ir58_ok
  exact calls_ir (args := #[v0, v1]) Tryd.func58 (c := Tryd.f58.body.getD .skip) rfl h1 h2 (by kernel_rfl) (show rvsOf Tryd.prog ir58_V Tryd.f58.results.toList = some [.tmp 4, .tmp 5] by kernel_rfl) (Nat.le_of_ble_eq_true rfl) (h _ rfl rfl)

/-! ### 59: (*bytes.Buffer).Bytes  params #[123] results #[24]  slots [(0, b)] -/
noncomputable def ir59_k0 : IR :=
  .ret
noncomputable def ir59 : IR :=
  .seq (.reg [.asg none 2 (.const (.slice none 0 0))]) <|
  .seq (.drw [.asg none 2 (.op2 (.slLo 1) (.op1 .load1 (.op1 (.fadr 0) (.op1 .nilc (.var 0)))) (.op1 .load1 (.op1 (.fadr 1) (.op1 .nilc (.var 0)))))])
  (ir59_k0)
def ir59_V : List Nat := [0, 2]
theorem ir59_ok : (comp Tryd.prog Tryd.f59.ntmps ir59_V [] (Tryd.f59.body.getD .skip)).map IR.norm = some ir59 := by kernel_rfl
theorem ir59_calls {v0 : Value} {w : World} {R : Ending → World → Prop} (h : ∀ ρ : Env, ρ 0 = v0 → ir59.wp ⟨Tryd.prog, 12, ir59_V, []⟩ (retK [.tmp 2] R) (ksOf [.tmp 2] R) ρ w) :
    Calls Tryd.prog 59 #[v0] w R := by
  obtain ⟨ir0, h1, h2⟩ := Option.map_eq_some_iff.1 ir59_ok
  exact calls_ir (args := #[v0]) Tryd.func59 (c := Tryd.f59.body.getD .skip) rfl h1 h2 (by kernel_rfl) (show rvsOf Tryd.prog ir59_V Tryd.f59.results.toList = some [.tmp 2] by kernel_rfl) (Nat.le_of_ble_eq_true rfl) (h _ rfl)

/-! ### 60: argus/link.Read$1  params #[] results #[]  slots [(2, x), (3, x), (4, x)] -/
noncomputable def ir60 : IR :=
  .seq (.reg [.eff none (some 5) (.call { callee := .builtin .recover, args := #[], argTypes := #[] }) 20]) <|
  .block 0 (.seq (.reg [.eff none (some 7) (.binOp .eql 20 (.tmp 5) (.const .nilIface) 20) 4]) <|
   .cond (.var 7)
    (.reg [.asg none 2 (.var 5)])
    (.seq (.reg [.eff none (some 8) (.typeAssert (.tmp 5) 20 93 true) 0,
        .asg none 9 (.op1 (.ext 1) (.var 8)),
        .asg none 10 (.op1 (.ext 0) (.var 8))]) <|
     .cond (.var 9)
      (.reg [.eff none (some 3) (.alloc 93) 0,
         .eff none none (.store 93 (.tmp 3) (.tmp 10)) 0,
         .eff none (some 11) (.build 26 #[]) 26,
         .eff none none (.store 26 (.tmp 0) (.tmp 11)) 0,
         .eff none none (.store 29 (.tmp 1) (.const (.int .i64 4))) 0])
      (.reg [.asg none 4 (.var 5),
         .asg none 6 (.var 4),
         .eff none none (.panic (.tmp 6)) 0])))
def ir60_V : List Nat := [0, 1, 2, 3, 4, 5, 6, 7, 8, 9, 10, 11]
theorem ir60_ok : (comp Tryd.prog Tryd.f60.ntmps ir60_V [] (Tryd.f60.body.getD .skip)).map IR.norm = some ir60 := by kernel_rfl
theorem ir60_calls {w : World} {R : Ending → World → Prop} (h : ∀ ρ : Env, ir60.wp ⟨Tryd.prog, 12, ir60_V, []⟩ (retK [] R) (ksOf [] R) ρ w) :
    Calls Tryd.prog 60 #[] w R := by
  obtain ⟨ir0, h1, h2⟩ := Option.map_eq_some_iff.1 ir60_ok
  exact calls_ir (args := #[]) Tryd.func60 (c := Tryd.f60.body.getD .skip) rfl h1 h2 (by kernel_rfl) (show rvsOf Tryd.prog ir60_V Tryd.f60.results.toList = some [] by kernel_rfl) (Nat.le_of_ble_eq_true rfl) (h _ )

/-! ### 61: (*argus/link.reader).one  params #[94] results #[3]  slots [(0, r)] -/
noncomputable def ir61 : IR :=
  .seq (.reg [.asg none 2 (.const (.int .i64 0)),
     .asg none 3 (.var 0),
     .eff none (some 4) (.call { callee := .value (.func 62), args := #[(.tmp 3), (.const (.int .i64 1))], argTypes := #[94, 3] }) 24,
     .asg none 2 (.op1 (.conv .i64) (.op1 .load1 (.op2 (.ixa 1) (.var 4) (.const (.int .i64 0)))))]) <|
  .ret
def ir61_V : List Nat := [0, 2, 3, 4]
theorem ir61_ok : (comp Tryd.prog Tryd.f61.ntmps ir61_V [] (Tryd.f61.body.getD .skip)).map IR.norm = some ir61 := by kernel_rfl
theorem ir61_calls {v0 : Value} {w : World} {R : Ending → World → Prop} (h : ∀ ρ : Env, ρ 0 = v0 → ir61.wp ⟨Tryd.prog, 8, ir61_V, []⟩ (retK [.tmp 2] R) (ksOf [.tmp 2] R) ρ w) :
    Calls Tryd.prog 61 #[v0] w R := by
  obtain ⟨ir0, h1, h2⟩ := Option.map_eq_some_iff.1 ir61_ok
  exact calls_ir (args := #[v0]) Tryd.func61 (c := Tryd.f61.body.getD .skip) rfl h1 h2 (by kernel_rfl) (show rvsOf Tryd.prog ir61_V Tryd.f61.results.toList = some [.tmp 2] by kernel_rfl) (Nat.le_of_ble_eq_true rfl) (h _ rfl)

/-! ### 62: (*argus/link.reader).take  params #[94, 3] results #[24]  slots [(0, r), (1, n), (5, out)] -/
noncomputable def ir62_k0 : IR :=
  .seq (.reg [.asg none 5 (.op4 (.slMax 1) (.op1 .load1 (.op1 (.fadr 0) (.op1 .nilc (.var 0)))) (.const (.int .i64 0)) (.var 1) (.var 1)),
     .asg none 22 (.var 0),
     .asg none 28 (.op2 (.slLo 1) (.op1 .load1 (.op1 (.fadr 0) (.op1 .nilc (.var 0)))) (.var 1)),
     .asg none 30 (.op1 (.fadr 0) (.op1 .nilc (.var 22))),
     .eff none none (.store 24 (.tmp 30) (.tmp 28)) 0,
     .asg none 4 (.var 5)]) <|
  .ret
noncomputable def ir62 : IR :=
  .seq (.reg [.asg none 4 (.const (.slice none 0 0)),
     .asg none 12 (.op2 (.ibin .gtr .i64) (.var 1) (.op1 .lenS (.op1 .load1 (.op1 (.fadr 0) (.op1 .nilc (.var 0))))))]) <|
  .seq (.cond (.var 12)
    (.reg [.eff none (some 13) (.build 93 #[]) 93,
       .asg none 14 (.op1 (.mkif 93) (.var 13)),
       .eff none none (.panic (.tmp 14)) 0])
    (.skip))
  (ir62_k0)
def ir62_V : List Nat := [0, 1, 4, 5, 12, 13, 14, 22, 28, 30]
theorem ir62_ok : (comp Tryd.prog Tryd.f62.ntmps ir62_V [] (Tryd.f62.body.getD .skip)).map IR.norm = some ir62 := by kernel_rfl
theorem ir62_calls {v0 v1 : Value} {w : World} {R : Ending → World → Prop} (h : ∀ ρ : Env, ρ 0 = v0 → ρ 1 = v1 → ir62.wp ⟨Tryd.prog, 32, ir62_V, []⟩ (retK [.tmp 4] R) (ksOf [.tmp 4] R) ρ w) :
    Calls Tryd.prog 62 #[v0, v1] w R := by
  obtain ⟨ir0, h1, h2⟩ := Option.map_eq_some_iff.1 ir62_ok
  exact calls_ir (args := #[v0, v1]) Tryd.func62 (c := Tryd.f62.body.getD .skip) rfl h1 h2 (by kernel_rfl) (show rvsOf Tryd.prog ir62_V Tryd.f62.results.toList = some [.tmp 4] by kernel_rfl) (Nat.le_of_ble_eq_true rfl) (h _ rfl rfl)

/-! ### 63: (*argus/link.reader).word  params #[94] results #[3]  slots [(0, r), (3, n), (5, c)] -/
noncomputable def ir63_k0 : IR :=
  .reg [.asg none 9 (.op2 (.ibin .add .i64) (.var 9) (.const (.int .i64 1)))]
noncomputable def ir63_k1 : IR :=
  .seq (.block 1 (.reg [.asg none 5 (.op1 .load1 (.op2 (.ixa 1) (.var 7) (.var 9))),
      .asg none 3 (.op2 (.ibin .or .i64) (.op2 (.shf .shl) (.var 3) (.const (.int .u64 8))) (.op1 (.conv .i64) (.var 5)))]))
  (ir63_k0)
noncomputable def ir63_l2 : IR :=
  .seq (.reg [.asg none 10 (.op2 (.ibin .lss .i64) (.var 9) (.var 8))]) <|
  .seq (.cond (.var 10)
    (.skip)
    (.exit 0))
  (ir63_k1)
noncomputable def ir63_k3 : IR :=
  .seq (.reg [.asg none 2 (.var 3)]) <|
  .ret
noncomputable def ir63 : IR :=
  .seq (.reg [.asg none 2 (.const (.int .i64 0)),
     .asg none 3 (.const (.int .i64 0)),
     .asg none 6 (.var 0),
     .eff none (some 7) (.call { callee := .value (.func 62), args := #[(.tmp 6), (.const (.int .i64 4))], argTypes := #[94, 3] }) 24,
     .asg none 8 (.op1 .lenS (.var 7)),
     .asg none 9 (.const (.int .i64 0))]) <|
  .seq (.block 0 (.loop ir63_l2))
  (ir63_k3)
def ir63_V : List Nat := [0, 2, 3, 5, 6, 7, 8, 9, 10]
theorem ir63_ok : (comp Tryd.prog Tryd.f63.ntmps ir63_V [] (Tryd.f63.body.getD .skip)).map IR.norm = some ir63 := by kernel_rfl
theorem ir63_calls {v0 : Value} {w : World} {R : Ending → World → Prop} (h : ∀ ρ : Env, ρ 0 = v0 → ir63.wp ⟨Tryd.prog, 20, ir63_V, []⟩ (retK [.tmp 2] R) (ksOf [.tmp 2] R) ρ w) :
    Calls Tryd.prog 63 #[v0] w R := by
  obtain ⟨ir0, h1, h2⟩ := Option.map_eq_some_iff.1 ir63_ok
  exact calls_ir (args := #[v0]) Tryd.func63 (c := Tryd.f63.body.getD .skip) rfl h1 h2 (by kernel_rfl) (show rvsOf Tryd.prog ir63_V Tryd.f63.results.toList = some [.tmp 2] by kernel_rfl) (Nat.le_of_ble_eq_true rfl) (h _ rfl)

/-! ### 82: (*bytes.Buffer).tryGrowByReslice  params #[123, 3] results #[3, 4]  slots [(0, b), (1, n), (6, l)] -/
noncomputable def ir82_k0 : IR :=
  .seq (.reg [.asg none 4 (.const (.int .i64 0)),
     .asg none 5 (.const (.bool false))]) <|
  .ret
noncomputable def ir82 : IR :=
  .seq (.reg [.asg none 4 (.const (.int .i64 0)),
     .asg none 5 (.const (.bool false)),
     .asg none 6 (.op1 .lenS (.op1 .load1 (.op1 (.fadr 0) (.op1 .nilc (.var 0))))),
     .asg none 20 (.op2 (.ibin .leq .i64) (.var 1) (.op2 (.ibin .sub .i64) (.op1 .capS (.op1 .load1 (.op1 (.fadr 0) (.op1 .nilc (.var 0))))) (.var 6)))]) <|
  .seq (.cond (.var 20)
    (.seq (.reg [.asg none 21 (.var 0),
        .asg none 29 (.op3 (.slLoHi 1) (.op1 .load1 (.op1 (.fadr 0) (.op1 .nilc (.var 0)))) (.const (.int .i64 0)) (.op2 (.ibin .add .i64) (.var 6) (.var 1))),
        .asg none 31 (.op1 (.fadr 0) (.op1 .nilc (.var 21))),
        .eff none none (.store 24 (.tmp 31) (.tmp 29)) 0,
        .asg none 4 (.var 6),
        .asg none 5 (.const (.bool true))]) <|
     .ret)
    (.skip))
  (ir82_k0)
def ir82_V : List Nat := [0, 1, 4, 5, 6, 20, 21, 29, 31]
theorem ir82_ok : (comp Tryd.prog Tryd.f82.ntmps ir82_V [] (Tryd.f82.body.getD .skip)).map IR.norm = some ir82 := by kernel_rfl
theorem ir82_calls {v0 v1 : Value} {w : World} {R : Ending → World → Prop} (h : ∀ ρ : Env, ρ 0 = v0 → ρ 1 = v1 → ir82.wp ⟨Tryd.prog, 33, ir82_V, []⟩ (retK [.tmp 4, .tmp 5] R) (ksOf [.tmp 4, .tmp 5] R) ρ w) :
    Calls Tryd.prog 82 #[v0, v1] w R := by
  obtain ⟨ir0, h1, h2⟩ := Option.map_eq_some_iff.1 ir82_ok
  exact calls_ir (args := #[v0, v1]) Tryd.func82 (c := Tryd.f82.body.getD .skip) rfl h1 h2 (by kernel_rfl) (show rvsOf Tryd.prog ir82_V Tryd.f82.results.toList = some [.tmp 4, .tmp 5] by kernel_rfl) (Nat.le_of_ble_eq_true rfl) (h _ rfl rfl)

/-! ### 83: (*bytes.Buffer).grow  params #[123, 3] results #[3]  slots [(0, b), (1, n), (5, m), (6, i), (7, ok), (8, c)] -/
noncomputable def ir83_body : Code := (Tryd.f83.body).getD .skip
noncomputable def ir83_k0 : IR :=
  .seq (.reg [.asg none 97 (.op1 (.fadr 1) (.op1 .nilc (.var 0))),
     .eff none none (.store 3 (.tmp 97) (.const (.int .i64 0))) 0,
     .asg none 98 (.var 0),
     .asg none 106 (.op3 (.slLoHi 1) (.op1 .load1 (.op1 (.fadr 0) (.op1 .nilc (.var 0)))) (.const (.int .i64 0)) (.op2 (.ibin .add .i64) (.var 5) (.var 1))),
     .asg none 108 (.op1 (.fadr 0) (.op1 .nilc (.var 98))),
     .eff none none (.store 24 (.tmp 108) (.tmp 106)) 0,
     .asg none 4 (.var 5)]) <|
  .ret
noncomputable def ir83_k1 : IR :=
  .seq (.reg [.asg none 8 (.op1 .capS (.op1 .load1 (.op1 (.fadr 0) (.op1 .nilc (.var 0))))),
     .asg none 54 (.op2 (.ibin .leq .i64) (.var 1) (.op2 (.ibin .sub .i64) (.op2 (.ibin .quo .i64) (.var 8) (.const (.int .i64 2))) (.var 5)))]) <|
  .seq (.cond (.var 54)
    (.raw (rawReg ir83_body 12))
    (.seq (.reg [.asg none 74 (.op2 (.ibin .gtr .i64) (.var 8) (.op2 (.ibin .sub .i64) (.op2 (.ibin .sub .i64) (.const (.int .i64 9223372036854775807)) (.var 8)) (.var 1)))]) <|
     .cond (.var 74)
      (.reg [.asg none 75 (.op1 .load1 (.const (.pointer (some ⟨0, 0, none⟩)))),
         .eff none none (.panic (.tmp 75)) 0])
      (.raw (rawReg ir83_body 15))))
  (ir83_k0)
noncomputable def ir83_k2 : IR :=
  .seq (.reg [.asg none 33 (.op1 .load1 (.op1 (.fadr 0) (.op1 .nilc (.var 0)))),
     .eff none (some 34) (.binOp .eql 24 (.tmp 33) (.const (.slice none 0 0)) 24) 4,
     .asg none 38 (.ite (.var 34) (.op2 (.ibin .leq .i64) (.var 1) (.const (.int .i64 64))) (.const (.bool false)))]) <|
  .seq (.cond (.var 38)
    (.seq (.reg [.asg none 39 (.var 0),
        .asg none 40 (.var 1),
        .eff none (some 41) (.makeSlice 24 (.tmp 40) (.const (.int .i64 64))) 24,
        .asg none 43 (.op1 (.fadr 0) (.op1 .nilc (.var 39))),
        .eff none none (.store 24 (.tmp 43) (.tmp 41)) 0,
        .asg none 4 (.const (.int .i64 0))]) <|
     .ret)
    (.skip))
  (ir83_k1)
noncomputable def ir83_k3 : IR :=
  .seq (.reg [.asg none 23 (.var 0),
     .asg none 24 (.var 1),
     .eff none (some 25) (.call { callee := .value (.func 82), args := #[(.tmp 23), (.tmp 24)], argTypes := #[123, 3] }) 73,
     .asg none 22 (.var 25),
     .asg none 26 (.op1 (.ext 0) (.var 22)),
     .asg none 27 (.op1 (.ext 1) (.var 22)),
     .asg none 6 (.var 26),
     .asg none 7 (.var 27),
     .asg none 28 (.var 7)]) <|
  .seq (.cond (.var 28)
    (.seq (.reg [.asg none 4 (.var 6)]) <|
     .ret)
    (.skip))
  (ir83_k2)
noncomputable def ir83 : IR :=
  .seq (.reg [.asg none 4 (.const (.int .i64 0)),
     .asg none 9 (.var 0),
     .eff none (some 10) (.call { callee := .value (.func 93), args := #[(.tmp 9)], argTypes := #[123] }) 3,
     .asg none 5 (.var 10),
     .asg none 19 (.ite (.op2 (.ibin .eql .i64) (.var 5) (.const (.int .i64 0))) (.op2 (.ibin .neq .i64) (.op1 .load1 (.op1 (.fadr 1) (.op1 .nilc (.var 0)))) (.const (.int .i64 0))) (.const (.bool false)))]) <|
  .seq (.cond (.var 19)
    (.reg [.asg none 20 (.var 0),
       .eff none (some 21) (.call { callee := .value (.func 94), args := #[(.tmp 20)], argTypes := #[123] }) 0])
    (.skip))
  (ir83_k3)
def ir83_V : List Nat := [0, 1, 4, 5, 6, 7, 8, 9, 10, 19, 20, 21, 22, 23, 24, 25, 26, 27, 28, 33, 34, 38, 39, 40, 41, 43, 54, 55, 56, 57, 58, 59, 60, 61, 62, 63, 64, 65, 66, 67, 68, 74, 75, 76, 77, 78, 79, 80, 81, 82, 83, 84, 85, 86, 87, 88, 89, 90, 91, 92, 93, 94, 97, 98, 106, 108]
theorem ir83_ok : (comp Tryd.prog Tryd.f83.ntmps ir83_V [15, 12] (Tryd.f83.body.getD .skip)).map IR.norm = some ir83 := by kernel_rfl
theorem ir83_calls {v0 v1 : Value} {w : World} {R : Ending → World → Prop} (h : ∀ ρ : Env, ρ 0 = v0 → ρ 1 = v1 → ir83.wp ⟨Tryd.prog, 110, ir83_V, []⟩ (retK [.tmp 4] R) (ksOf [.tmp 4] R) ρ w) :
    Calls Tryd.prog 83 #[v0, v1] w R := by
  obtain ⟨ir0, h1, h2⟩ := Option.map_eq_some_iff.1 ir83_ok
  exact calls_ir (args := #[v0, v1]) Tryd.func83 (c := Tryd.f83.body.getD .skip) rfl h1 h2 (by kernel_rfl) (show rvsOf Tryd.prog ir83_V Tryd.f83.results.toList = some [.tmp 4] by kernel_rfl) (Nat.le_of_ble_eq_true rfl) (h _ rfl rfl)

/-! ### 93: (*bytes.Buffer).Len  params #[123] results #[3]  slots [(0, b)] -/
noncomputable def ir93_k0 : IR :=
  .ret
noncomputable def ir93 : IR :=
  .seq (.reg [.asg none 2 (.const (.int .i64 0))]) <|
  .seq (.drw [.asg none 2 (.op2 (.ibin .sub .i64) (.op1 .lenS (.op1 .load1 (.op1 (.fadr 0) (.op1 .nilc (.var 0))))) (.op1 .load1 (.op1 (.fadr 1) (.op1 .nilc (.var 0)))))])
  (ir93_k0)
def ir93_V : List Nat := [0, 2]
theorem ir93_ok : (comp Tryd.prog Tryd.f93.ntmps ir93_V [] (Tryd.f93.body.getD .skip)).map IR.norm = some ir93 := by kernel_rfl
theorem ir93_calls {v0 : Value} {w : World} {R : Ending → World → Prop} (h : ∀ ρ : Env, ρ 0 = v0 → ir93.wp ⟨Tryd.prog, 13, ir93_V, []⟩ (retK [.tmp 2] R) (ksOf [.tmp 2] R) ρ w) :
    Calls Tryd.prog 93 #[v0] w R := by
  obtain ⟨ir0, h1, h2⟩ := Option.map_eq_some_iff.1 ir93_ok
  exact calls_ir (args := #[v0]) Tryd.func93 (c := Tryd.f93.body.getD .skip) rfl h1 h2 (by kernel_rfl) (show rvsOf Tryd.prog ir93_V Tryd.f93.results.toList = some [.tmp 2] by kernel_rfl) (Nat.le_of_ble_eq_true rfl) (h _ rfl)

/-! ### 94: (*bytes.Buffer).Reset  params #[123] results #[]  slots [(0, b)] -/
noncomputable def ir94 : IR :=
  .reg [.asg none 2 (.var 0),
    .asg none 7 (.op3 (.slLoHi 1) (.op1 .load1 (.op1 (.fadr 0) (.op1 .nilc (.var 0)))) (.const (.int .i64 0)) (.const (.int .i64 0))),
    .asg none 9 (.op1 (.fadr 0) (.op1 .nilc (.var 2))),
    .eff none none (.store 24 (.tmp 9) (.tmp 7)) 0,
    .asg none 12 (.op1 (.fadr 1) (.op1 .nilc (.var 0))),
    .eff none none (.store 3 (.tmp 12) (.const (.int .i64 0))) 0,
    .asg none 15 (.op1 (.fadr 2) (.op1 .nilc (.var 0))),
    .eff none none (.store 79 (.tmp 15) (.const (.int .i8 0))) 0]
def ir94_V : List Nat := [0, 2, 7, 9, 12, 15]
theorem ir94_ok : (comp Tryd.prog Tryd.f94.ntmps ir94_V [] (Tryd.f94.body.getD .skip)).map IR.norm = some ir94 := by kernel_rfl
theorem ir94_calls {v0 : Value} {w : World} {R : Ending → World → Prop} (h : ∀ ρ : Env, ρ 0 = v0 → ir94.wp ⟨Tryd.prog, 16, ir94_V, []⟩ (retK [] R) (ksOf [] R) ρ w) :
    Calls Tryd.prog 94 #[v0] w R := by
  obtain ⟨ir0, h1, h2⟩ := Option.map_eq_some_iff.1 ir94_ok
  exact calls_ir (args := #[v0]) Tryd.func94 (c := Tryd.f94.body.getD .skip) rfl h1 h2 (by kernel_rfl) (show rvsOf Tryd.prog ir94_V Tryd.f94.results.toList = some [] by kernel_rfl) (Nat.le_of_ble_eq_true rfl) (h _ rfl)

/-! ### 95: bytes.growSlice  params #[24, 3] results #[24]  slots [(0, b), (1, n), (5, c), (6, b2), (7, i)] -/
noncomputable def ir95_k0 : IR :=
  .seq (.reg [.asg none 20 (.var 5),
     .eff none (some 21) (.call { callee := .builtin .append, args := #[(.const (.slice none 0 0)), (.tmp 20)], argTypes := #[24, 3] }) 24,
     .asg none 6 (.var 21),
     .asg none 22 (.var 6),
     .asg none 23 (.var 0),
     .eff none (some 24) (.call { callee := .builtin .copy, args := #[(.tmp 22), (.tmp 23)], argTypes := #[24, 24] }) 3,
     .asg none 7 (.var 24),
     .asg none 4 (.op3 (.slLoHi 1) (.var 6) (.const (.int .i64 0)) (.var 7))]) <|
  .ret
noncomputable def ir95 : IR :=
  .seq (.reg [.asg none 4 (.const (.slice none 0 0)),
     .eff none none (.defer { callee := .value (.func 101), args := #[], argTypes := #[] }) 0,
     .asg none 5 (.op2 (.ibin .add .i64) (.op1 .lenS (.var 0)) (.var 1)),
     .asg none 16 (.op2 (.ibin .lss .i64) (.var 5) (.op2 (.ibin .mul .i64) (.const (.int .i64 2)) (.op1 .capS (.var 0))))]) <|
  .seq (.cond (.var 16)
    (.reg [.asg none 5 (.op2 (.ibin .mul .i64) (.const (.int .i64 2)) (.op1 .capS (.var 0)))])
    (.skip))
  (ir95_k0)
def ir95_V : List Nat := [0, 1, 4, 5, 6, 7, 16, 20, 21, 22, 23, 24]
theorem ir95_ok : (comp Tryd.prog Tryd.f95.ntmps ir95_V [] (Tryd.f95.body.getD .skip)).map IR.norm = some ir95 := by kernel_rfl
theorem ir95_calls {v0 v1 : Value} {w : World} {R : Ending → World → Prop} (h : ∀ ρ : Env, ρ 0 = v0 → ρ 1 = v1 → ir95.wp ⟨Tryd.prog, 28, ir95_V, []⟩ (retK [.tmp 4] R) (ksOf [.tmp 4] R) ρ w) :
    Calls Tryd.prog 95 #[v0, v1] w R := by
  obtain ⟨ir0, h1, h2⟩ := Option.map_eq_some_iff.1 ir95_ok
  exact calls_ir (args := #[v0, v1]) Tryd.func95 (c := Tryd.f95.body.getD .skip) rfl h1 h2 (by kernel_rfl) (show rvsOf Tryd.prog ir95_V Tryd.f95.results.toList = some [.tmp 4] by kernel_rfl) (Nat.le_of_ble_eq_true rfl) (h _ rfl rfl)

/-! ### 101: bytes.growSlice$1  params #[] results #[]  slots [] -/
noncomputable def ir101 : IR :=
  .seq (.reg [.eff none (some 0) (.call { callee := .builtin .recover, args := #[], argTypes := #[] }) 20,
     .eff none (some 1) (.binOp .neq 20 (.tmp 0) (.const .nilIface) 20) 4]) <|
  .cond (.var 1)
   (.reg [.asg none 2 (.op1 .load1 (.const (.pointer (some ⟨0, 0, none⟩)))),
      .eff none none (.panic (.tmp 2)) 0])
   (.skip)
def ir101_V : List Nat := [0, 1, 2]
theorem ir101_ok : (comp Tryd.prog Tryd.f101.ntmps ir101_V [] (Tryd.f101.body.getD .skip)).map IR.norm = some ir101 := by kernel_rfl
theorem ir101_calls {w : World} {R : Ending → World → Prop} (h : ∀ ρ : Env, ir101.wp ⟨Tryd.prog, 3, ir101_V, []⟩ (retK [] R) (ksOf [] R) ρ w) :
    Calls Tryd.prog 101 #[] w R := by
  obtain ⟨ir0, h1, h2⟩ := Option.map_eq_some_iff.1 ir101_ok
  exact calls_ir (args := #[]) Tryd.func101 (c := Tryd.f101.body.getD .skip) rfl h1 h2 (by kernel_rfl) (show rvsOf Tryd.prog ir101_V Tryd.f101.results.toList = some [] by kernel_rfl) (Nat.le_of_ble_eq_true rfl) (h _ )

end Go.Proofs
