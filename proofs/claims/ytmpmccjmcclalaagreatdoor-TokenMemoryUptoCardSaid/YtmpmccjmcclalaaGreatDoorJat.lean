/- Texts of mine for the claims about layer 1 (token), joined: L01If. -/
import Derived.Test.YtmpmccjmcclalaaGreatDoorJar
import Derived.Test.YtmpmccjmcclalaaGreatDoorProg
import Derived.KernelRfl
set_option linter.all false
set_option linter.unusedSimpArgs false
set_option linter.unusedVariables false
/- Layer 1: readings: the laws. -/
namespace Go.L01
open Go Go.Eng Go.Proofs
set_option maxRecDepth 100000
set_option maxHeartbeats 2000000
/-! ### 3: argus/arguslaw01.TokenWords  params #[9] results #[4]  slots [(0, s)] -/
noncomputable def ir3 : IR :=
  .seq (.reg [.asg none 2 (.const (.bool false)),
     .eff none (some 3) (.call { callee := .value (.func 12), args := #[], argTypes := #[] }) 4,
     .asg none 4 (.var 3),
     .asg (some (4, true)) 8 (.op2 (.ibin .gtr .i64) (.op1 .lenT (.var 0)) (.const (.int .i64 100))),
     .asg (some (8, false)) 9 (.var 0),
     .eff (some (8, false)) (some 10) (.call { callee := .value (.func 13), args := #[(.tmp 9)], argTypes := #[9] }) 4,
     .asg (some (8, false)) 11 (.var 0),
     .eff (some (8, false)) (some 12) (.call { callee := .value (.func 14), args := #[(.tmp 11)], argTypes := #[9] }) 4,
     .asg (some (8, false)) 14 (.op2 (.bbin .eql) (.var 10) (.var 12)),
     .asg (some (14, true)) 15 (.var 0),
     .eff (some (14, true)) (some 16) (.call { callee := .value (.func 15), args := #[(.tmp 15)], argTypes := #[9] }) 4,
     .asg (some (14, true)) 17 (.var 0),
     .eff (some (14, true)) (some 18) (.call { callee := .value (.func 16), args := #[(.tmp 17)], argTypes := #[9] }) 4,
     .asg (some (14, true)) 19 (.op2 (.bbin .eql) (.var 16) (.var 18)),
     .asg (some (8, false)) 21 (.ite (.var 14) (.var 19) (.const (.bool false))),
     .eff (some (21, true)) (some 22) (.call { callee := .value (.func 18), args := #[], argTypes := #[] }) 25,
     .eff (some (21, true)) (some 23) (.call { callee := .value (.func 19), args := #[], argTypes := #[] }) 25,
     .eff (some (21, true)) (some 24) (.call { callee := .value (.func 17), args := #[(.tmp 22), (.tmp 23)], argTypes := #[25, 25] }) 4,
     .asg (some (8, false)) 26 (.ite (.var 21) (.var 24) (.const (.bool false))),
     .eff (some (26, true)) (some 27) (.call { callee := .value (.func 20), args := #[], argTypes := #[] }) 25,
     .eff (some (26, true)) (some 28) (.call { callee := .value (.func 21), args := #[], argTypes := #[] }) 25,
     .eff (some (26, true)) (some 29) (.call { callee := .value (.func 17), args := #[(.tmp 27), (.tmp 28)], argTypes := #[25, 25] }) 4,
     .asg (some (8, false)) 30 (.ite (.var 26) (.var 29) (.const (.bool false))),
     .asg none 2 (.ite (.var 4) (.ite (.var 8) (.const (.bool true)) (.var 30)) (.const (.bool false)))]) <|
  .ret
def ir3_V : List Nat := [0, 2, 3, 4, 8, 9, 10, 11, 12, 14, 15, 16, 17, 18, 19, 21, 22, 23, 24, 26, 27, 28, 29, 30]
theorem ir3_ok : (comp Tryz.prog Tryz.f3.ntmps ir3_V [] (Tryz.f3.body.getD .skip)).map IR.norm = some ir3 := by kernel_rfl
theorem ir3_calls {v0 : Value} {w : World} {R : Ending → World → Prop} (h : ∀ ρ : Env, ρ 0 = v0 → ir3.wp ⟨Tryz.prog, 33, ir3_V, []⟩ (retK [.tmp 2] R) (ksOf [.tmp 2] R) ρ w) :
    Calls Tryz.prog 3 #[v0] w R := by
  obtain ⟨ir0, h1, h2⟩ := Option.map_eq_some_iff.1 ir3_ok
  exact calls_ir (args := #[v0]) Tryz.func3 (c := (Tryz.f3.body.getD .skip)) rfl h1 h2 (by kernel_rfl) (show rvsOf Tryz.prog ir3_V Tryz.f3.results.toList = some [.tmp 2] by kernel_rfl) (Nat.le_of_ble_eq_true rfl) (h _ rfl)

/-! ### 4: argus/arguslaw01.TokenScans  params #[9] results #[4]  slots [(0, src), (3, a), (4, f), (5, b), (6, g), (7, c), (8, h), (9, d), (10, i)] -/
noncomputable def ir4_k0 : IR :=
  .seq (.reg [.asg none 17 (.var 0),
     .eff none (some 18) (.call { callee := .value (.func 23), args := #[(.tmp 17)], argTypes := #[9] }) 32,
     .asg none 16 (.var 18),
     .asg none 19 (.op1 (.ext 0) (.var 16)),
     .asg none 20 (.op1 (.ext 1) (.var 16)),
     .eff none (some 4) (.alloc 31) 0,
     .asg none 3 (.var 19),
     .eff none none (.store 31 (.tmp 4) (.tmp 20)) 0,
     .asg none 22 (.var 0),
     .eff none (some 23) (.call { callee := .value (.func 24), args := #[(.tmp 22)], argTypes := #[9] }) 32,
     .asg none 21 (.var 23),
     .asg none 24 (.op1 (.ext 0) (.var 21)),
     .asg none 25 (.op1 (.ext 1) (.var 21)),
     .eff none (some 6) (.alloc 31) 0,
     .asg none 5 (.var 24),
     .eff none none (.store 31 (.tmp 6) (.tmp 25)) 0,
     .asg none 27 (.var 0),
     .eff none (some 28) (.call { callee := .value (.func 25), args := #[(.tmp 27)], argTypes := #[9] }) 34,
     .asg none 26 (.var 28),
     .asg none 29 (.op1 (.ext 0) (.var 26)),
     .asg none 30 (.op1 (.ext 1) (.var 26)),
     .eff none (some 8) (.alloc 31) 0,
     .asg none 7 (.var 29),
     .eff none none (.store 31 (.tmp 8) (.tmp 30)) 0,
     .asg none 32 (.var 0),
     .eff none (some 33) (.call { callee := .value (.func 26), args := #[(.tmp 32)], argTypes := #[9] }) 34,
     .asg none 31 (.var 33),
     .asg none 34 (.op1 (.ext 0) (.var 31)),
     .asg none 35 (.op1 (.ext 1) (.var 31)),
     .eff none (some 10) (.alloc 31) 0,
     .asg none 9 (.var 34),
     .eff none none (.store 31 (.tmp 10) (.tmp 35)) 0,
     .eff none (some 36) (.call { callee := .value (.func 12), args := #[], argTypes := #[] }) 4,
     .asg none 37 (.var 36),
     .asg (some (37, true)) 38 (.var 3),
     .asg (some (37, true)) 39 (.var 5),
     .eff (some (37, true)) (some 40) (.call { callee := .value (.func 27), args := #[(.tmp 38), (.tmp 39)], argTypes := #[28, 28] }) 4,
     .asg none 42 (.ite (.var 37) (.var 40) (.const (.bool false))),
     .asg (some (42, true)) 43 (.op1 (.loadN 2) (.var 4)),
     .asg (some (42, true)) 44 (.op1 (.loadN 2) (.var 6)),
     .eff (some (42, true)) (some 45) (.binOp .eql 31 (.tmp 43) (.tmp 44) 31) 4,
     .asg none 47 (.ite (.var 42) (.var 45) (.const (.bool false))),
     .asg (some (47, true)) 48 (.var 7),
     .asg (some (47, true)) 49 (.var 9),
     .eff (some (47, true)) (some 50) (.call { callee := .value (.func 17), args := #[(.tmp 48), (.tmp 49)], argTypes := #[25, 25] }) 4,
     .asg none 52 (.ite (.var 47) (.var 50) (.const (.bool false))),
     .asg (some (52, true)) 53 (.op1 (.loadN 2) (.var 8)),
     .asg (some (52, true)) 54 (.op1 (.loadN 2) (.var 10)),
     .eff (some (52, true)) (some 55) (.binOp .eql 31 (.tmp 53) (.tmp 54) 31) 4,
     .asg none 2 (.ite (.var 52) (.var 55) (.const (.bool false)))]) <|
  .ret
noncomputable def ir4 : IR :=
  .seq (.reg [.asg none 2 (.const (.bool false)),
     .asg none 11 (.var 0),
     .eff none (some 12) (.buildSlice 25 1 #[(0, (.tmp 11))]) 25,
     .eff none (some 13) (.call { callee := .value (.func 22), args := #[(.tmp 12)], argTypes := #[25] }) 4,
     .asg none 14 (.op1 .not (.var 13))]) <|
  .seq (.cond (.var 14)
    (.seq (.reg [.eff none (some 15) (.call { callee := .value (.func 12), args := #[], argTypes := #[] }) 4,
        .asg none 2 (.var 15)]) <|
     .ret)
    (.skip))
  (ir4_k0)
def ir4_V : List Nat := [0, 2, 3, 4, 5, 6, 7, 8, 9, 10, 11, 12, 13, 14, 15, 16, 17, 18, 19, 20, 21, 22, 23, 24, 25, 26, 27, 28, 29, 30, 31, 32, 33, 34, 35, 36, 37, 38, 39, 40, 42, 43, 44, 45, 47, 48, 49, 50, 52, 53, 54, 55]
theorem ir4_ok : (comp Tryz.prog Tryz.f4.ntmps ir4_V [] (Tryz.f4.body.getD .skip)).map IR.norm = some ir4 := by kernel_rfl
theorem ir4_calls {v0 : Value} {w : World} {R : Ending → World → Prop} (h : ∀ ρ : Env, ρ 0 = v0 → ir4.wp ⟨Tryz.prog, 57, ir4_V, []⟩ (retK [.tmp 2] R) (ksOf [.tmp 2] R) ρ w) :
    Calls Tryz.prog 4 #[v0] w R := by
  obtain ⟨ir0, h1, h2⟩ := Option.map_eq_some_iff.1 ir4_ok
  exact calls_ir (args := #[v0]) Tryz.func4 (c := (Tryz.f4.body.getD .skip)) rfl h1 h2 (by kernel_rfl) (show rvsOf Tryz.prog ir4_V Tryz.f4.results.toList = some [.tmp 2] by kernel_rfl) (Nat.le_of_ble_eq_true rfl) (h _ rfl)

/-! ### 5: argus/arguslaw01.TokenPrints  params #[28, 38, 38] results #[4]  slots [(0, l), (1, a), (2, b), (4, a), (5, b), (7, i), (8, e), (9, k), (10, f), (11, s), (12, g), (13, t), (14, h), (15, x), (16, m), (17, y), (18, n)] -/
noncomputable def ir5_k0 : IR :=
  .seq (.reg [.asg none 31 (.var 0),
     .eff none (some 32) (.call { callee := .value (.func 29), args := #[(.tmp 31)], argTypes := #[28] }) 40,
     .asg none 30 (.var 32),
     .asg none 33 (.op1 (.ext 0) (.var 30)),
     .asg none 34 (.op1 (.ext 1) (.var 30)),
     .asg none 7 (.var 33),
     .asg none 8 (.var 34),
     .asg none 36 (.var 0),
     .eff none (some 37) (.call { callee := .value (.func 30), args := #[(.tmp 36)], argTypes := #[28] }) 40,
     .asg none 35 (.var 37),
     .asg none 38 (.op1 (.ext 0) (.var 35)),
     .asg none 39 (.op1 (.ext 1) (.var 35)),
     .asg none 9 (.var 38),
     .asg none 10 (.var 39),
     .asg none 41 (.var 0),
     .eff none (some 42) (.call { callee := .value (.func 31), args := #[(.tmp 41)], argTypes := #[28] }) 42,
     .asg none 40 (.var 42),
     .asg none 43 (.op1 (.ext 0) (.var 40)),
     .asg none 44 (.op1 (.ext 1) (.var 40)),
     .asg none 11 (.var 43),
     .asg none 12 (.var 44),
     .asg none 46 (.var 0),
     .eff none (some 47) (.call { callee := .value (.func 32), args := #[(.tmp 46)], argTypes := #[28] }) 42,
     .asg none 45 (.var 47),
     .asg none 48 (.op1 (.ext 0) (.var 45)),
     .asg none 49 (.op1 (.ext 1) (.var 45)),
     .asg none 13 (.var 48),
     .asg none 14 (.var 49),
     .asg none 51 (.op1 (.loadN 3) (.var 4)),
     .asg none 52 (.op1 (.loadN 3) (.var 5)),
     .eff none (some 53) (.call { callee := .value (.func 33), args := #[(.tmp 51), (.tmp 52)], argTypes := #[38, 38] }) 44,
     .asg none 50 (.var 53),
     .asg none 54 (.op1 (.ext 0) (.var 50)),
     .asg none 55 (.op1 (.ext 1) (.var 50)),
     .asg none 15 (.var 54),
     .asg none 16 (.var 55),
     .asg none 57 (.op1 (.loadN 3) (.var 4)),
     .asg none 58 (.op1 (.loadN 3) (.var 5)),
     .eff none (some 59) (.call { callee := .value (.func 34), args := #[(.tmp 57), (.tmp 58)], argTypes := #[38, 38] }) 44,
     .asg none 56 (.var 59),
     .asg none 60 (.op1 (.ext 0) (.var 56)),
     .asg none 61 (.op1 (.ext 1) (.var 56)),
     .asg none 17 (.var 60),
     .asg none 18 (.var 61),
     .eff none (some 62) (.call { callee := .value (.func 12), args := #[], argTypes := #[] }) 4,
     .asg none 6 (.ite (.ite (.ite (.ite (.ite (.ite (.var 62) (.op2 (.ibin .eql .i64) (.var 7) (.var 9)) (.const (.bool false))) (.op2 (.ibin .eql .i64) (.var 8) (.var 10)) (.const (.bool false))) (.op2 (.sbin .eql) (.var 11) (.var 13)) (.const (.bool false))) (.op2 (.ibin .eql .i64) (.var 12) (.var 14)) (.const (.bool false))) (.op2 (.bbin .eql) (.var 15) (.var 17)) (.const (.bool false))) (.op2 (.ibin .eql .i64) (.var 16) (.var 18)) (.const (.bool false)))]) <|
  .ret
noncomputable def ir5 : IR :=
  .seq (.reg [.eff none (some 4) (.box 38 (.tmp 1)) 0,
     .eff none (some 5) (.box 38 (.tmp 2)) 0,
     .asg none 6 (.const (.bool false)),
     .asg none 19 (.var 0),
     .eff none (some 20) (.call { callee := .value (.func 28), args := #[(.tmp 19)], argTypes := #[28] }) 4,
     .asg none 22 (.op1 .not (.var 20)),
     .asg (some (22, false)) 23 (.op1 (.loadN 3) (.var 4)),
     .asg (some (22, false)) 24 (.op1 (.loadN 3) (.var 5)),
     .eff (some (22, false)) (some 25) (.buildSlice 28 2 #[(0, (.tmp 23)), (1, (.tmp 24))]) 28,
     .eff (some (22, false)) (some 26) (.call { callee := .value (.func 28), args := #[(.tmp 25)], argTypes := #[28] }) 4,
     .asg none 28 (.ite (.var 22) (.const (.bool true)) (.op1 .not (.var 26)))]) <|
  .seq (.cond (.var 28)
    (.seq (.reg [.eff none (some 29) (.call { callee := .value (.func 12), args := #[], argTypes := #[] }) 4,
        .asg none 6 (.var 29)]) <|
     .ret)
    (.skip))
  (ir5_k0)
def ir5_V : List Nat := [0, 1, 2, 4, 5, 6, 7, 8, 9, 10, 11, 12, 13, 14, 15, 16, 17, 18, 19, 20, 22, 23, 24, 25, 26, 28, 29, 30, 31, 32, 33, 34, 35, 36, 37, 38, 39, 40, 41, 42, 43, 44, 45, 46, 47, 48, 49, 50, 51, 52, 53, 54, 55, 56, 57, 58, 59, 60, 61, 62]
theorem ir5_ok : (comp Tryz.prog Tryz.f5.ntmps ir5_V [] (Tryz.f5.body.getD .skip)).map IR.norm = some ir5 := by kernel_rfl
theorem ir5_calls {v0 v1 v2 : Value} {w : World} {R : Ending → World → Prop} (h : ∀ ρ : Env, ρ 0 = v0 → ρ 1 = v1 → ρ 2 = v2 → ir5.wp ⟨Tryz.prog, 93, ir5_V, []⟩ (retK [.tmp 6] R) (ksOf [.tmp 6] R) ρ w) :
    Calls Tryz.prog 5 #[v0, v1, v2] w R := by
  obtain ⟨ir0, h1, h2⟩ := Option.map_eq_some_iff.1 ir5_ok
  exact calls_ir (args := #[v0, v1, v2]) Tryz.func5 (c := (Tryz.f5.body.getD .skip)) rfl h1 h2 (by kernel_rfl) (show rvsOf Tryz.prog ir5_V Tryz.f5.results.toList = some [.tmp 6] by kernel_rfl) (Nat.le_of_ble_eq_true rfl) (h _ rfl rfl rfl)

/-! ### 6: argus/arguslaw01.TokenTight  params #[9] results #[4]  slots [(0, src), (3, s), (4, f), (5, t), (6, g)] -/
noncomputable def ir6_k0 : IR :=
  .seq (.reg [.asg none 13 (.var 0),
     .eff none (some 14) (.call { callee := .value (.func 35), args := #[(.tmp 13)], argTypes := #[9] }) 47,
     .asg none 12 (.var 14),
     .asg none 15 (.op1 (.ext 0) (.var 12)),
     .asg none 16 (.op1 (.ext 1) (.var 12)),
     .eff none (some 4) (.alloc 31) 0,
     .asg none 3 (.var 15),
     .eff none none (.store 31 (.tmp 4) (.tmp 16)) 0,
     .asg none 18 (.var 0),
     .eff none (some 19) (.call { callee := .value (.func 36), args := #[(.tmp 18)], argTypes := #[9] }) 47,
     .asg none 17 (.var 19),
     .asg none 20 (.op1 (.ext 0) (.var 17)),
     .asg none 21 (.op1 (.ext 1) (.var 17)),
     .eff none (some 6) (.alloc 31) 0,
     .asg none 5 (.var 20),
     .eff none none (.store 31 (.tmp 6) (.tmp 21)) 0,
     .eff none (some 22) (.call { callee := .value (.func 12), args := #[], argTypes := #[] }) 4,
     .asg none 28 (.ite (.var 22) (.op2 (.sbin .eql) (.var 3) (.var 5)) (.const (.bool false))),
     .asg (some (28, true)) 29 (.op1 (.loadN 2) (.var 4)),
     .asg (some (28, true)) 30 (.op1 (.loadN 2) (.var 6)),
     .eff (some (28, true)) (some 31) (.binOp .eql 31 (.tmp 29) (.tmp 30) 31) 4,
     .asg none 2 (.ite (.var 28) (.var 31) (.const (.bool false)))]) <|
  .ret
noncomputable def ir6 : IR :=
  .seq (.reg [.asg none 2 (.const (.bool false)),
     .asg none 7 (.var 0),
     .eff none (some 8) (.buildSlice 25 1 #[(0, (.tmp 7))]) 25,
     .eff none (some 9) (.call { callee := .value (.func 22), args := #[(.tmp 8)], argTypes := #[25] }) 4,
     .asg none 10 (.op1 .not (.var 9))]) <|
  .seq (.cond (.var 10)
    (.seq (.reg [.eff none (some 11) (.call { callee := .value (.func 12), args := #[], argTypes := #[] }) 4,
        .asg none 2 (.var 11)]) <|
     .ret)
    (.skip))
  (ir6_k0)
def ir6_V : List Nat := [0, 2, 3, 4, 5, 6, 7, 8, 9, 10, 11, 12, 13, 14, 15, 16, 17, 18, 19, 20, 21, 22, 28, 29, 30, 31]
theorem ir6_ok : (comp Tryz.prog Tryz.f6.ntmps ir6_V [] (Tryz.f6.body.getD .skip)).map IR.norm = some ir6 := by kernel_rfl
theorem ir6_calls {v0 : Value} {w : World} {R : Ending → World → Prop} (h : ∀ ρ : Env, ρ 0 = v0 → ir6.wp ⟨Tryz.prog, 33, ir6_V, []⟩ (retK [.tmp 2] R) (ksOf [.tmp 2] R) ρ w) :
    Calls Tryz.prog 6 #[v0] w R := by
  obtain ⟨ir0, h1, h2⟩ := Option.map_eq_some_iff.1 ir6_ok
  exact calls_ir (args := #[v0]) Tryz.func6 (c := (Tryz.f6.body.getD .skip)) rfl h1 h2 (by kernel_rfl) (show rvsOf Tryz.prog ir6_V Tryz.f6.results.toList = some [.tmp 2] by kernel_rfl) (Nat.le_of_ble_eq_true rfl) (h _ rfl)

/-! ### 7: argus/arguslaw01.TokenBack  params #[28, 9] results #[4]  slots [(0, l), (1, src), (5, s), (6, e), (7, back), (8, f), (9, a), (10, f), (11, t), (12, g), (13, b), (14, h), (15, u), (16, i)] -/
noncomputable def ir7_k0 : IR :=
  .seq (.reg [.asg none 75 (.var 11),
     .eff none (some 76) (.call { callee := .value (.func 23), args := #[(.tmp 75)], argTypes := #[9] }) 32,
     .asg none 74 (.var 76),
     .asg none 77 (.op1 (.ext 0) (.var 74)),
     .asg none 78 (.op1 (.ext 1) (.var 74)),
     .eff none (some 14) (.alloc 31) 0,
     .asg none 13 (.var 77),
     .eff none none (.store 31 (.tmp 14) (.tmp 78)) 0,
     .asg none 80 (.var 13),
     .eff none (some 81) (.call { callee := .value (.func 31), args := #[(.tmp 80)], argTypes := #[28] }) 42,
     .asg none 79 (.var 81),
     .asg none 82 (.op1 (.ext 0) (.var 79)),
     .asg none 83 (.op1 (.ext 1) (.var 79)),
     .asg none 15 (.var 82),
     .asg none 16 (.var 83),
     .eff none (some 84) (.call { callee := .value (.func 12), args := #[], argTypes := #[] }) 4,
     .asg none 85 (.var 84),
     .asg (some (85, true)) 86 (.op1 (.loadN 2) (.var 14)),
     .eff (some (85, true)) (some 87) (.build 31 #[]) 31,
     .eff (some (85, true)) (some 88) (.binOp .eql 31 (.tmp 86) (.tmp 87) 31) 4,
     .asg none 90 (.ite (.var 85) (.var 88) (.const (.bool false))),
     .asg (some (90, true)) 91 (.var 9),
     .asg (some (90, true)) 92 (.var 13),
     .eff (some (90, true)) (some 93) (.call { callee := .value (.func 27), args := #[(.tmp 91), (.tmp 92)], argTypes := #[28, 28] }) 4,
     .asg none 4 (.ite (.ite (.ite (.var 90) (.var 93) (.const (.bool false))) (.op2 (.ibin .eql .i64) (.var 16) (.const (.int .i64 0))) (.const (.bool false))) (.op2 (.sbin .eql) (.var 11) (.var 15)) (.const (.bool false)))]) <|
  .ret
noncomputable def ir7_k1 : IR :=
  .seq (.reg [.asg none 63 (.var 9),
     .eff none (some 64) (.call { callee := .value (.func 31), args := #[(.tmp 63)], argTypes := #[28] }) 42,
     .asg none 62 (.var 64),
     .asg none 65 (.op1 (.ext 0) (.var 62)),
     .asg none 66 (.op1 (.ext 1) (.var 62)),
     .asg none 11 (.var 65),
     .asg none 12 (.var 66),
     .asg none 68 (.op2 (.ibin .neq .i64) (.var 12) (.const (.int .i64 0)))]) <|
  .seq (.cond (.var 68)
    (.seq (.reg [.eff none (some 69) (.call { callee := .value (.func 12), args := #[], argTypes := #[] }) 4,
        .asg none 4 (.ite (.var 69) (.op2 (.ibin .eql .i64) (.var 12) (.const (.int .i64 2))) (.const (.bool false)))]) <|
     .ret)
    (.skip))
  (ir7_k0)
noncomputable def ir7_k2 : IR :=
  .seq (.reg [.asg none 49 (.var 1),
     .eff none (some 50) (.call { callee := .value (.func 23), args := #[(.tmp 49)], argTypes := #[9] }) 32,
     .asg none 48 (.var 50),
     .asg none 51 (.op1 (.ext 0) (.var 48)),
     .asg none 52 (.op1 (.ext 1) (.var 48)),
     .eff none (some 10) (.alloc 31) 0,
     .asg none 9 (.var 51),
     .eff none none (.store 31 (.tmp 10) (.tmp 52)) 0,
     .asg none 53 (.op1 (.loadN 2) (.var 10)),
     .eff none (some 54) (.build 31 #[]) 31,
     .eff none (some 55) (.binOp .neq 31 (.tmp 53) (.tmp 54) 31) 4]) <|
  .seq (.cond (.var 55)
    (.seq (.reg [.eff none (some 56) (.call { callee := .value (.func 12), args := #[], argTypes := #[] }) 4,
        .asg none 4 (.ite (.var 56) (.op2 (.ibin .eql .i64) (.op1 .lenS (.var 9)) (.const (.int .i64 0))) (.const (.bool false)))]) <|
     .ret)
    (.skip))
  (ir7_k1)
noncomputable def ir7_k3 : IR :=
  .seq (.reg [.asg none 28 (.var 0),
     .eff none (some 29) (.call { callee := .value (.func 31), args := #[(.tmp 28)], argTypes := #[28] }) 42,
     .asg none 27 (.var 29),
     .asg none 30 (.op1 (.ext 0) (.var 27)),
     .asg none 31 (.op1 (.ext 1) (.var 27)),
     .asg none 5 (.var 30),
     .asg none 6 (.var 31),
     .asg none 33 (.op2 (.ibin .eql .i64) (.var 6) (.const (.int .i64 0)))]) <|
  .seq (.cond (.var 33)
    (.seq (.reg [.asg none 35 (.var 5),
        .eff none (some 36) (.call { callee := .value (.func 23), args := #[(.tmp 35)], argTypes := #[9] }) 32,
        .asg none 34 (.var 36),
        .asg none 37 (.op1 (.ext 0) (.var 34)),
        .asg none 38 (.op1 (.ext 1) (.var 34)),
        .eff none (some 8) (.alloc 31) 0,
        .asg none 7 (.var 37),
        .eff none none (.store 31 (.tmp 8) (.tmp 38)) 0,
        .asg none 39 (.op1 (.loadN 2) (.var 8)),
        .eff none (some 40) (.build 31 #[]) 31,
        .eff none (some 41) (.binOp .neq 31 (.tmp 39) (.tmp 40) 31) 4,
        .asg none 42 (.var 41),
        .asg (some (42, false)) 43 (.var 7),
        .asg (some (42, false)) 44 (.var 0),
        .eff (some (42, false)) (some 45) (.call { callee := .value (.func 27), args := #[(.tmp 43), (.tmp 44)], argTypes := #[28, 28] }) 4,
        .asg none 47 (.ite (.var 42) (.const (.bool true)) (.op1 .not (.var 45)))]) <|
     .cond (.var 47)
      (.seq (.reg [.asg none 4 (.const (.bool false))]) <|
       .ret)
      (.skip))
    (.skip))
  (ir7_k2)
noncomputable def ir7 : IR :=
  .seq (.reg [.asg none 4 (.const (.bool false)),
     .asg none 17 (.var 0),
     .eff none (some 18) (.call { callee := .value (.func 28), args := #[(.tmp 17)], argTypes := #[28] }) 4,
     .asg none 20 (.op1 .not (.var 18)),
     .asg (some (20, false)) 21 (.var 1),
     .eff (some (20, false)) (some 22) (.buildSlice 25 1 #[(0, (.tmp 21))]) 25,
     .eff (some (20, false)) (some 23) (.call { callee := .value (.func 22), args := #[(.tmp 22)], argTypes := #[25] }) 4,
     .asg none 25 (.ite (.var 20) (.const (.bool true)) (.op1 .not (.var 23)))]) <|
  .seq (.cond (.var 25)
    (.seq (.reg [.eff none (some 26) (.call { callee := .value (.func 12), args := #[], argTypes := #[] }) 4,
        .asg none 4 (.var 26)]) <|
     .ret)
    (.skip))
  (ir7_k3)
def ir7_V : List Nat := [0, 1, 4, 5, 6, 7, 8, 9, 10, 11, 12, 13, 14, 15, 16, 17, 18, 20, 21, 22, 23, 25, 26, 27, 28, 29, 30, 31, 33, 34, 35, 36, 37, 38, 39, 40, 41, 42, 43, 44, 45, 47, 48, 49, 50, 51, 52, 53, 54, 55, 56, 62, 63, 64, 65, 66, 68, 69, 74, 75, 76, 77, 78, 79, 80, 81, 82, 83, 84, 85, 86, 87, 88, 90, 91, 92, 93]
theorem ir7_ok : (comp Tryz.prog Tryz.f7.ntmps ir7_V [] (Tryz.f7.body.getD .skip)).map IR.norm = some ir7 := by kernel_rfl
theorem ir7_calls {v0 v1 : Value} {w : World} {R : Ending → World → Prop} (h : ∀ ρ : Env, ρ 0 = v0 → ρ 1 = v1 → ir7.wp ⟨Tryz.prog, 104, ir7_V, []⟩ (retK [.tmp 4] R) (ksOf [.tmp 4] R) ρ w) :
    Calls Tryz.prog 7 #[v0, v1] w R := by
  obtain ⟨ir0, h1, h2⟩ := Option.map_eq_some_iff.1 ir7_ok
  exact calls_ir (args := #[v0, v1]) Tryz.func7 (c := (Tryz.f7.body.getD .skip)) rfl h1 h2 (by kernel_rfl) (show rvsOf Tryz.prog ir7_V Tryz.f7.results.toList = some [.tmp 4] by kernel_rfl) (Nat.le_of_ble_eq_true rfl) (h _ rfl rfl)

/-! ### 8: argus/arguslaw01.TokenShortest  params #[9, 9] results #[4]  slots [(0, src), (1, other), (5, a), (6, f), (7, s), (8, g), (9, b), (10, h), (11, t), (12, i), (13, k), (14, c), (15, j)] -/
noncomputable def ir8_k0 : IR :=
  .reg [.asg none 13 (.op2 (.ibin .add .i64) (.var 13) (.const (.int .i64 1)))]
noncomputable def ir8_k1 : IR :=
  .seq (.block 1 (.seq (.reg [.asg none 90 (.op2 (.ibin .neq .i64) (.op1 .load1 (.op1 (.fadr 2) (.op2 (.ixa 3) (.var 9) (.var 13)))) (.const (.int .i64 1)))]) <|
    .cond (.var 90)
     (.seq (.reg [.asg none 4 (.const (.bool false))]) <|
      .ret)
     (.skip)))
  (ir8_k0)
noncomputable def ir8_l2 : IR :=
  .seq (.reg [.asg none 82 (.op2 (.ibin .lss .i64) (.var 13) (.op1 .lenS (.var 9)))]) <|
  .seq (.cond (.var 82)
    (.skip)
    (.exit 0))
  (ir8_k1)
noncomputable def ir8_k3 : IR :=
  .seq (.reg [.asg none 92 (.var 1),
     .eff none (some 93) (.call { callee := .value (.func 23), args := #[(.tmp 92)], argTypes := #[9] }) 32,
     .asg none 91 (.var 93),
     .asg none 94 (.op1 (.ext 0) (.var 91)),
     .asg none 95 (.op1 (.ext 1) (.var 91)),
     .eff none (some 15) (.alloc 31) 0,
     .asg none 14 (.var 94),
     .eff none none (.store 31 (.tmp 15) (.tmp 95)) 0,
     .eff none (some 96) (.call { callee := .value (.func 12), args := #[], argTypes := #[] }) 4,
     .asg none 97 (.var 96),
     .asg (some (97, true)) 98 (.op1 (.loadN 2) (.var 15)),
     .eff (some (97, true)) (some 99) (.build 31 #[]) 31,
     .eff (some (97, true)) (some 100) (.binOp .neq 31 (.tmp 98) (.tmp 99) 31) 4,
     .asg (some (97, true)) 101 (.var 100),
     .asg (some (101, false)) 102 (.var 5),
     .asg (some (101, false)) 103 (.var 14),
     .eff (some (101, false)) (some 104) (.call { callee := .value (.func 37), args := #[(.tmp 102), (.tmp 103)], argTypes := #[28, 28] }) 4,
     .asg (some (101, false)) 105 (.op1 .not (.var 104)),
     .asg none 4 (.ite (.var 97) (.ite (.ite (.var 101) (.const (.bool true)) (.var 105)) (.const (.bool true)) (.op2 (.ibin .geq .i64) (.op1 .lenT (.var 1)) (.op1 .lenT (.var 7)))) (.const (.bool false)))]) <|
  .ret
noncomputable def ir8_k4 : IR :=
  .seq (.reg [.asg none 13 (.const (.int .i64 0))]) <|
  .seq (.block 0 (.loop ir8_l2))
  (ir8_k3)
noncomputable def ir8_k5 : IR :=
  .seq (.reg [.asg none 44 (.var 7),
     .eff none (some 45) (.call { callee := .value (.func 23), args := #[(.tmp 44)], argTypes := #[9] }) 32,
     .asg none 43 (.var 45),
     .asg none 46 (.op1 (.ext 0) (.var 43)),
     .asg none 47 (.op1 (.ext 1) (.var 43)),
     .eff none (some 10) (.alloc 31) 0,
     .asg none 9 (.var 46),
     .eff none none (.store 31 (.tmp 10) (.tmp 47)) 0,
     .asg none 49 (.var 7),
     .eff none (some 50) (.call { callee := .value (.func 35), args := #[(.tmp 49)], argTypes := #[9] }) 47,
     .asg none 48 (.var 50),
     .asg none 51 (.op1 (.ext 0) (.var 48)),
     .asg none 52 (.op1 (.ext 1) (.var 48)),
     .eff none (some 12) (.alloc 31) 0,
     .asg none 11 (.var 51),
     .eff none none (.store 31 (.tmp 12) (.tmp 52)) 0,
     .asg none 53 (.op1 (.loadN 2) (.var 10)),
     .eff none (some 54) (.build 31 #[]) 31,
     .eff none (some 55) (.binOp .neq 31 (.tmp 53) (.tmp 54) 31) 4,
     .asg none 56 (.var 55),
     .asg (some (56, false)) 57 (.op1 (.loadN 2) (.var 12)),
     .asg (some (56, false)) 58 (.op1 (.loadN 2) (.var 10)),
     .eff (some (56, false)) (some 59) (.binOp .neq 31 (.tmp 57) (.tmp 58) 31) 4,
     .asg none 66 (.ite (.ite (.var 56) (.const (.bool true)) (.var 59)) (.const (.bool true)) (.op2 (.sbin .neq) (.var 11) (.var 7))),
     .asg (some (66, false)) 67 (.var 5),
     .asg (some (66, false)) 68 (.var 9),
     .eff (some (66, false)) (some 69) (.call { callee := .value (.func 37), args := #[(.tmp 67), (.tmp 68)], argTypes := #[28, 28] }) 4,
     .asg none 78 (.ite (.ite (.var 66) (.const (.bool true)) (.op1 .not (.var 69))) (.const (.bool true)) (.op2 (.ibin .gtr .i64) (.op1 .lenT (.var 7)) (.op1 .lenT (.var 0))))]) <|
  .seq (.cond (.var 78)
    (.seq (.reg [.asg none 4 (.const (.bool false))]) <|
     .ret)
    (.skip))
  (ir8_k4)
noncomputable def ir8_k6 : IR :=
  .seq (.reg [.asg none 35 (.op1 (.loadN 2) (.var 6)),
     .eff none (some 36) (.build 31 #[]) 31,
     .eff none (some 37) (.binOp .neq 31 (.tmp 35) (.tmp 36) 31) 4]) <|
  .seq (.cond (.var 37)
    (.seq (.reg [.eff none (some 38) (.call { callee := .value (.func 12), args := #[], argTypes := #[] }) 4,
        .asg none 4 (.ite (.var 38) (.op2 (.sbin .eql) (.var 7) (.const (.string ⟨#[]⟩))) (.const (.bool false)))]) <|
     .ret)
    (.skip))
  (ir8_k5)
noncomputable def ir8_k7 : IR :=
  .seq (.reg [.asg none 23 (.var 0),
     .eff none (some 24) (.call { callee := .value (.func 23), args := #[(.tmp 23)], argTypes := #[9] }) 32,
     .asg none 22 (.var 24),
     .asg none 25 (.op1 (.ext 0) (.var 22)),
     .asg none 26 (.op1 (.ext 1) (.var 22)),
     .eff none (some 6) (.alloc 31) 0,
     .asg none 5 (.var 25),
     .eff none none (.store 31 (.tmp 6) (.tmp 26)) 0,
     .asg none 28 (.var 0),
     .eff none (some 29) (.call { callee := .value (.func 35), args := #[(.tmp 28)], argTypes := #[9] }) 47,
     .asg none 27 (.var 29),
     .asg none 30 (.op1 (.ext 0) (.var 27)),
     .asg none 31 (.op1 (.ext 1) (.var 27)),
     .eff none (some 8) (.alloc 31) 0,
     .asg none 7 (.var 30),
     .eff none none (.store 31 (.tmp 8) (.tmp 31)) 0,
     .asg none 32 (.op1 (.loadN 2) (.var 6)),
     .asg none 33 (.op1 (.loadN 2) (.var 8)),
     .eff none (some 34) (.binOp .neq 31 (.tmp 32) (.tmp 33) 31) 4]) <|
  .seq (.cond (.var 34)
    (.seq (.reg [.asg none 4 (.const (.bool false))]) <|
     .ret)
    (.skip))
  (ir8_k6)
noncomputable def ir8 : IR :=
  .seq (.reg [.asg none 4 (.const (.bool false)),
     .asg none 16 (.var 0),
     .asg none 17 (.var 1),
     .eff none (some 18) (.buildSlice 25 2 #[(0, (.tmp 16)), (1, (.tmp 17))]) 25,
     .eff none (some 19) (.call { callee := .value (.func 22), args := #[(.tmp 18)], argTypes := #[25] }) 4,
     .asg none 20 (.op1 .not (.var 19))]) <|
  .seq (.cond (.var 20)
    (.seq (.reg [.eff none (some 21) (.call { callee := .value (.func 12), args := #[], argTypes := #[] }) 4,
        .asg none 4 (.var 21)]) <|
     .ret)
    (.skip))
  (ir8_k7)
def ir8_V : List Nat := [0, 1, 4, 5, 6, 7, 8, 9, 10, 11, 12, 13, 14, 15, 16, 17, 18, 19, 20, 21, 22, 23, 24, 25, 26, 27, 28, 29, 30, 31, 32, 33, 34, 35, 36, 37, 38, 43, 44, 45, 46, 47, 48, 49, 50, 51, 52, 53, 54, 55, 56, 57, 58, 59, 66, 67, 68, 69, 78, 82, 90, 91, 92, 93, 94, 95, 96, 97, 98, 99, 100, 101, 102, 103, 104, 105]
theorem ir8_ok : (comp Tryz.prog Tryz.f8.ntmps ir8_V [] (Tryz.f8.body.getD .skip)).map IR.norm = some ir8 := by kernel_rfl
theorem ir8_calls {v0 v1 : Value} {w : World} {R : Ending → World → Prop} (h : ∀ ρ : Env, ρ 0 = v0 → ρ 1 = v1 → ir8.wp ⟨Tryz.prog, 115, ir8_V, []⟩ (retK [.tmp 4] R) (ksOf [.tmp 4] R) ρ w) :
    Calls Tryz.prog 8 #[v0, v1] w R := by
  obtain ⟨ir0, h1, h2⟩ := Option.map_eq_some_iff.1 ir8_ok
  exact calls_ir (args := #[v0, v1]) Tryz.func8 (c := (Tryz.f8.body.getD .skip)) rfl h1 h2 (by kernel_rfl) (show rvsOf Tryz.prog ir8_V Tryz.f8.results.toList = some [.tmp 4] by kernel_rfl) (Nat.le_of_ble_eq_true rfl) (h _ rfl rfl)

/-! ### 9: argus/arguslaw01.TokenApart  params #[38, 38] results #[4]  slots [(0, a), (1, b), (2, a), (3, b), (5, both), (6, is), (7, e), (8, _), (9, f), (10, l), (11, g), (12, m), (13, h)] -/
noncomputable def ir9_k0 : IR :=
  .seq (.reg [.asg none 56 (.op2 (.sbin .add) (.op1 .load1 (.op1 (.fadr 1) (.var 2))) (.op1 .load1 (.op1 (.fadr 1) (.var 3)))),
     .eff none (some 57) (.call { callee := .value (.func 23), args := #[(.tmp 56)], argTypes := #[9] }) 32,
     .asg none 51 (.var 57),
     .asg none 58 (.op1 (.ext 0) (.var 51)),
     .asg none 59 (.op1 (.ext 1) (.var 51)),
     .eff none (some 11) (.alloc 31) 0,
     .asg none 10 (.var 58),
     .eff none none (.store 31 (.tmp 11) (.tmp 59)) 0,
     .asg none 66 (.op2 (.sbin .add) (.op2 (.sbin .add) (.op1 .load1 (.op1 (.fadr 1) (.var 2))) (.const (.string ⟨#[32]⟩))) (.op1 .load1 (.op1 (.fadr 1) (.var 3)))),
     .eff none (some 67) (.call { callee := .value (.func 23), args := #[(.tmp 66)], argTypes := #[9] }) 32,
     .asg none 60 (.var 67),
     .asg none 68 (.op1 (.ext 0) (.var 60)),
     .asg none 69 (.op1 (.ext 1) (.var 60)),
     .eff none (some 13) (.alloc 31) 0,
     .asg none 12 (.var 68),
     .eff none none (.store 31 (.tmp 13) (.tmp 69)) 0,
     .eff none (some 70) (.call { callee := .value (.func 12), args := #[], argTypes := #[] }) 4,
     .asg none 71 (.var 70),
     .asg (some (71, true)) 72 (.var 6),
     .asg (some (71, true)) 73 (.op1 (.loadN 2) (.var 11)),
     .eff (some (71, true)) (some 74) (.build 31 #[]) 31,
     .eff (some (71, true)) (some 75) (.binOp .neq 31 (.tmp 73) (.tmp 74) 31) 4,
     .asg (some (71, true)) 76 (.var 75),
     .asg (some (76, false)) 77 (.var 10),
     .asg (some (76, false)) 78 (.var 5),
     .eff (some (76, false)) (some 79) (.call { callee := .value (.func 27), args := #[(.tmp 77), (.tmp 78)], argTypes := #[28, 28] }) 4,
     .asg (some (76, false)) 80 (.op1 .not (.var 79)),
     .asg none 84 (.ite (.var 71) (.op2 (.bbin .eql) (.var 72) (.ite (.var 76) (.const (.bool true)) (.var 80))) (.const (.bool false))),
     .asg (some (84, true)) 85 (.op1 (.loadN 2) (.var 13)),
     .eff (some (84, true)) (some 86) (.build 31 #[]) 31,
     .eff (some (84, true)) (some 87) (.binOp .eql 31 (.tmp 85) (.tmp 86) 31) 4,
     .asg none 89 (.ite (.var 84) (.var 87) (.const (.bool false))),
     .asg (some (89, true)) 90 (.var 12),
     .asg (some (89, true)) 91 (.var 5),
     .eff (some (89, true)) (some 92) (.call { callee := .value (.func 27), args := #[(.tmp 90), (.tmp 91)], argTypes := #[28, 28] }) 4,
     .asg none 4 (.ite (.var 89) (.var 92) (.const (.bool false)))]) <|
  .ret
noncomputable def ir9_k1 : IR :=
  .seq (.reg [.asg none 24 (.op1 (.loadN 3) (.var 2)),
     .asg none 25 (.op1 (.loadN 3) (.var 3)),
     .eff none (some 26) (.call { callee := .value (.func 33), args := #[(.tmp 24), (.tmp 25)], argTypes := #[38, 38] }) 44,
     .asg none 23 (.var 26),
     .asg none 27 (.op1 (.ext 0) (.var 23)),
     .asg none 28 (.op1 (.ext 1) (.var 23)),
     .asg none 6 (.var 27),
     .asg none 7 (.var 28),
     .asg none 30 (.var 5),
     .eff none (some 31) (.call { callee := .value (.func 29), args := #[(.tmp 30)], argTypes := #[28] }) 40,
     .asg none 29 (.var 31),
     .asg none 32 (.op1 (.ext 0) (.var 29)),
     .asg none 33 (.op1 (.ext 1) (.var 29)),
     .asg none 8 (.var 32),
     .asg none 9 (.var 33),
     .asg none 40 (.ite (.op2 (.ibin .neq .i64) (.var 7) (.var 9)) (.const (.bool true)) (.op2 (.ibin .neq .i64) (.var 7) (.const (.int .i64 0))))]) <|
  .seq (.cond (.var 40)
    (.seq (.reg [.eff none (some 41) (.call { callee := .value (.func 12), args := #[], argTypes := #[] }) 4,
        .asg none 4 (.ite (.ite (.var 41) (.op2 (.ibin .eql .i64) (.var 7) (.var 9)) (.const (.bool false))) (.op1 .not (.var 6)) (.const (.bool false)))]) <|
     .ret)
    (.skip))
  (ir9_k0)
noncomputable def ir9 : IR :=
  .seq (.reg [.eff none (some 2) (.box 38 (.tmp 0)) 0,
     .eff none (some 3) (.box 38 (.tmp 1)) 0,
     .asg none 4 (.const (.bool false)),
     .asg none 14 (.op1 (.fadr 2) (.var 2)),
     .eff none none (.store 3 (.tmp 14) (.const (.int .i64 1))) 0,
     .asg none 15 (.op1 (.fadr 2) (.var 3)),
     .eff none none (.store 3 (.tmp 15) (.const (.int .i64 1))) 0,
     .asg none 16 (.op1 (.loadN 3) (.var 2)),
     .asg none 17 (.op1 (.loadN 3) (.var 3)),
     .eff none (some 18) (.buildSlice 28 2 #[(0, (.tmp 16)), (1, (.tmp 17))]) 28,
     .asg none 5 (.var 18),
     .asg none 19 (.var 5),
     .eff none (some 20) (.call { callee := .value (.func 28), args := #[(.tmp 19)], argTypes := #[28] }) 4,
     .asg none 21 (.op1 .not (.var 20))]) <|
  .seq (.cond (.var 21)
    (.seq (.reg [.eff none (some 22) (.call { callee := .value (.func 12), args := #[], argTypes := #[] }) 4,
        .asg none 4 (.var 22)]) <|
     .ret)
    (.skip))
  (ir9_k1)
def ir9_V : List Nat := [0, 1, 2, 3, 4, 5, 6, 7, 8, 9, 10, 11, 12, 13, 14, 15, 16, 17, 18, 19, 20, 21, 22, 23, 24, 25, 26, 27, 28, 29, 30, 31, 32, 33, 40, 41, 51, 56, 57, 58, 59, 60, 66, 67, 68, 69, 70, 71, 72, 73, 74, 75, 76, 77, 78, 79, 80, 84, 85, 86, 87, 89, 90, 91, 92]
theorem ir9_ok : (comp Tryz.prog Tryz.f9.ntmps ir9_V [] (Tryz.f9.body.getD .skip)).map IR.norm = some ir9 := by kernel_rfl
theorem ir9_calls {v0 v1 : Value} {w : World} {R : Ending → World → Prop} (h : ∀ ρ : Env, ρ 0 = v0 → ρ 1 = v1 → ir9.wp ⟨Tryz.prog, 94, ir9_V, []⟩ (retK [.tmp 4] R) (ksOf [.tmp 4] R) ρ w) :
    Calls Tryz.prog 9 #[v0, v1] w R := by
  obtain ⟨ir0, h1, h2⟩ := Option.map_eq_some_iff.1 ir9_ok
  exact calls_ir (args := #[v0, v1]) Tryz.func9 (c := (Tryz.f9.body.getD .skip)) rfl h1 h2 (by kernel_rfl) (show rvsOf Tryz.prog ir9_V Tryz.f9.results.toList = some [.tmp 4] by kernel_rfl) (Nat.le_of_ble_eq_true rfl) (h _ rfl rfl)

/-! ### 10: argus/arguslaw01.TokenComments  params #[9, 9] results #[4]  slots [(0, one), (1, two), (5, a), (6, f), (7, lines), (8, bare), (9, out), (10, i), (11, b), (12, g), (13, c), (14, h), (15, all), (16, k), (17, d), (18, m), (19, i), (20, x)] -/
noncomputable def ir10_body : Code := ((Tryz.f10.body).getD .skip)
noncomputable def ir10_k0 : IR :=
  .seq (.reg [.asg none 9 (.ite (.var 9) (.const (.bool true)) (.op2 (.ibin .eql .u8) (.op2 .ixs (.var 0) (.var 10)) (.const (.int .u8 37)))),
     .asg none 59 (.op1 .not (.var 9))]) <|
  .cond (.var 59)
   (.reg [.asg none 8 (.op2 (.sbin .add) (.var 8) (.op3 .stLoHi (.var 0) (.var 10) (.op2 (.ibin .add .i64) (.var 10) (.const (.int .i64 1)))))])
   (.skip)
noncomputable def ir10_k1 : IR :=
  .reg [.asg none 10 (.op2 (.ibin .add .i64) (.var 10) (.const (.int .i64 1)))]
noncomputable def ir10_k2 : IR :=
  .seq (.block 1 (.seq (.reg [.asg none 48 (.op2 (.ibin .eql .u8) (.op2 .ixs (.var 0) (.var 10)) (.const (.int .u8 10)))]) <|
    .seq (.cond (.var 48)
      (.reg [.asg none 7 (.op2 (.ibin .add .i64) (.var 7) (.const (.int .i64 1))),
         .asg none 9 (.const (.bool false))])
      (.skip))
    (ir10_k0)))
  (ir10_k1)
noncomputable def ir10_l3 : IR :=
  .seq (.reg [.asg none 42 (.op2 (.ibin .lss .i64) (.var 10) (.op1 .lenT (.var 0)))]) <|
  .seq (.cond (.var 42)
    (.skip)
    (.exit 0))
  (ir10_k2)
noncomputable def ir10_k4 : IR :=
  .cond (.var 176)
   (.seq (.reg [.asg none 4 (.const (.bool false))]) <|
    .ret)
   (.skip)
noncomputable def ir10_k5 : IR :=
  .reg [.asg none 19 (.op2 (.ibin .add .i64) (.var 19) (.const (.int .i64 1)))]
noncomputable def ir10_k6 : IR :=
  .seq (.block 3 (.seq (.reg [.asg none 161 (.op1 (.loadN 3) (.op2 (.ixa 3) (.var 17) (.var 19))),
       .eff none (some 20) (.alloc 38) 0,
       .eff none none (.store 38 (.tmp 20) (.tmp 161)) 0,
       .asg none 166 (.op2 (.ibin .add .i64) (.op2 (.ibin .add .i64) (.op1 .load1 (.op1 (.fadr 2) (.var 20))) (.var 7)) (.const (.int .i64 1))),
       .asg none 167 (.op1 (.fadr 2) (.var 20)),
       .eff none none (.store 3 (.tmp 167) (.tmp 166)) 0]) <|
    .seq (.raw (rawReg ir10_body 33))
    (ir10_k4)))
  (ir10_k5)
noncomputable def ir10_l7 : IR :=
  .seq (.reg [.asg none 155 (.op2 (.ibin .lss .i64) (.var 19) (.op1 .lenS (.var 17)))]) <|
  .seq (.cond (.var 155)
    (.skip)
    (.exit 2))
  (ir10_k6)
noncomputable def ir10_k8 : IR :=
  .seq (.reg [.eff none (some 177) (.call { callee := .value (.func 12), args := #[], argTypes := #[] }) 4,
     .asg none 4 (.var 177)]) <|
  .ret
noncomputable def ir10_k9 : IR :=
  .seq (.reg [.asg none 19 (.const (.int .i64 0))]) <|
  .seq (.block 2 (.loop ir10_l7))
  (ir10_k8)
noncomputable def ir10_k10 : IR :=
  .seq (.reg [.asg none 130 (.op1 (.loadN 2) (.var 16)),
     .asg none 131 (.op1 (.loadN 2) (.var 18)),
     .eff none (some 132) (.binOp .neq 31 (.tmp 130) (.tmp 131) 31) 4,
     .asg none 143 (.ite (.var 132) (.const (.bool true)) (.op2 (.ibin .neq .i64) (.op1 .lenS (.var 15)) (.op2 (.ibin .add .i64) (.op1 .lenS (.var 5)) (.op1 .lenS (.var 17))))),
     .asg (some (143, false)) 147 (.op3 (.slLoHi 3) (.var 15) (.const (.int .i64 0)) (.op1 .lenS (.var 5))),
     .asg (some (143, false)) 148 (.var 5),
     .eff (some (143, false)) (some 149) (.call { callee := .value (.func 27), args := #[(.tmp 147), (.tmp 148)], argTypes := #[28, 28] }) 4,
     .asg none 151 (.ite (.var 143) (.const (.bool true)) (.op1 .not (.var 149)))]) <|
  .seq (.cond (.var 151)
    (.seq (.reg [.asg none 4 (.const (.bool false))]) <|
     .ret)
    (.skip))
  (ir10_k9)
noncomputable def ir10_k11 : IR :=
  .seq (.reg [.asg none 100 (.op2 (.sbin .add) (.op2 (.sbin .add) (.var 0) (.const (.string ⟨#[10]⟩))) (.var 1)),
     .eff none (some 101) (.call { callee := .value (.func 23), args := #[(.tmp 100)], argTypes := #[9] }) 32,
     .asg none 96 (.var 101),
     .asg none 102 (.op1 (.ext 0) (.var 96)),
     .asg none 103 (.op1 (.ext 1) (.var 96)),
     .eff none (some 16) (.alloc 31) 0,
     .asg none 15 (.var 102),
     .eff none none (.store 31 (.tmp 16) (.tmp 103)) 0,
     .asg none 105 (.var 1),
     .eff none (some 106) (.call { callee := .value (.func 23), args := #[(.tmp 105)], argTypes := #[9] }) 32,
     .asg none 104 (.var 106),
     .asg none 107 (.op1 (.ext 0) (.var 104)),
     .asg none 108 (.op1 (.ext 1) (.var 104)),
     .eff none (some 18) (.alloc 31) 0,
     .asg none 17 (.var 107),
     .eff none none (.store 31 (.tmp 18) (.tmp 108)) 0,
     .asg none 109 (.op1 (.loadN 2) (.var 18)),
     .eff none (some 110) (.build 31 #[]) 31,
     .eff none (some 111) (.binOp .neq 31 (.tmp 109) (.tmp 110) 31) 4]) <|
  .seq (.cond (.var 111)
    (.seq (.reg [.eff none (some 112) (.call { callee := .value (.func 12), args := #[], argTypes := #[] }) 4,
        .asg none 113 (.var 112),
        .asg (some (113, true)) 114 (.op1 (.loadN 2) (.var 16)),
        .asg (some (113, true)) 116 (.op1 .load1 (.op1 (.fadr 0) (.var 18))),
        .asg (some (113, true)) 121 (.op2 (.ibin .add .i64) (.op2 (.ibin .add .i64) (.op1 .load1 (.op1 (.fadr 1) (.var 18))) (.var 7)) (.const (.int .i64 1))),
        .eff (some (113, true)) (some 122) (.build 31 #[(0, (.tmp 116)), (1, (.tmp 121))]) 31,
        .eff (some (113, true)) (some 123) (.binOp .eql 31 (.tmp 114) (.tmp 122) 31) 4,
        .asg none 4 (.ite (.ite (.var 113) (.var 123) (.const (.bool false))) (.op2 (.ibin .eql .i64) (.op1 .lenS (.var 15)) (.const (.int .i64 0))) (.const (.bool false)))]) <|
     .ret)
    (.skip))
  (ir10_k10)
noncomputable def ir10_k12 : IR :=
  .seq (.reg [.asg none 68 (.var 8),
     .eff none (some 69) (.call { callee := .value (.func 23), args := #[(.tmp 68)], argTypes := #[9] }) 32,
     .asg none 67 (.var 69),
     .asg none 70 (.op1 (.ext 0) (.var 67)),
     .asg none 71 (.op1 (.ext 1) (.var 67)),
     .eff none (some 12) (.alloc 31) 0,
     .asg none 11 (.var 70),
     .eff none none (.store 31 (.tmp 12) (.tmp 71)) 0,
     .asg none 73 (.var 8),
     .eff none (some 74) (.call { callee := .value (.func 25), args := #[(.tmp 73)], argTypes := #[9] }) 34,
     .asg none 72 (.var 74),
     .asg none 75 (.op1 (.ext 0) (.var 72)),
     .asg none 76 (.op1 (.ext 1) (.var 72)),
     .eff none (some 14) (.alloc 31) 0,
     .asg none 13 (.var 75),
     .eff none none (.store 31 (.tmp 14) (.tmp 76)) 0,
     .asg none 77 (.op1 (.loadN 2) (.var 12)),
     .asg none 78 (.op1 (.loadN 2) (.var 6)),
     .eff none (some 79) (.binOp .neq 31 (.tmp 77) (.tmp 78) 31) 4,
     .asg none 80 (.var 79),
     .asg (some (80, false)) 81 (.op1 (.loadN 2) (.var 14)),
     .asg (some (80, false)) 82 (.op1 (.loadN 2) (.var 6)),
     .eff (some (80, false)) (some 83) (.binOp .neq 31 (.tmp 81) (.tmp 82) 31) 4,
     .asg none 90 (.ite (.ite (.var 80) (.const (.bool true)) (.var 83)) (.const (.bool true)) (.op2 (.ibin .neq .i64) (.op1 .lenS (.var 13)) (.const (.int .i64 0)))),
     .asg (some (90, false)) 91 (.var 5),
     .asg (some (90, false)) 92 (.var 11),
     .eff (some (90, false)) (some 93) (.call { callee := .value (.func 27), args := #[(.tmp 91), (.tmp 92)], argTypes := #[28, 28] }) 4,
     .asg none 95 (.ite (.var 90) (.const (.bool true)) (.op1 .not (.var 93)))]) <|
  .seq (.cond (.var 95)
    (.seq (.reg [.asg none 4 (.const (.bool false))]) <|
     .ret)
    (.skip))
  (ir10_k11)
noncomputable def ir10_k13 : IR :=
  .seq (.reg [.asg none 7 (.const (.int .i64 0)),
     .asg none 8 (.const (.string ⟨#[]⟩)),
     .asg none 9 (.const (.bool false)),
     .asg none 10 (.const (.int .i64 0))]) <|
  .seq (.block 0 (.loop ir10_l3))
  (ir10_k12)
noncomputable def ir10_k14 : IR :=
  .seq (.reg [.asg none 31 (.var 0),
     .eff none (some 32) (.call { callee := .value (.func 23), args := #[(.tmp 31)], argTypes := #[9] }) 32,
     .asg none 30 (.var 32),
     .asg none 33 (.op1 (.ext 0) (.var 30)),
     .asg none 34 (.op1 (.ext 1) (.var 30)),
     .eff none (some 6) (.alloc 31) 0,
     .asg none 5 (.var 33),
     .eff none none (.store 31 (.tmp 6) (.tmp 34)) 0,
     .asg none 35 (.op1 (.loadN 2) (.var 6)),
     .eff none (some 36) (.build 31 #[]) 31,
     .eff none (some 37) (.binOp .neq 31 (.tmp 35) (.tmp 36) 31) 4]) <|
  .seq (.cond (.var 37)
    (.seq (.reg [.eff none (some 38) (.call { callee := .value (.func 12), args := #[], argTypes := #[] }) 4,
        .asg none 4 (.var 38)]) <|
     .ret)
    (.skip))
  (ir10_k13)
noncomputable def ir10 : IR :=
  .seq (.reg [.asg none 4 (.const (.bool false)),
     .asg none 28 (.ite (.op2 (.ibin .gtr .i64) (.op1 .lenT (.var 0)) (.const (.int .i64 1500))) (.const (.bool true)) (.op2 (.ibin .gtr .i64) (.op1 .lenT (.var 1)) (.const (.int .i64 1500))))]) <|
  .seq (.cond (.var 28)
    (.seq (.reg [.eff none (some 29) (.call { callee := .value (.func 12), args := #[], argTypes := #[] }) 4,
        .asg none 4 (.var 29)]) <|
     .ret)
    (.skip))
  (ir10_k14)
def ir10_V : List Nat := [0, 1, 4, 5, 6, 7, 8, 9, 10, 11, 12, 13, 14, 15, 16, 17, 18, 19, 20, 28, 29, 30, 31, 32, 33, 34, 35, 36, 37, 38, 42, 48, 59, 67, 68, 69, 70, 71, 72, 73, 74, 75, 76, 77, 78, 79, 80, 81, 82, 83, 90, 91, 92, 93, 95, 96, 100, 101, 102, 103, 104, 105, 106, 107, 108, 109, 110, 111, 112, 113, 114, 116, 121, 122, 123, 130, 131, 132, 143, 147, 148, 149, 151, 155, 161, 166, 167, 168, 169, 170, 171, 172, 173, 174, 175, 176, 177]
theorem ir10_ok : (comp Tryz.prog Tryz.f10.ntmps ir10_V [33] (Tryz.f10.body.getD .skip)).map IR.norm = some ir10 := by kernel_rfl
theorem ir10_calls {v0 v1 : Value} {w : World} {R : Ending → World → Prop} (h : ∀ ρ : Env, ρ 0 = v0 → ρ 1 = v1 → ir10.wp ⟨Tryz.prog, 178, ir10_V, []⟩ (retK [.tmp 4] R) (ksOf [.tmp 4] R) ρ w) :
    Calls Tryz.prog 10 #[v0, v1] w R := by
  obtain ⟨ir0, h1, h2⟩ := Option.map_eq_some_iff.1 ir10_ok
  exact calls_ir (args := #[v0, v1]) Tryz.func10 (c := (Tryz.f10.body.getD .skip)) rfl h1 h2 (by kernel_rfl) (show rvsOf Tryz.prog ir10_V Tryz.f10.results.toList = some [.tmp 4] by kernel_rfl) (Nat.le_of_ble_eq_true rfl) (h _ rfl rfl)
/-! 10 argus/arguslaw01.TokenComments region 33: 9 operations, tail 8, size 10 -/
noncomputable def ir10_o33 : OT :=
  .take none 168 (.var 15) <|
  .take none 169 (.var 5) <|
  .take none 170 (.op1 .lenS (.var 169)) <|
  .take none 171 (.var 19) <|
  .take none 172 (.op2 (.ibin .add .i64) (.var 170) (.var 171)) <|
  .take none 173 (.op2 (.ixa 3) (.var 168) (.var 172)) <|
  .take none 174 (.op1 (.loadN 3) (.var 173)) <|
  .take none 175 (.op1 (.loadN 3) (.var 20)) <|
  .step (.eff none (some 176) (.binOp .neq 38 (.tmp 174) (.tmp 175) 38) 4) false <|
  .done
theorem ir10_o33_ok : ordOf Tryz.prog 178 ir10_V 8 (rawReg ir10_body 33) = some ir10_o33 := by kernel_rfl

/-! ### 11: argus/arguslaw01.TokenMemory  params #[9] results #[4]  slots [(0, src), (3, w), (4, s), (5, l), (6, _), (7, i), (8, i), (9, i), (10, m), (11, _), (12, n), (13, _)] -/
noncomputable def ir11_k0 : IR :=
  .reg [.asg none 7 (.op2 (.ibin .add .i64) (.var 7) (.const (.int .i64 1)))]
noncomputable def ir11_k1 : IR :=
  .seq (.block 1 (.reg [.asg none 34 (.op2 (.ixa 1) (.var 3) (.var 7)),
      .eff none none (.store 9 (.tmp 34) (.const (.string ⟨#[]⟩))) 0]))
  (ir11_k0)
noncomputable def ir11_l2 : IR :=
  .seq (.reg [.asg none 29 (.op2 (.ibin .lss .i64) (.var 7) (.op1 .lenS (.var 3)))]) <|
  .seq (.cond (.var 29)
    (.skip)
    (.exit 0))
  (ir11_k1)
noncomputable def ir11_k3 : IR :=
  .reg [.asg none 8 (.op2 (.ibin .add .i64) (.var 8) (.const (.int .i64 1)))]
noncomputable def ir11_k4 : IR :=
  .seq (.block 3 (.reg [.asg none 43 (.op2 (.ixa 1) (.var 4) (.var 8)),
      .eff none none (.store 9 (.tmp 43) (.const (.string ⟨#[]⟩))) 0]))
  (ir11_k3)
noncomputable def ir11_l5 : IR :=
  .seq (.reg [.asg none 38 (.op2 (.ibin .lss .i64) (.var 8) (.op1 .lenS (.var 4)))]) <|
  .seq (.cond (.var 38)
    (.skip)
    (.exit 2))
  (ir11_k4)
noncomputable def ir11_k6 : IR :=
  .reg [.asg none 9 (.op2 (.ibin .add .i64) (.var 9) (.const (.int .i64 1)))]
noncomputable def ir11_k7 : IR :=
  .seq (.block 5 (.reg [.asg none 50 (.var 5),
      .asg none 51 (.var 9),
      .eff none (some 52) (.build 38 #[]) 38,
      .asg none 53 (.op2 (.ixa 3) (.var 50) (.var 51)),
      .eff none none (.store 38 (.tmp 53) (.tmp 52)) 0]))
  (ir11_k6)
noncomputable def ir11_l8 : IR :=
  .seq (.reg [.asg none 47 (.op2 (.ibin .lss .i64) (.var 9) (.op1 .lenS (.var 5)))]) <|
  .seq (.cond (.var 47)
    (.skip)
    (.exit 4))
  (ir11_k7)
noncomputable def ir11_k9 : IR :=
  .seq (.reg [.asg none 55 (.var 0),
     .eff none (some 56) (.call { callee := .value (.func 23), args := #[(.tmp 55)], argTypes := #[9] }) 32,
     .asg none 54 (.var 56),
     .asg none 57 (.op1 (.ext 0) (.var 54)),
     .asg none 58 (.op1 (.ext 1) (.var 54)),
     .eff none (some 11) (.alloc 31) 0,
     .asg none 10 (.var 57),
     .eff none none (.store 31 (.tmp 11) (.tmp 58)) 0,
     .asg none 60 (.var 0),
     .eff none (some 61) (.call { callee := .value (.func 24), args := #[(.tmp 60)], argTypes := #[9] }) 32,
     .asg none 59 (.var 61),
     .asg none 62 (.op1 (.ext 0) (.var 59)),
     .asg none 63 (.op1 (.ext 1) (.var 59)),
     .eff none (some 13) (.alloc 31) 0,
     .asg none 12 (.var 62),
     .eff none none (.store 31 (.tmp 13) (.tmp 63)) 0,
     .eff none (some 64) (.call { callee := .value (.func 12), args := #[], argTypes := #[] }) 4,
     .asg none 65 (.var 64),
     .eff (some (65, true)) (some 66) (.call { callee := .value (.func 18), args := #[], argTypes := #[] }) 25,
     .eff (some (65, true)) (some 67) (.call { callee := .value (.func 19), args := #[], argTypes := #[] }) 25,
     .eff (some (65, true)) (some 68) (.call { callee := .value (.func 17), args := #[(.tmp 66), (.tmp 67)], argTypes := #[25, 25] }) 4,
     .asg none 70 (.ite (.var 65) (.var 68) (.const (.bool false))),
     .eff (some (70, true)) (some 71) (.call { callee := .value (.func 20), args := #[], argTypes := #[] }) 25,
     .eff (some (70, true)) (some 72) (.call { callee := .value (.func 21), args := #[], argTypes := #[] }) 25,
     .eff (some (70, true)) (some 73) (.call { callee := .value (.func 17), args := #[(.tmp 71), (.tmp 72)], argTypes := #[25, 25] }) 4,
     .asg none 75 (.ite (.var 70) (.var 73) (.const (.bool false))),
     .asg (some (75, true)) 76 (.var 10),
     .asg (some (75, true)) 77 (.var 12),
     .eff (some (75, true)) (some 78) (.call { callee := .value (.func 27), args := #[(.tmp 76), (.tmp 77)], argTypes := #[28, 28] }) 4,
     .asg none 2 (.ite (.var 75) (.var 78) (.const (.bool false)))]) <|
  .ret
noncomputable def ir11_k10 : IR :=
  .seq (.reg [.asg none 9 (.const (.int .i64 0))]) <|
  .seq (.block 4 (.loop ir11_l8))
  (ir11_k9)
noncomputable def ir11_k11 : IR :=
  .seq (.reg [.asg none 8 (.const (.int .i64 0))]) <|
  .seq (.block 2 (.loop ir11_l5))
  (ir11_k10)
noncomputable def ir11_k12 : IR :=
  .seq (.reg [.eff none (some 19) (.call { callee := .value (.func 18), args := #[], argTypes := #[] }) 25,
     .asg none 3 (.var 19),
     .eff none (some 20) (.call { callee := .value (.func 20), args := #[], argTypes := #[] }) 25,
     .asg none 4 (.var 20),
     .asg none 22 (.var 0),
     .eff none (some 23) (.call { callee := .value (.func 23), args := #[(.tmp 22)], argTypes := #[9] }) 32,
     .asg none 21 (.var 23),
     .asg none 24 (.op1 (.ext 0) (.var 21)),
     .asg none 25 (.op1 (.ext 1) (.var 21)),
     .eff none (some 6) (.alloc 31) 0,
     .asg none 5 (.var 24),
     .eff none none (.store 31 (.tmp 6) (.tmp 25)) 0,
     .asg none 7 (.const (.int .i64 0))]) <|
  .seq (.block 0 (.loop ir11_l2))
  (ir11_k11)
noncomputable def ir11 : IR :=
  .seq (.reg [.asg none 2 (.const (.bool false)),
     .asg none 14 (.var 0),
     .eff none (some 15) (.buildSlice 25 1 #[(0, (.tmp 14))]) 25,
     .eff none (some 16) (.call { callee := .value (.func 22), args := #[(.tmp 15)], argTypes := #[25] }) 4,
     .asg none 17 (.op1 .not (.var 16))]) <|
  .seq (.cond (.var 17)
    (.seq (.reg [.eff none (some 18) (.call { callee := .value (.func 12), args := #[], argTypes := #[] }) 4,
        .asg none 2 (.var 18)]) <|
     .ret)
    (.skip))
  (ir11_k12)
def ir11_V : List Nat := [0, 2, 3, 4, 5, 6, 7, 8, 9, 10, 11, 12, 13, 14, 15, 16, 17, 18, 19, 20, 21, 22, 23, 24, 25, 29, 34, 38, 43, 47, 50, 51, 52, 53, 54, 55, 56, 57, 58, 59, 60, 61, 62, 63, 64, 65, 66, 67, 68, 70, 71, 72, 73, 75, 76, 77, 78]
theorem ir11_ok : (comp Tryz.prog Tryz.f11.ntmps ir11_V [] (Tryz.f11.body.getD .skip)).map IR.norm = some ir11 := by kernel_rfl
theorem ir11_calls {v0 : Value} {w : World} {R : Ending → World → Prop} (h : ∀ ρ : Env, ρ 0 = v0 → ir11.wp ⟨Tryz.prog, 80, ir11_V, []⟩ (retK [.tmp 2] R) (ksOf [.tmp 2] R) ρ w) :
    Calls Tryz.prog 11 #[v0] w R := by
  obtain ⟨ir0, h1, h2⟩ := Option.map_eq_some_iff.1 ir11_ok
  exact calls_ir (args := #[v0]) Tryz.func11 (c := (Tryz.f11.body.getD .skip)) rfl h1 h2 (by kernel_rfl) (show rvsOf Tryz.prog ir11_V Tryz.f11.results.toList = some [.tmp 2] by kernel_rfl) (Nat.le_of_ble_eq_true rfl) (h _ rfl)

end Go.L01
