/- Texts of mine for the claims about layer 17 (heap), joined: L17If, L17Ba, L17Bb, L17Bc, L17Bd, L17Be, L17Bf, L17Bg, L17Bh, L17Bi, L17Bj, L17Bk, L17Bl, L17Bm, L17Bn, L17Bp, L17L8. -/
import Derived.Test.YtbopdbinllokkaaGreatJax
import Derived.Test.YtbopdbinllokkaaGreatProg
import Derived.KernelRfl
set_option linter.all false
set_option linter.unusedSimpArgs false
set_option linter.unusedVariables false
namespace Go.L17
open Go Go.Eng Go.Proofs
set_option maxRecDepth 100000
set_option maxHeartbeats 2000000
variable {v0 v1 v2 v3 v4 : Value} {w : World} {R : Ending → World → Prop}
noncomputable def ir8_body : Code := ((Tryz.f8.body).getD .skip)
noncomputable def ir8_k0 : IR := .reg [.asg none 65 (.op2 (.ibin .add .i64) (.var 65) (.const (.int .i64 1)))]
noncomputable def ir8_k1 : IR := .seq (.block 3 (.seq (.reg [.asg none 16 (.op1 .load1 (.op2 (.ixa 1) (.var 63) (.var 65))), .asg none 70 (.op1 .load1 (.op1 (.fadr 0) (.var 7))), .asg none 71 (.var 16), .eff none (some 72) (.call { callee := .value (.func 44), args := #[(.tmp 70), (.tmp 71)], argTypes := #[25, 3] }) 4, .asg none 73 (.op1 .not (.var 72))]) <| .cond (.var 73) (.reg [.asg none 74 (.var 14), .asg none 75 (.var 16), .eff none (some 76) (.buildSlice 35 1 #[(0, (.tmp 75))]) 35, .eff none (some 77) (.call { callee := .builtin .append, args := #[(.tmp 74), (.tmp 76)], argTypes := #[35, 35] }) 35, .asg none 14 (.var 77)]) (.skip))) (ir8_k0)
noncomputable def ir8_l2 : IR := .seq (.reg [.asg none 66 (.op2 (.ibin .lss .i64) (.var 65) (.var 64))]) <| .seq (.cond (.var 66) (.skip) (.exit 2)) (ir8_k1)
noncomputable def ir8_k3 : IR := .reg [.asg none 109 (.op2 (.ibin .add .i64) (.var 109) (.const (.int .i64 1)))]
noncomputable def ir8_k4 : IR := .seq (.block 5 (.seq (.reg [.asg none 21 (.op1 .load1 (.op2 (.ixa 1) (.var 107) (.var 109))), .asg none 113 (.var 19), .asg none 114 (.var 21), .eff none (some 115) (.call { callee := .value (.func 52), args := #[(.tmp 113), (.tmp 114)], argTypes := #[35, 3] }) 4, .asg none 116 (.op1 .not (.var 115))]) <| .cond (.var 116) (.seq (.reg [.asg none 6 (.const (.bool false))]) <| .ret) (.skip))) (ir8_k3)
noncomputable def ir8_l5 : IR := .seq (.reg [.asg none 110 (.op2 (.ibin .lss .i64) (.var 109) (.var 108))]) <| .seq (.cond (.var 110) (.skip) (.exit 4)) (ir8_k4)
noncomputable def ir8_k6 : IR := .seq (.reg [.asg none 105 (.var 14), .asg none 106 (.var 11), .eff none (some 107) (.call { callee := .builtin .append, args := #[(.tmp 105), (.tmp 106)], argTypes := #[35, 35] }) 35, .asg none 108 (.op1 .lenS (.var 107)), .asg none 109 (.const (.int .i64 0))]) <| .block 4 (.loop ir8_l5)
noncomputable def ir8_k7 : IR := .seq (.reg [.asg none 81 (.op1 .load1 (.op1 (.fadr 0) (.var 7))), .asg none 82 (.var 10), .eff none (some 83) (.call { callee := .value (.func 38), args := #[(.tmp 81), (.tmp 82)], argTypes := #[25, 35] }) 55, .asg none 79 (.var 83), .asg none 84 (.op1 (.ext 0) (.var 79)), .asg none 85 (.op1 (.ext 1) (.var 79)), .asg none 17 (.var 84), .asg none 18 (.var 85), .asg none 87 (.op1 .load1 (.op1 (.fadr 0) (.var 7))), .asg none 88 (.var 9), .eff none (some 89) (.call { callee := .value (.func 30), args := #[(.tmp 87), (.tmp 88)], argTypes := #[25, 3] }) 35, .asg none 19 (.var 89), .asg none 104 (.ite (.ite (.op2 (.ibin .neq .i64) (.var 12) (.const (.int .i64 0))) (.const (.bool true)) (.op2 (.ibin .neq .i64) (.var 18) (.const (.int .i64 0)))) (.const (.bool true)) (.op2 (.ibin .neq .i64) (.var 17) (.op2 (.ibin .sub .i64) (.op1 .lenS (.var 13)) (.op1 .lenS (.var 19)))))]) <| .seq (.cond (.var 104) (.seq (.reg [.asg none 6 (.const (.bool false))]) <| .ret) (.skip)) (ir8_k6)
noncomputable def ir8_k8 : IR := .reg [.asg none 50 (.op2 (.ibin .add .i64) (.var 50) (.const (.int .i64 1)))]
noncomputable def ir8_k9 : IR := .seq (.block 1 (.seq (.reg [.asg none 54 (.op1 .load1 (.op1 (.fadr 0) (.var 7))), .asg none 55 (.var 10), .eff none (some 56) (.call { callee := .value (.func 21), args := #[(.tmp 54), (.tmp 55)], argTypes := #[25, 35] }) 47, .asg none 52 (.var 56), .asg none 57 (.op1 (.ext 0) (.var 52)), .asg none 58 (.op1 (.ext 1) (.var 52)), .asg none 11 (.var 57), .asg none 12 (.var 58), .asg none 60 (.op1 .load1 (.op1 (.fadr 0) (.var 7))), .asg none 61 (.var 9), .eff none (some 62) (.call { callee := .value (.func 30), args := #[(.tmp 60), (.tmp 61)], argTypes := #[25, 3] }) 35, .asg none 13 (.var 62), .asg none 14 (.const (.slice none 0 0)), .asg none 63 (.var 13), .asg none 64 (.op1 .lenS (.var 63)), .asg none 65 (.const (.int .i64 0))]) <| .seq (.block 2 (.loop ir8_l2)) (ir8_k7))) (ir8_k8)
noncomputable def ir8_l10 : IR := .seq (.reg [.asg none 51 (.op2 (.ibin .lss .i64) (.var 50) (.const (.int .i64 3)))]) <| .seq (.cond (.var 51) (.skip) (.exit 0)) (ir8_k9)
noncomputable def ir8_k11 : IR := .ret
noncomputable def ir8_k12 : IR := .seq (.raw (rawReg ir8_body 30)) (ir8_k11)
noncomputable def ir8_k13 : IR := .seq (.reg [.asg none 9 (.op1 .lenS (.op1 .load1 (.op1 (.fadr 1) (.op1 .nilc (.op1 .load1 (.op1 (.fadr 1) (.var 7))))))), .asg none 45 (.var 2), .asg none 46 (.var 9), .eff none (some 47) (.call { callee := .value (.func 18), args := #[(.tmp 45), (.tmp 46)], argTypes := #[35, 3] }) 35, .eff none (some 48) (.makeFunc (.func 53) #[] #[(.tmp 7)]) 46, .eff none (some 49) (.call { callee := .value (.func 17), args := #[(.tmp 47), (.tmp 48)], argTypes := #[35, 46] }) 35, .asg none 10 (.var 49), .asg none 50 (.const (.int .i64 0))]) <| .seq (.block 0 (.loop ir8_l10)) (ir8_k12)
noncomputable def ir8_k14 : IR := .seq (.reg [.asg none 32 (.var 0), .asg none 33 (.var 1), .eff none (some 34) (.call { callee := .value (.func 16), args := #[(.tmp 32), (.tmp 33)], argTypes := #[3, 22] }) 32, .asg none 31 (.var 34), .asg none 35 (.op1 (.ext 0) (.var 31)), .asg none 36 (.op1 (.ext 1) (.var 31)), .eff none (some 7) (.alloc 31) 0, .eff none none (.store 31 (.tmp 7) (.tmp 35)) 0, .asg none 8 (.var 36), .asg none 38 (.op1 .not (.var 8))]) <| .seq (.cond (.var 38) (.seq (.reg [.asg none 6 (.const (.bool false))]) <| .ret) (.skip)) (ir8_k13)
noncomputable def ir8 : IR := .seq (.reg [.asg none 6 (.const (.bool false)), .asg none 22 (.var 1), .eff none (some 23) (.call { callee := .value (.func 10), args := #[(.tmp 22)], argTypes := #[22] }) 4, .asg none 29 (.ite (.op1 .not (.var 23)) (.const (.bool true)) (.op2 (.ibin .gtr .i64) (.op1 .lenS (.var 2)) (.const (.int .i64 10))))]) <| .seq (.cond (.var 29) (.seq (.reg [.eff none (some 30) (.call { callee := .value (.func 11), args := #[], argTypes := #[] }) 4, .asg none 6 (.var 30)]) <| .ret) (.skip)) (ir8_k14)
def ir8_V : List Nat := [0, 1, 2, 6, 7, 8, 9, 10, 11, 12, 13, 14, 16, 17, 18, 19, 21, 22, 23, 29, 30, 31, 32, 33, 34, 35, 36, 38, 45, 46, 47, 48, 49, 50, 51, 52, 54, 55, 56, 57, 58, 60, 61, 62, 63, 64, 65, 66, 70, 71, 72, 73, 74, 75, 76, 77, 79, 81, 82, 83, 84, 85, 87, 88, 89, 104, 105, 106, 107, 108, 109, 110, 113, 114, 115, 116, 119, 120, 121, 122, 123, 124, 125, 126, 127, 128, 129, 130]
theorem ir8_calls (h : ∀ ρ : Env, ρ 0 = v0 → ρ 1 = v1 → ρ 2 = v2 → ir8.wp ⟨Tryz.prog, 131, ir8_V, []⟩ (retK [.tmp 6] R) (ksOf [.tmp 6] R) ρ w) : Calls Tryz.prog 8 #[v0, v1, v2] w R :=
 calls_irX (raws := [30]) (ir := ir8) Tryz.func8 rfl (by kernel_rfl) (by kernel_rfl) (by kernel_rfl) (Nat.le_of_ble_eq_true rfl) (h _ rfl rfl rfl)
noncomputable def ir8_o30 : OT := .step (.eff none (some 119) (.call { callee := .value (.func 11), args := #[], argTypes := #[] }) 4) true <| .take none 120 (.var 119) <| .take (some (120, true)) 121 (.op1 (.fadr 0) (.var 7)) <| .take (some (120, true)) 122 (.op1 .load1 (.var 121)) <| .take (some (120, true)) 123 (.var 9) <| .take (some (120, true)) 125 (.op1 (.fadr 0) (.var 7)) <| .take (some (120, true)) 126 (.op1 .load1 (.var 125)) <| .both (.step (.eff (some (120, true)) (some 124) (.call { callee := .value (.func 30), args := #[(.tmp 122), (.tmp 123)], argTypes := #[25, 3] }) 35) true <| .step (.eff (some (120, true)) (some 127) (.makeFunc (.func 44) #[(.tmp 126)] #[]) 46) true <| .step (.eff (some (120, true)) (some 128) (.call { callee := .value (.func 54), args := #[(.tmp 124), (.tmp 127)], argTypes := #[35, 46] }) 4) false <| .step (.asg (some (120, true)) 129 (.op1 .not (.var 128))) false <| .step (.asg none 130 (.ite (.var 120) (.var 129) (.const (.bool false)))) false <| .step (.asg none 6 (.var 130)) false <| .done) <| .step (.eff (some (120, true)) (some 127) (.makeFunc (.func 44) #[(.tmp 126)] #[]) 46) true <| .step (.eff (some (120, true)) (some 124) (.call { callee := .value (.func 30), args := #[(.tmp 122), (.tmp 123)], argTypes := #[25, 3] }) 35) true <| .step (.eff (some (120, true)) (some 128) (.call { callee := .value (.func 54), args := #[(.tmp 124), (.tmp 127)], argTypes := #[35, 46] }) 4) false <| .step (.asg (some (120, true)) 129 (.op1 .not (.var 128))) false <| .step (.asg none 130 (.ite (.var 120) (.var 129) (.const (.bool false)))) false <| .step (.asg none 6 (.var 130)) false <| .done
theorem ir8_o30_ok : ordOf Tryz.prog 131 ir8_V 9 (rawReg ir8_body 30) = some ir8_o30 := by kernel_rfl
noncomputable def ir10 : IR := .seq (.reg [.asg none 2 (.const (.bool false)), .asg none 6 (.op2 (.ibin .leq .i64) (.op1 .lenS (.var 0)) (.const (.int .i64 70))), .asg (some (6, true)) 7 (.var 0), .eff (some (6, true)) (some 8) (.call { callee := .value (.func 56), args := #[(.tmp 7), (.func 57)], argTypes := #[22, 89] }) 4, .asg none 2 (.ite (.var 6) (.op1 .not (.var 8)) (.const (.bool false)))]) <| .ret
def ir10_V : List Nat := [0, 2, 6, 7, 8]
theorem ir10_calls (h : ∀ ρ : Env, ρ 0 = v0 → ir10.wp ⟨Tryz.prog, 11, ir10_V, []⟩ (retK [.tmp 2] R) (ksOf [.tmp 2] R) ρ w) : Calls Tryz.prog 10 #[v0] w R :=
 calls_irX (raws := []) (ir := ir10) Tryz.func10 rfl (by kernel_rfl) (by kernel_rfl) (by kernel_rfl) (Nat.le_of_ble_eq_true rfl) (h _ rfl)
noncomputable def ir11_k0 : IR := .reg [.asg none 11 (.op2 (.ibin .add .i64) (.var 11) (.const (.int .i64 1)))]
noncomputable def ir11_k1 : IR := .seq (.block 1 (.reg [.asg none 109 (.var 1), .eff none (some 110) (.call { callee := .value (.func 35), args := #[(.tmp 109), (.const (.int .i64 1))], argTypes := #[25, 3] }) 70])) (ir11_k0)
noncomputable def ir11_l2 : IR := .seq (.reg [.asg none 101 (.var 1), .eff none (some 102) (.call { callee := .value (.func 47), args := #[(.tmp 101)], argTypes := #[25] }) 4, .asg none 106 (.ite (.var 102) (.op2 (.ibin .lss .i64) (.var 11) (.const (.int .i64 50))) (.const (.bool false)))]) <| .seq (.cond (.var 106) (.skip) (.exit 0)) (ir11_k1)
noncomputable def ir11_k3 : IR := .seq (.reg [.asg none 112 (.var 1), .eff none (some 113) (.call { callee := .value (.func 27), args := #[(.tmp 112), (.const (.int .i64 2)), (.const (.int .i64 1))], argTypes := #[25, 3, 3] }) 55, .asg none 111 (.var 113), .asg none 114 (.op1 (.ext 0) (.var 111)), .asg none 115 (.op1 (.ext 1) (.var 111)), .asg none 12 (.var 114), .asg none 13 (.var 115), .asg none 122 (.ite (.op2 (.ibin .eql .i64) (.var 9) (.const (.int .i64 4))) (.op2 (.ibin .eql .i64) (.var 10) (.const (.int .i64 0))) (.const (.bool false))), .asg (some (122, true)) 123 (.var 1), .eff (some (122, true)) (some 124) (.call { callee := .value (.func 45), args := #[(.tmp 123)], argTypes := #[25] }) 3, .asg none 127 (.ite (.var 122) (.op2 (.ibin .eql .i64) (.var 124) (.const (.int .i64 3))) (.const (.bool false))), .asg (some (127, true)) 128 (.var 1), .eff (some (127, true)) (some 129) (.call { callee := .value (.func 20), args := #[(.tmp 128), (.const (.int .i64 3))], argTypes := #[25, 3] }) 4, .asg none 132 (.ite (.var 127) (.op1 .not (.var 129)) (.const (.bool false))), .asg (some (132, true)) 133 (.var 1), .eff (some (132, true)) (some 134) (.call { callee := .value (.func 44), args := #[(.tmp 133), (.const (.int .i64 1))], argTypes := #[25, 3] }) 4, .asg none 137 (.ite (.var 132) (.op1 .not (.var 134)) (.const (.bool false))), .asg (some (137, true)) 138 (.var 1), .eff (some (137, true)) (some 139) (.call { callee := .value (.func 44), args := #[(.tmp 138), (.const (.int .i64 4))], argTypes := #[25, 3] }) 4, .asg none 0 (.ite (.ite (.ite (.var 137) (.op1 .not (.var 139)) (.const (.bool false))) (.op2 (.ibin .eql .i64) (.var 12) (.const (.int .i64 1))) (.const (.bool false))) (.op2 (.ibin .eql .i64) (.var 13) (.const (.int .i64 0))) (.const (.bool false)))]) <| .ret
noncomputable def ir11_k4 : IR := .seq (.reg [.asg none 95 (.var 1), .eff none (some 96) (.buildSlice 34 1 #[(0, (.const (.int .u8 1)))]) 34, .eff none (some 97) (.buildSlice 35 1 #[(0, (.const (.int .i64 8)))]) 35, .eff none (some 98) (.call { callee := .value (.func 32), args := #[(.tmp 95), (.const (.int .i64 2)), (.tmp 96), (.tmp 97)], argTypes := #[25, 3, 34, 35] }) 55, .asg none 94 (.var 98), .asg none 99 (.op1 (.ext 0) (.var 94)), .asg none 100 (.op1 (.ext 1) (.var 94)), .asg none 9 (.var 99), .asg none 10 (.var 100), .asg none 11 (.const (.int .i64 0))]) <| .seq (.block 0 (.loop ir11_l2)) (ir11_k3)
noncomputable def ir11_k5 : IR := .seq (.reg [.asg none 76 (.var 1), .eff none (some 77) (.buildSlice 34 1 #[(0, (.const (.int .u8 1)))]) 34, .eff none (some 78) (.buildSlice 35 1 #[(0, (.const (.int .i64 7)))]) 35, .eff none (some 79) (.call { callee := .value (.func 32), args := #[(.tmp 76), (.const (.int .i64 1)), (.tmp 77), (.tmp 78)], argTypes := #[25, 3, 34, 35] }) 55, .asg none 75 (.var 79), .asg none 80 (.op1 (.ext 0) (.var 75)), .asg none 81 (.op1 (.ext 1) (.var 75)), .asg none 7 (.var 80), .asg none 8 (.var 81), .asg none 88 (.ite (.op2 (.ibin .neq .i64) (.var 7) (.const (.int .i64 3))) (.const (.bool true)) (.op2 (.ibin .neq .i64) (.var 8) (.const (.int .i64 0)))), .asg (some (88, false)) 89 (.var 1), .eff (some (88, false)) (some 90) (.buildSlice 35 1 #[(0, (.const (.int .i64 2)))]) 35, .eff (some (88, false)) (some 91) (.call { callee := .value (.func 34), args := #[(.tmp 89), (.tmp 90)], argTypes := #[25, 35] }) 26, .asg none 93 (.ite (.var 88) (.const (.bool true)) (.op2 (.ibin .neq .i64) (.var 91) (.const (.int .i64 0))))]) <| .seq (.cond (.var 93) (.seq (.reg [.asg none 0 (.const (.bool false))]) <| .ret) (.skip)) (ir11_k4)
noncomputable def ir11_k6 : IR := .seq (.reg [.asg none 25 (.var 1), .eff none (some 26) (.buildSlice 34 2 #[(0, (.const (.int .u8 1))), (1, (.const (.int .u8 2)))]) 34, .eff none (some 27) (.buildSlice 35 2 #[(0, (.const (.int .i64 5))), (1, (.const (.int .i64 0)))]) 35, .eff none (some 28) (.call { callee := .value (.func 32), args := #[(.tmp 25), (.const (.int .i64 0)), (.tmp 26), (.tmp 27)], argTypes := #[25, 3, 34, 35] }) 55, .asg none 24 (.var 28), .asg none 29 (.op1 (.ext 0) (.var 24)), .asg none 30 (.op1 (.ext 1) (.var 24)), .asg none 3 (.var 29), .asg none 4 (.var 30), .asg none 32 (.var 1), .eff none (some 33) (.call { callee := .value (.func 36), args := #[(.tmp 32), (.const (.int .u8 2))], argTypes := #[25, 5] }) 55, .asg none 31 (.var 33), .asg none 34 (.op1 (.ext 0) (.var 31)), .asg none 35 (.op1 (.ext 1) (.var 31)), .asg none 5 (.var 34), .asg none 6 (.var 35), .asg none 50 (.ite (.ite (.ite (.op2 (.ibin .neq .i64) (.var 4) (.const (.int .i64 0))) (.const (.bool true)) (.op2 (.ibin .neq .i64) (.var 6) (.const (.int .i64 0)))) (.const (.bool true)) (.op2 (.ibin .neq .i64) (.var 3) (.const (.int .i64 1)))) (.const (.bool true)) (.op2 (.ibin .neq .i64) (.var 5) (.const (.int .i64 2)))), .asg (some (50, false)) 51 (.var 1), .eff (some (50, false)) (some 52) (.call { callee := .value (.func 41), args := #[(.tmp 51), (.const (.int .i64 2)), (.const (.int .i64 1))], argTypes := #[25, 3, 3] }) 26, .asg none 55 (.ite (.var 50) (.const (.bool true)) (.op2 (.ibin .neq .i64) (.var 52) (.const (.int .i64 0)))), .asg (some (55, false)) 56 (.var 1), .eff (some (55, false)) (some 57) (.call { callee := .value (.func 46), args := #[(.tmp 56)], argTypes := #[25] }) 3, .asg none 60 (.ite (.var 55) (.const (.bool true)) (.op2 (.ibin .neq .i64) (.var 57) (.const (.int .i64 7)))), .asg (some (60, false)) 61 (.var 1), .eff (some (60, false)) (some 62) (.call { callee := .value (.func 40), args := #[(.tmp 61), (.const (.int .i64 1)), (.const (.int .i64 1)), (.const (.int .i64 2))], argTypes := #[25, 3, 3, 3] }) 26, .asg none 65 (.ite (.var 60) (.const (.bool true)) (.op2 (.ibin .neq .i64) (.var 62) (.const (.int .i64 0)))), .asg (some (65, false)) 66 (.var 1), .eff (some (65, false)) (some 67) (.call { callee := .value (.func 40), args := #[(.tmp 66), (.const (.int .i64 1)), (.const (.int .i64 1)), (.const (.int .i64 3))], argTypes := #[25, 3, 3, 3] }) 26, .asg none 70 (.ite (.var 65) (.const (.bool true)) (.op2 (.ibin .neq .i64) (.var 67) (.const (.int .i64 171)))), .asg (some (70, false)) 71 (.var 1), .eff (some (70, false)) (some 72) (.call { callee := .value (.func 40), args := #[(.tmp 71), (.const (.int .i64 1)), (.const (.int .i64 2)), (.const (.int .i64 0))], argTypes := #[25, 3, 3, 3] }) 26, .asg none 74 (.ite (.var 70) (.const (.bool true)) (.op2 (.ibin .neq .i64) (.var 72) (.const (.int .i64 1))))]) <| .seq (.cond (.var 74) (.seq (.reg [.asg none 0 (.const (.bool false))]) <| .ret) (.skip)) (ir11_k5)
noncomputable def ir11 : IR := .seq (.reg [.asg none 0 (.const (.bool false)), .eff none (some 15) (.call { callee := .value (.func 12), args := #[(.const (.int .i64 64))], argTypes := #[3] }) 27, .asg none 14 (.var 15), .asg none 16 (.op1 (.ext 0) (.var 14)), .asg none 17 (.op1 (.ext 1) (.var 14)), .asg none 1 (.var 16), .asg none 2 (.var 17), .asg none 20 (.op2 (.ibin .neq .i64) (.var 2) (.const (.int .i64 0))), .asg (some (20, false)) 21 (.var 1), .eff (some (20, false)) (some 22) (.binOp .eql 25 (.tmp 21) (.const (.pointer none)) 25) 4, .asg none 23 (.ite (.var 20) (.const (.bool true)) (.var 22))]) <| .seq (.cond (.var 23) (.seq (.reg [.asg none 0 (.const (.bool false))]) <| .ret) (.skip)) (ir11_k6)
def ir11_V : List Nat := [0, 1, 2, 3, 4, 5, 6, 7, 8, 9, 10, 11, 12, 13, 14, 15, 16, 17, 20, 21, 22, 23, 24, 25, 26, 27, 28, 29, 30, 31, 32, 33, 34, 35, 50, 51, 52, 55, 56, 57, 60, 61, 62, 65, 66, 67, 70, 71, 72, 74, 75, 76, 77, 78, 79, 80, 81, 88, 89, 90, 91, 93, 94, 95, 96, 97, 98, 99, 100, 101, 102, 106, 109, 110, 111, 112, 113, 114, 115, 122, 123, 124, 127, 128, 129, 132, 133, 134, 137, 138, 139]
theorem ir11_calls (h : ∀ ρ : Env, ir11.wp ⟨Tryz.prog, 150, ir11_V, []⟩ (retK [.tmp 0] R) (ksOf [.tmp 0] R) ρ w) : Calls Tryz.prog 11 #[] w R :=
 calls_irX (raws := []) (ir := ir11) Tryz.func11 rfl (by kernel_rfl) (by kernel_rfl) (by kernel_rfl) (Nat.le_of_ble_eq_true rfl) (h _ )
noncomputable def ir13 : IR := .seq (.reg [.eff none (some 2) (.alloc 31) 0, .asg none 3 (.const (.bool false)), .asg none 4 (.op2 (.ibin .add .i64) (.const (.int .i64 64)) (.op1 (.conv .i64) (.op2 (.ibin .rem .u64) (.op1 (.conv .u64) (.var 0)) (.const (.int .u64 200))))), .asg none 15 (.var 4), .eff none (some 16) (.call { callee := .value (.func 12), args := #[(.tmp 15)], argTypes := #[3] }) 27, .asg none 14 (.var 16), .asg none 17 (.op1 (.ext 0) (.var 14)), .asg none 18 (.op1 (.ext 1) (.var 14)), .asg none 5 (.var 17), .asg none 6 (.var 18), .asg none 20 (.var 4), .eff none (some 21) (.call { callee := .value (.func 59), args := #[(.tmp 20)], argTypes := #[3] }) 97, .asg none 19 (.var 21), .asg none 22 (.op1 (.ext 0) (.var 19)), .asg none 23 (.op1 (.ext 1) (.var 19)), .asg none 7 (.var 22), .asg none 8 (.var 23), .asg none 24 (.var 5), .asg none 25 (.var 7), .eff none (some 26) (.build 31 #[(0, (.tmp 24)), (1, (.tmp 25))]) 31, .asg none 33 (.ite (.op2 (.ibin .eql .i64) (.var 6) (.const (.int .i64 0))) (.op2 (.ibin .eql .i64) (.var 8) (.const (.int .i64 0))) (.const (.bool false))), .asg (some (33, true)) 34 (.var 5), .eff (some (33, true)) (some 35) (.binOp .neq 25 (.tmp 34) (.const (.pointer none)) 25) 4, .asg none 36 (.ite (.var 33) (.var 35) (.const (.bool false))), .eff none none (.store 31 (.tmp 2) (.tmp 26)) 0, .asg none 3 (.var 36)]) <| .ret
def ir13_V : List Nat := [0, 2, 3, 4, 5, 6, 7, 8, 14, 15, 16, 17, 18, 19, 20, 21, 22, 23, 24, 25, 26, 33, 34, 35, 36]
theorem ir13_calls (h : ∀ ρ : Env, ρ 0 = v0 → ir13.wp ⟨Tryz.prog, 37, ir13_V, []⟩ (retK [.cellN 2 2, .tmp 3] R) (ksOf [.cellN 2 2, .tmp 3] R) ρ w) : Calls Tryz.prog 13 #[v0] w R :=
 calls_irX (raws := []) (ir := ir13) Tryz.func13 rfl (by kernel_rfl) (by kernel_rfl) (by kernel_rfl) (Nat.le_of_ble_eq_true rfl) (h _ rfl)
noncomputable def ir14_body : Code := ((Tryz.f14.body).getD .skip)
noncomputable def ir14_k0 : IR := .ret
noncomputable def ir14_k1 : IR := .seq (.raw (rawReg ir14_body 25)) (ir14_k0)
noncomputable def ir14_k2 : IR := .ret
noncomputable def ir14_k3 : IR := .seq (.reg [.asg none 316 (.var 7), .asg none 317 (.var 10), .asg none 318 (.var 42), .eff none (some 319) (.call { callee := .value (.func 41), args := #[(.tmp 316), (.tmp 317), (.tmp 318)], argTypes := #[25, 3, 3] }) 26, .asg none 320 (.var 8), .asg none 321 (.var 10), .asg none 322 (.var 42), .eff none (some 323) (.call { callee := .value (.func 70), args := #[(.tmp 320), (.tmp 321), (.tmp 322)], argTypes := #[29, 3, 3] }) 26, .asg none 6 (.op2 (.ibin .eql .i64) (.var 319) (.var 323))]) <| .ret
noncomputable def ir14_k4 : IR := .seq (.reg [.asg none 302 (.op2 (.ibin .eql .u8) (.op2 (.ibin .rem .u8) (.op1 .load1 (.op1 (.fadr 0) (.var 4))) (.const (.int .u8 18))) (.const (.int .u8 11)))]) <| .seq (.cond (.var 302) (.seq (.raw (rawReg ir14_body 42)) (ir14_k2)) (.skip)) (ir14_k3)
noncomputable def ir14_k5 : IR := .seq (.reg [.asg none 412 (.var 7), .eff none (some 413) (.call { callee := .value (.func 48), args := #[(.tmp 412)], argTypes := #[25] }) 35, .asg none 414 (.var 8), .eff none (some 415) (.call { callee := .value (.func 75), args := #[(.tmp 414)], argTypes := #[29] }) 35, .eff none (some 416) (.call { callee := .value (.func 29), args := #[(.tmp 413), (.tmp 415)], argTypes := #[35, 35] }) 4, .asg none 6 (.var 416)]) <| .ret
noncomputable def ir14_k6 : IR := .cond (.var 278) (.seq (.reg [.asg none 42 (.op1 .load1 (.op1 (.fadr 3) (.var 4))), .asg none 285 (.var 8), .asg none 286 (.var 10), .eff none (some 287) (.call { callee := .value (.func 67), args := #[(.tmp 285), (.tmp 286)], argTypes := #[29, 3] }) 53, .asg none 284 (.var 287), .asg none 288 (.op1 (.ext 0) (.var 284)), .asg none 289 (.op1 (.ext 1) (.var 284)), .asg none 43 (.var 288), .asg none 44 (.var 289), .asg none 295 (.ite (.op2 (.ibin .eql .i64) (.var 44) (.const (.int .i64 0))) (.op2 (.ibin .eql .u8) (.var 43) (.const (.int .u8 2))) (.const (.bool false)))]) <| .seq (.cond (.var 295) (.reg [.asg none 296 (.var 42), .asg none 297 (.var 9), .eff none (some 298) (.call { callee := .value (.func 60), args := #[(.tmp 296), (.tmp 297)], argTypes := #[3, 3] }) 3, .asg none 42 (.var 298)]) (.skip)) (ir14_k4)) (.seq (.reg [.asg none 325 (.op2 (.ibin .eql .u8) (.var 79) (.const (.int .u8 9)))]) <| .cond (.var 325) (.seq (.reg [.asg none 328 (.var 7), .asg none 329 (.var 10), .eff none (some 330) (.call { callee := .value (.func 37), args := #[(.tmp 328), (.tmp 329)], argTypes := #[25, 3] }) 55, .asg none 327 (.var 330), .asg none 331 (.op1 (.ext 0) (.var 327)), .asg none 332 (.op1 (.ext 1) (.var 327)), .asg none 45 (.var 331), .asg none 46 (.var 332), .asg none 334 (.var 8), .asg none 335 (.var 10), .eff none (some 336) (.call { callee := .value (.func 71), args := #[(.tmp 334), (.tmp 335)], argTypes := #[29, 3] }) 55, .asg none 333 (.var 336), .asg none 337 (.op1 (.ext 0) (.var 333)), .asg none 338 (.op1 (.ext 1) (.var 333)), .asg none 47 (.var 337), .asg none 48 (.var 338), .asg none 6 (.ite (.op2 (.ibin .eql .i64) (.var 45) (.var 47)) (.op2 (.ibin .eql .i64) (.var 46) (.var 48)) (.const (.bool false)))]) <| .ret) (.seq (.reg [.asg none 347 (.op2 (.ibin .eql .u8) (.var 79) (.const (.int .u8 10)))]) <| .cond (.var 347) (.seq (.reg [.asg none 350 (.var 7), .asg none 351 (.var 10), .asg none 353 (.op1 .load1 (.op1 (.fadr 2) (.var 4))), .eff none (some 354) (.call { callee := .value (.func 27), args := #[(.tmp 350), (.tmp 351), (.tmp 353)], argTypes := #[25, 3, 3] }) 55, .asg none 349 (.var 354), .asg none 355 (.op1 (.ext 0) (.var 349)), .asg none 356 (.op1 (.ext 1) (.var 349)), .asg none 49 (.var 355), .asg none 50 (.var 356), .asg none 358 (.var 8), .asg none 359 (.var 10), .asg none 361 (.op1 .load1 (.op1 (.fadr 2) (.var 4))), .eff none (some 362) (.call { callee := .value (.func 72), args := #[(.tmp 358), (.tmp 359), (.tmp 361)], argTypes := #[29, 3, 3] }) 55, .asg none 357 (.var 362), .asg none 363 (.op1 (.ext 0) (.var 357)), .asg none 364 (.op1 (.ext 1) (.var 357)), .asg none 51 (.var 363), .asg none 52 (.var 364), .asg none 6 (.ite (.op2 (.ibin .eql .i64) (.var 49) (.var 51)) (.op2 (.ibin .eql .i64) (.var 50) (.var 52)) (.const (.bool false)))]) <| .ret) (.seq (.reg [.asg none 373 (.op2 (.ibin .eql .u8) (.var 79) (.const (.int .u8 12)))]) <| .cond (.var 373) (.seq (.reg [.asg none 376 (.op1 .load1 (.op1 (.fadr 6) (.var 4))), .asg none 377 (.var 9), .eff none (some 378) (.call { callee := .value (.func 18), args := #[(.tmp 376), (.tmp 377)], argTypes := #[35, 3] }) 35, .asg none 53 (.var 378), .asg none 380 (.var 7), .asg none 381 (.var 53), .eff none (some 382) (.call { callee := .value (.func 21), args := #[(.tmp 380), (.tmp 381)], argTypes := #[25, 35] }) 47, .asg none 379 (.var 382), .asg none 383 (.op1 (.ext 0) (.var 379)), .asg none 384 (.op1 (.ext 1) (.var 379)), .asg none 54 (.var 383), .asg none 55 (.var 384), .asg none 386 (.var 8), .asg none 387 (.var 53), .eff none (some 388) (.call { callee := .value (.func 73), args := #[(.tmp 386), (.tmp 387)], argTypes := #[29, 35] }) 47, .asg none 385 (.var 388), .asg none 389 (.op1 (.ext 0) (.var 385)), .asg none 390 (.op1 (.ext 1) (.var 385)), .asg none 56 (.var 389), .asg none 57 (.var 390), .asg none 391 (.var 54), .asg none 392 (.var 56), .eff none (some 393) (.call { callee := .value (.func 29), args := #[(.tmp 391), (.tmp 392)], argTypes := #[35, 35] }) 4, .asg none 6 (.ite (.var 393) (.op2 (.ibin .eql .i64) (.var 55) (.var 57)) (.const (.bool false)))]) <| .ret) (.seq (.reg [.asg none 399 (.op2 (.ibin .eql .u8) (.var 79) (.const (.int .u8 17)))]) <| .cond (.var 399) (.seq (.reg [.asg none 404 (.op2 (.ibin .eql .i64) (.op2 (.ibin .rem .i64) (.op1 .load1 (.op1 (.fadr 2) (.var 4))) (.const (.int .i64 2))) (.const (.int .i64 0)))]) <| .seq (.cond (.var 404) (.seq (.reg [.asg none 405 (.var 7), .asg none 406 (.var 10), .eff none (some 407) (.call { callee := .value (.func 43), args := #[(.tmp 405), (.tmp 406)], argTypes := #[25, 3] }) 26, .asg none 408 (.var 8), .asg none 409 (.var 10), .eff none (some 410) (.call { callee := .value (.func 74), args := #[(.tmp 408), (.tmp 409)], argTypes := #[29, 3] }) 26, .asg none 6 (.op2 (.ibin .eql .i64) (.var 407) (.var 410))]) <| .ret) (.skip)) (ir14_k5)) (.skip)))))
noncomputable def ir14_k7 : IR := .cond (.var 176) (.seq (.reg [.asg none 26 (.op1 .load1 (.op1 (.fadr 3) (.var 4))), .asg none 182 (.var 8), .asg none 183 (.var 10), .asg none 185 (.op1 .load1 (.op1 (.fadr 2) (.var 4))), .eff none (some 186) (.call { callee := .value (.func 64), args := #[(.tmp 182), (.tmp 183), (.tmp 185)], argTypes := #[29, 3, 3] }) 57, .asg none 181 (.var 186), .asg none 187 (.op1 (.ext 0) (.var 181)), .asg none 188 (.op1 (.ext 1) (.var 181)), .asg none 189 (.op1 (.ext 2) (.var 181)), .asg none 27 (.var 187), .asg none 28 (.var 188), .asg none 29 (.var 189), .asg none 195 (.ite (.op2 (.ibin .eql .i64) (.var 29) (.const (.int .i64 0))) (.op2 (.ibin .eql .u8) (.var 27) (.const (.int .u8 2))) (.const (.bool false)))]) <| .seq (.cond (.var 195) (.reg [.asg none 196 (.var 26), .asg none 197 (.var 9), .eff none (some 198) (.call { callee := .value (.func 60), args := #[(.tmp 196), (.tmp 197)], argTypes := #[3, 3] }) 3, .asg none 26 (.var 198)]) (.skip)) (ir14_k1)) (.seq (.reg [.asg none 212 (.op2 (.ibin .eql .u8) (.var 79) (.const (.int .u8 6)))]) <| .cond (.var 212) (.seq (.reg [.asg none 215 (.var 7), .asg none 216 (.var 10), .eff none (some 217) (.call { callee := .value (.func 24), args := #[(.tmp 215), (.tmp 216)], argTypes := #[25, 3] }) 55, .asg none 214 (.var 217), .asg none 218 (.op1 (.ext 0) (.var 214)), .asg none 219 (.op1 (.ext 1) (.var 214)), .asg none 30 (.var 218), .asg none 31 (.var 219), .asg none 221 (.var 8), .asg none 222 (.var 10), .eff none (some 223) (.call { callee := .value (.func 66), args := #[(.tmp 221), (.tmp 222)], argTypes := #[29, 3] }) 55, .asg none 220 (.var 223), .asg none 224 (.op1 (.ext 0) (.var 220)), .asg none 225 (.op1 (.ext 1) (.var 220)), .asg none 32 (.var 224), .asg none 33 (.var 225), .asg none 227 (.var 7), .asg none 228 (.var 10), .eff none (some 229) (.call { callee := .value (.func 23), args := #[(.tmp 227), (.tmp 228)], argTypes := #[25, 3] }) 53, .asg none 226 (.var 229), .asg none 230 (.op1 (.ext 0) (.var 226)), .asg none 231 (.op1 (.ext 1) (.var 226)), .asg none 34 (.var 230), .asg none 35 (.var 231), .asg none 233 (.var 8), .asg none 234 (.var 10), .eff none (some 235) (.call { callee := .value (.func 67), args := #[(.tmp 233), (.tmp 234)], argTypes := #[29, 3] }) 53, .asg none 232 (.var 235), .asg none 236 (.op1 (.ext 0) (.var 232)), .asg none 237 (.op1 (.ext 1) (.var 232)), .asg none 36 (.var 236), .asg none 37 (.var 237), .asg none 239 (.var 7), .asg none 240 (.var 10), .eff none (some 241) (.call { callee := .value (.func 25), args := #[(.tmp 239), (.tmp 240)], argTypes := #[25, 3] }) 55, .asg none 238 (.var 241), .asg none 242 (.op1 (.ext 0) (.var 238)), .asg none 243 (.op1 (.ext 1) (.var 238)), .asg none 38 (.var 242), .asg none 39 (.var 243), .asg none 245 (.var 8), .asg none 246 (.var 10), .eff none (some 247) (.call { callee := .value (.func 68), args := #[(.tmp 245), (.tmp 246)], argTypes := #[29, 3] }) 55, .asg none 244 (.var 247), .asg none 248 (.op1 (.ext 0) (.var 244)), .asg none 249 (.op1 (.ext 1) (.var 244)), .asg none 40 (.var 248), .asg none 41 (.var 249), .asg none 6 (.ite (.ite (.ite (.ite (.ite (.op2 (.ibin .eql .i64) (.var 30) (.var 32)) (.op2 (.ibin .eql .i64) (.var 31) (.var 33)) (.const (.bool false))) (.op2 (.ibin .eql .u8) (.var 34) (.var 36)) (.const (.bool false))) (.op2 (.ibin .eql .i64) (.var 35) (.var 37)) (.const (.bool false))) (.op2 (.ibin .eql .i64) (.var 38) (.var 40)) (.const (.bool false))) (.op2 (.ibin .eql .i64) (.var 39) (.var 41)) (.const (.bool false)))]) <| .ret) (.seq (.reg [.asg none 278 (.op2 (.ibin .eql .u8) (.var 79) (.const (.int .u8 7)))]) <| .seq (.cond (.var 278) (.skip) (.seq (.reg [.asg none 278 (.op2 (.ibin .eql .u8) (.var 79) (.const (.int .u8 8)))]) <| .cond (.var 278) (.skip) (.reg [.asg none 278 (.op2 (.ibin .eql .u8) (.var 79) (.const (.int .u8 11)))]))) (ir14_k6)))
noncomputable def ir14_k8 : IR := .cond (.var 80) (.seq (.reg [.asg none 84 (.op1 .load1 (.op1 (.fadr 4) (.var 4))), .asg none 86 (.op1 .load1 (.op1 (.fadr 5) (.var 4))), .asg none 87 (.var 9), .eff none (some 88) (.call { callee := .value (.func 61), args := #[(.tmp 84), (.tmp 86), (.tmp 87)], argTypes := #[34, 35, 3] }) 35, .asg none 11 (.var 88), .asg none 90 (.var 7), .asg none 92 (.op1 .load1 (.op1 (.fadr 2) (.var 4))), .asg none 94 (.op1 .load1 (.op1 (.fadr 4) (.var 4))), .asg none 95 (.var 11), .eff none (some 96) (.call { callee := .value (.func 32), args := #[(.tmp 90), (.tmp 92), (.tmp 94), (.tmp 95)], argTypes := #[25, 3, 34, 35] }) 55, .asg none 89 (.var 96), .asg none 97 (.op1 (.ext 0) (.var 89)), .asg none 98 (.op1 (.ext 1) (.var 89)), .asg none 12 (.var 97), .asg none 13 (.var 98), .asg none 100 (.var 8), .asg none 102 (.op1 .load1 (.op1 (.fadr 2) (.var 4))), .asg none 104 (.op1 .load1 (.op1 (.fadr 4) (.var 4))), .asg none 105 (.var 11), .eff none (some 106) (.call { callee := .value (.func 62), args := #[(.tmp 100), (.tmp 102), (.tmp 104), (.tmp 105)], argTypes := #[29, 3, 34, 35] }) 55, .asg none 99 (.var 106), .asg none 107 (.op1 (.ext 0) (.var 99)), .asg none 108 (.op1 (.ext 1) (.var 99)), .asg none 14 (.var 107), .asg none 15 (.var 108), .asg none 6 (.ite (.op2 (.ibin .eql .i64) (.var 12) (.var 14)) (.op2 (.ibin .eql .i64) (.var 13) (.var 15)) (.const (.bool false)))]) <| .ret) (.seq (.reg [.asg none 117 (.op2 (.ibin .eql .u8) (.var 79) (.const (.int .u8 2)))]) <| .cond (.var 117) (.seq (.reg [.asg none 120 (.var 7), .asg none 123 (.op1 (.conv .u8) (.op1 .load1 (.op1 (.fadr 2) (.var 4)))), .eff none (some 124) (.call { callee := .value (.func 36), args := #[(.tmp 120), (.tmp 123)], argTypes := #[25, 5] }) 55, .asg none 119 (.var 124), .asg none 125 (.op1 (.ext 0) (.var 119)), .asg none 126 (.op1 (.ext 1) (.var 119)), .asg none 16 (.var 125), .asg none 17 (.var 126), .asg none 128 (.var 8), .asg none 131 (.op1 (.conv .u8) (.op1 .load1 (.op1 (.fadr 2) (.var 4)))), .eff none (some 132) (.call { callee := .value (.func 63), args := #[(.tmp 128), (.tmp 131)], argTypes := #[29, 5] }) 55, .asg none 127 (.var 132), .asg none 133 (.op1 (.ext 0) (.var 127)), .asg none 134 (.op1 (.ext 1) (.var 127)), .asg none 18 (.var 133), .asg none 19 (.var 134), .asg none 6 (.ite (.op2 (.ibin .eql .i64) (.var 16) (.var 18)) (.op2 (.ibin .eql .i64) (.var 17) (.var 19)) (.const (.bool false)))]) <| .ret) (.seq (.reg [.asg none 143 (.op2 (.ibin .eql .u8) (.var 79) (.const (.int .u8 3)))]) <| .cond (.var 143) (.seq (.reg [.asg none 146 (.var 7), .asg none 147 (.var 10), .asg none 149 (.op1 .load1 (.op1 (.fadr 2) (.var 4))), .eff none (some 150) (.call { callee := .value (.func 26), args := #[(.tmp 146), (.tmp 147), (.tmp 149)], argTypes := #[25, 3, 3] }) 57, .asg none 145 (.var 150), .asg none 151 (.op1 (.ext 0) (.var 145)), .asg none 152 (.op1 (.ext 1) (.var 145)), .asg none 153 (.op1 (.ext 2) (.var 145)), .asg none 20 (.var 151), .asg none 21 (.var 152), .asg none 22 (.var 153), .asg none 155 (.var 8), .asg none 156 (.var 10), .asg none 158 (.op1 .load1 (.op1 (.fadr 2) (.var 4))), .eff none (some 159) (.call { callee := .value (.func 64), args := #[(.tmp 155), (.tmp 156), (.tmp 158)], argTypes := #[29, 3, 3] }) 57, .asg none 154 (.var 159), .asg none 160 (.op1 (.ext 0) (.var 154)), .asg none 161 (.op1 (.ext 1) (.var 154)), .asg none 162 (.op1 (.ext 2) (.var 154)), .asg none 23 (.var 160), .asg none 24 (.var 161), .asg none 25 (.var 162), .asg none 6 (.ite (.ite (.op2 (.ibin .eql .u8) (.var 20) (.var 23)) (.op2 (.ibin .eql .i64) (.var 21) (.var 24)) (.const (.bool false))) (.op2 (.ibin .eql .i64) (.var 22) (.var 25)) (.const (.bool false)))]) <| .ret) (.seq (.reg [.asg none 176 (.op2 (.ibin .eql .u8) (.var 79) (.const (.int .u8 4)))]) <| .seq (.cond (.var 176) (.skip) (.reg [.asg none 176 (.op2 (.ibin .eql .u8) (.var 79) (.const (.int .u8 5)))])) (ir14_k7))))
noncomputable def ir14_k9 : IR := .seq (.reg [.asg none 461 (.op1 (.loadN 2) (.var 3)), .asg none 463 (.op1 .load1 (.op1 (.fadr 2) (.var 4))), .eff none (some 464) (.call { callee := .value (.func 78), args := #[(.tmp 461), (.tmp 463)], argTypes := #[31, 3] }) 4, .asg none 6 (.var 464)]) <| .ret
noncomputable def ir14_k10 : IR := .seq (.reg [.asg none 421 (.op2 (.ibin .rem .u8) (.op1 .load1 (.op1 (.fadr 0) (.var 4))) (.const (.int .u8 18)))]) <| .seq (.block 1 (.seq (.reg [.asg none 422 (.op2 (.ibin .eql .u8) (.var 421) (.const (.int .u8 13)))]) <| .cond (.var 422) (.seq (.reg [.asg none 425 (.op1 .load1 (.op1 (.fadr 6) (.var 4))), .asg none 426 (.var 9), .eff none (some 427) (.call { callee := .value (.func 18), args := #[(.tmp 425), (.tmp 426)], argTypes := #[35, 3] }) 35, .asg none 58 (.var 427), .asg none 429 (.var 7), .asg none 430 (.var 58), .eff none (some 431) (.call { callee := .value (.func 38), args := #[(.tmp 429), (.tmp 430)], argTypes := #[25, 35] }) 55, .asg none 428 (.var 431), .asg none 432 (.op1 (.ext 0) (.var 428)), .asg none 433 (.op1 (.ext 1) (.var 428)), .asg none 59 (.var 432), .asg none 60 (.var 433), .asg none 435 (.var 8), .asg none 436 (.var 58), .eff none (some 437) (.call { callee := .value (.func 76), args := #[(.tmp 435), (.tmp 436)], argTypes := #[29, 35] }) 55, .asg none 434 (.var 437), .asg none 438 (.op1 (.ext 0) (.var 434)), .asg none 439 (.op1 (.ext 1) (.var 434)), .asg none 61 (.var 438), .asg none 62 (.var 439), .asg none 6 (.ite (.op2 (.ibin .eql .i64) (.var 59) (.var 61)) (.op2 (.ibin .eql .i64) (.var 60) (.var 62)) (.const (.bool false)))]) <| .ret) (.seq (.reg [.asg none 448 (.op2 (.ibin .eql .u8) (.var 421) (.const (.int .u8 14)))]) <| .cond (.var 448) (.seq (.reg [.asg none 451 (.op1 .load1 (.op1 (.fadr 6) (.var 4))), .asg none 452 (.var 9), .eff none (some 453) (.call { callee := .value (.func 18), args := #[(.tmp 451), (.tmp 452)], argTypes := #[35, 3] }) 35, .asg none 63 (.var 453), .asg none 454 (.var 7), .asg none 455 (.var 63), .eff none (some 456) (.call { callee := .value (.func 34), args := #[(.tmp 454), (.tmp 455)], argTypes := #[25, 35] }) 26, .asg none 457 (.var 8), .asg none 458 (.var 63), .eff none (some 459) (.call { callee := .value (.func 77), args := #[(.tmp 457), (.tmp 458)], argTypes := #[29, 35] }) 26, .asg none 6 (.op2 (.ibin .eql .i64) (.var 456) (.var 459))]) <| .ret) (.skip)))) (ir14_k9)
noncomputable def ir14_k11 : IR := .seq (.reg [.asg none 418 (.op1 .not (.var 2))]) <| .seq (.cond (.var 418) (.seq (.reg [.asg none 6 (.const (.bool true))]) <| .ret) (.skip)) (ir14_k10)
noncomputable def ir14_k12 : IR := .seq (.reg [.asg none 9 (.op1 .lenS (.op1 .load1 (.op1 (.fadr 1) (.op1 .nilc (.var 8))))), .asg none 74 (.op1 .load1 (.op1 (.fadr 1) (.var 4))), .asg none 75 (.var 9), .eff none (some 76) (.call { callee := .value (.func 60), args := #[(.tmp 74), (.tmp 75)], argTypes := #[3, 3] }) 3, .asg none 10 (.var 76), .asg none 79 (.op2 (.ibin .rem .u8) (.op1 .load1 (.op1 (.fadr 0) (.var 4))) (.const (.int .u8 18)))]) <| .seq (.block 0 (.seq (.reg [.asg none 80 (.op2 (.ibin .eql .u8) (.var 79) (.const (.int .u8 0)))]) <| .seq (.cond (.var 80) (.skip) (.reg [.asg none 80 (.op2 (.ibin .eql .u8) (.var 79) (.const (.int .u8 1)))])) (ir14_k8))) (ir14_k11)
noncomputable def ir14 : IR := .seq (.reg [.eff none (some 3) (.box 31 (.tmp 0)) 0, .eff none (some 4) (.box 37 (.tmp 1)) 0, .asg none 6 (.const (.bool false))]) <| .seq (.drw [.asg none 65 (.op1 .load1 (.op1 (.fadr 0) (.var 3))), .asg none 67 (.op1 .load1 (.op1 (.fadr 1) (.var 3))), .asg none 7 (.var 65), .asg none 8 (.var 67)]) (ir14_k12)
def ir14_V : List Nat := [0, 1, 2, 3, 4, 6, 7, 8, 9, 10, 11, 12, 13, 14, 15, 16, 17, 18, 19, 20, 21, 22, 23, 24, 25, 26, 27, 28, 29, 30, 31, 32, 33, 34, 35, 36, 37, 38, 39, 40, 41, 42, 43, 44, 45, 46, 47, 48, 49, 50, 51, 52, 53, 54, 55, 56, 57, 58, 59, 60, 61, 62, 63, 65, 67, 74, 75, 76, 79, 80, 84, 86, 87, 88, 89, 90, 92, 94, 95, 96, 97, 98, 99, 100, 102, 104, 105, 106, 107, 108, 117, 119, 120, 123, 124, 125, 126, 127, 128, 131, 132, 133, 134, 143, 145, 146, 147, 149, 150, 151, 152, 153, 154, 155, 156, 158, 159, 160, 161, 162, 176, 181, 182, 183, 185, 186, 187, 188, 189, 195, 196, 197, 198, 199, 200, 201, 202, 203, 204, 205, 206, 207, 208, 209, 210, 211, 212, 214, 215, 216, 217, 218, 219, 220, 221, 222, 223, 224, 225, 226, 227, 228, 229, 230, 231, 232, 233, 234, 235, 236, 237, 238, 239, 240, 241, 242, 243, 244, 245, 246, 247, 248, 249, 278, 284, 285, 286, 287, 288, 289, 295, 296, 297, 298, 302, 303, 304, 305, 306, 307, 308, 309, 310, 311, 312, 313, 314, 315, 316, 317, 318, 319, 320, 321, 322, 323, 325, 327, 328, 329, 330, 331, 332, 333, 334, 335, 336, 337, 338, 347, 349, 350, 351, 353, 354, 355, 356, 357, 358, 359, 361, 362, 363, 364, 373, 376, 377, 378, 379, 380, 381, 382, 383, 384, 385, 386, 387, 388, 389, 390, 391, 392, 393, 399, 404, 405, 406, 407, 408, 409, 410, 412, 413, 414, 415, 416, 418, 421, 422, 425, 426, 427, 428, 429, 430, 431, 432, 433, 434, 435, 436, 437, 438, 439, 448, 451, 452, 453, 454, 455, 456, 457, 458, 459, 461, 463, 464]
theorem ir14_calls (h : ∀ ρ : Env, ρ 0 = v0 → ρ 1 = v1 → ρ 2 = v2 → ir14.wp ⟨Tryz.prog, 465, ir14_V, []⟩ (retK [.tmp 6] R) (ksOf [.tmp 6] R) ρ w) : Calls Tryz.prog 14 #[v0, v1, v2] w R :=
 calls_irX (raws := [42, 25]) (ir := ir14) Tryz.func14 rfl (by kernel_rfl) (by kernel_rfl) (by kernel_rfl) (Nat.le_of_ble_eq_true rfl) (h _ rfl rfl rfl)
noncomputable def ir14_o25 : OT := .take none 199 (.var 7) <| .take none 200 (.var 10) <| .take none 201 (.op1 (.fadr 2) (.var 4)) <| .take none 202 (.op1 .load1 (.var 201)) <| .take none 203 (.var 26) <| .take none 205 (.var 8) <| .take none 206 (.var 10) <| .take none 207 (.op1 (.fadr 2) (.var 4)) <| .take none 208 (.op1 .load1 (.var 207)) <| .take none 209 (.var 26) <| .step (.eff none (some 204) (.call { callee := .value (.func 40), args := #[(.tmp 199), (.tmp 200), (.tmp 202), (.tmp 203)], argTypes := #[25, 3, 3, 3] }) 26) true <| .step (.eff none (some 210) (.call { callee := .value (.func 65), args := #[(.tmp 205), (.tmp 206), (.tmp 208), (.tmp 209)], argTypes := #[29, 3, 3, 3] }) 26) false <| .step (.asg none 211 (.op2 (.ibin .eql .i64) (.var 204) (.var 210))) false <| .step (.asg none 6 (.var 211)) false <| .done
theorem ir14_o25_ok : ordOf Tryz.prog 465 ir14_V 11 (rawReg ir14_body 25) = some ir14_o25 := by kernel_rfl
noncomputable def ir14_o42 : OT := .take none 303 (.var 7) <| .take none 304 (.var 10) <| .take none 305 (.op1 (.fadr 2) (.var 4)) <| .take none 306 (.op1 .load1 (.var 305)) <| .take none 307 (.var 42) <| .take none 309 (.var 8) <| .take none 310 (.var 10) <| .take none 311 (.op1 (.fadr 2) (.var 4)) <| .take none 312 (.op1 .load1 (.var 311)) <| .take none 313 (.var 42) <| .step (.eff none (some 308) (.call { callee := .value (.func 42), args := #[(.tmp 303), (.tmp 304), (.tmp 306), (.tmp 307)], argTypes := #[25, 3, 3, 3] }) 26) true <| .step (.eff none (some 314) (.call { callee := .value (.func 69), args := #[(.tmp 309), (.tmp 310), (.tmp 312), (.tmp 313)], argTypes := #[29, 3, 3, 3] }) 26) false <| .step (.asg none 315 (.op2 (.ibin .eql .i64) (.var 308) (.var 314))) false <| .step (.asg none 6 (.var 315)) false <| .done
theorem ir14_o42_ok : ordOf Tryz.prog 465 ir14_V 11 (rawReg ir14_body 42) = some ir14_o42 := by kernel_rfl
noncomputable def ir16_k0 : IR := .reg [.asg none 20 (.op2 (.ibin .add .i64) (.var 20) (.const (.int .i64 1)))]
noncomputable def ir16_k1 : IR := .seq (.block 1 (.seq (.reg [.asg none 23 (.op1 (.loadN 7) (.op2 (.ixa 7) (.var 18) (.var 20))), .eff none (some 9) (.alloc 37) 0, .eff none none (.store 37 (.tmp 9) (.tmp 23)) 0, .asg none 24 (.op1 (.loadN 2) (.var 6)), .asg none 25 (.op1 (.loadN 7) (.var 9)), .eff none (some 26) (.call { callee := .value (.func 14), args := #[(.tmp 24), (.tmp 25), (.const (.bool false))], argTypes := #[31, 37, 4] }) 4, .asg none 27 (.op1 .not (.var 26))]) <| .cond (.var 27) (.seq (.reg [.asg none 28 (.op1 (.loadN 2) (.var 6)), .eff none none (.store 31 (.tmp 4) (.tmp 28)) 0, .asg none 5 (.const (.bool false))]) <| .ret) (.skip))) (ir16_k0)
noncomputable def ir16_l2 : IR := .seq (.reg [.asg none 21 (.op2 (.ibin .lss .i64) (.var 20) (.var 19))]) <| .seq (.cond (.var 21) (.skip) (.exit 0)) (ir16_k1)
noncomputable def ir16_k3 : IR := .seq (.reg [.asg none 30 (.op1 (.loadN 2) (.var 6)), .eff none none (.store 31 (.tmp 4) (.tmp 30)) 0, .asg none 5 (.const (.bool true))]) <| .ret
noncomputable def ir16_k4 : IR := .seq (.reg [.asg none 18 (.var 1), .asg none 19 (.op1 .lenS (.var 18)), .asg none 20 (.const (.int .i64 0))]) <| .seq (.block 0 (.loop ir16_l2)) (ir16_k3)
noncomputable def ir16 : IR := .seq (.reg [.eff none (some 4) (.alloc 31) 0, .asg none 5 (.const (.bool false)), .asg none 11 (.var 0), .eff none (some 12) (.call { callee := .value (.func 13), args := #[(.tmp 11)], argTypes := #[3] }) 32, .asg none 10 (.var 12), .asg none 13 (.op1 (.ext 0) (.var 10)), .asg none 14 (.op1 (.ext 1) (.var 10)), .eff none (some 6) (.alloc 31) 0, .eff none none (.store 31 (.tmp 6) (.tmp 13)) 0, .asg none 7 (.var 14), .asg none 16 (.op1 .not (.var 7))]) <| .seq (.cond (.var 16) (.seq (.reg [.asg none 17 (.op1 (.loadN 2) (.var 6)), .eff none none (.store 31 (.tmp 4) (.tmp 17)) 0, .asg none 5 (.const (.bool false))]) <| .ret) (.skip)) (ir16_k4)
def ir16_V : List Nat := [0, 1, 4, 5, 6, 7, 9, 10, 11, 12, 13, 14, 16, 17, 18, 19, 20, 21, 23, 24, 25, 26, 27, 28, 30]
theorem ir16_calls (h : ∀ ρ : Env, ρ 0 = v0 → ρ 1 = v1 → ir16.wp ⟨Tryz.prog, 31, ir16_V, []⟩ (retK [.cellN 4 2, .tmp 5] R) (ksOf [.cellN 4 2, .tmp 5] R) ρ w) : Calls Tryz.prog 16 #[v0, v1] w R :=
 calls_irX (raws := []) (ir := ir16) Tryz.func16 rfl (by kernel_rfl) (by kernel_rfl) (by kernel_rfl) (Nat.le_of_ble_eq_true rfl) (h _ rfl rfl)
noncomputable def ir18_k0 : IR := .reg [.asg none 10 (.op2 (.ibin .add .i64) (.var 10) (.const (.int .i64 1)))]
noncomputable def ir18_k1 : IR := .seq (.block 1 (.reg [.asg none 7 (.op1 .load1 (.op2 (.ixa 1) (.var 8) (.var 10))), .asg none 14 (.var 5), .asg none 15 (.var 7), .asg none 16 (.var 1), .eff none (some 17) (.call { callee := .value (.func 60), args := #[(.tmp 15), (.tmp 16)], argTypes := #[3, 3] }) 3, .eff none (some 18) (.call { callee := .builtin .max, args := #[(.const (.int .i64 0)), (.tmp 17)], argTypes := #[3, 3] }) 3, .eff none (some 19) (.buildSlice 35 1 #[(0, (.tmp 18))]) 35, .eff none (some 20) (.call { callee := .builtin .append, args := #[(.tmp 14), (.tmp 19)], argTypes := #[35, 35] }) 35, .asg none 5 (.var 20)])) (ir18_k0)
noncomputable def ir18_l2 : IR := .seq (.reg [.asg none 11 (.op2 (.ibin .lss .i64) (.var 10) (.var 9))]) <| .seq (.cond (.var 11) (.skip) (.exit 0)) (ir18_k1)
noncomputable def ir18_k3 : IR := .seq (.reg [.asg none 4 (.var 5)]) <| .ret
noncomputable def ir18 : IR := .seq (.reg [.asg none 4 (.const (.slice none 0 0)), .asg none 5 (.const (.slice none 0 0)), .asg none 8 (.var 0), .asg none 9 (.op1 .lenS (.var 8)), .asg none 10 (.const (.int .i64 0))]) <| .seq (.block 0 (.loop ir18_l2)) (ir18_k3)
def ir18_V : List Nat := [0, 1, 4, 5, 7, 8, 9, 10, 11, 14, 15, 16, 17, 18, 19, 20]
theorem ir18_calls (h : ∀ ρ : Env, ρ 0 = v0 → ρ 1 = v1 → ir18.wp ⟨Tryz.prog, 23, ir18_V, []⟩ (retK [.tmp 4] R) (ksOf [.tmp 4] R) ρ w) : Calls Tryz.prog 18 #[v0, v1] w R :=
 calls_irX (raws := []) (ir := ir18) Tryz.func18 rfl (by kernel_rfl) (by kernel_rfl) (by kernel_rfl) (Nat.le_of_ble_eq_true rfl) (h _ rfl rfl)
noncomputable def ir19 : IR := .seq (.reg [.asg none 3 (.const (.bool false)), .asg none 6 (.op2 (.ibin .neq .i64) (.var 0) (.const (.int .i64 0))), .asg (some (6, true)) 8 (.op1 .load1 (.op1 (.fadr 0) (.var 1))), .asg (some (6, true)) 9 (.var 0), .eff (some (6, true)) (some 10) (.call { callee := .value (.func 20), args := #[(.tmp 8), (.tmp 9)], argTypes := #[25, 3] }) 4, .asg none 3 (.ite (.var 6) (.op1 .not (.var 10)) (.const (.bool false)))]) <| .ret
def ir19_V : List Nat := [0, 1, 3, 6, 8, 9, 10]
theorem ir19_calls (h : ∀ ρ : Env, ρ 0 = v0 → ρ 1 = v1 → ir19.wp ⟨Tryz.prog, 13, ir19_V, []⟩ (retK [.tmp 3] R) (ksOf [.tmp 3] R) ρ w) : Calls Tryz.prog 19 #[v0, v1] w R :=
 calls_irX (raws := []) (ir := ir19) Tryz.func19 rfl (by kernel_rfl) (by kernel_rfl) (by kernel_rfl) (Nat.le_of_ble_eq_true rfl) (h _ rfl rfl)
noncomputable def ir30_k0 : IR := .reg [.asg none 6 (.op2 (.ibin .add .i64) (.var 6) (.const (.int .i64 1)))]
noncomputable def ir30_k1 : IR := .seq (.block 1 (.seq (.reg [.asg none 12 (.var 0), .asg none 13 (.var 6), .eff none (some 14) (.call { callee := .value (.func 20), args := #[(.tmp 12), (.tmp 13)], argTypes := #[25, 3] }) 4]) <| .cond (.var 14) (.reg [.asg none 15 (.var 5), .asg none 16 (.var 6), .eff none (some 17) (.buildSlice 35 1 #[(0, (.tmp 16))]) 35, .eff none (some 18) (.call { callee := .builtin .append, args := #[(.tmp 15), (.tmp 17)], argTypes := #[35, 35] }) 35, .asg none 5 (.var 18)]) (.skip))) (ir30_k0)
noncomputable def ir30_l2 : IR := .seq (.reg [.asg none 9 (.op2 (.ibin .leq .i64) (.var 6) (.var 1))]) <| .seq (.cond (.var 9) (.skip) (.exit 0)) (ir30_k1)
noncomputable def ir30_k3 : IR := .seq (.reg [.asg none 4 (.var 5)]) <| .ret
noncomputable def ir30 : IR := .seq (.reg [.asg none 4 (.const (.slice none 0 0)), .asg none 5 (.const (.slice none 0 0)), .asg none 6 (.const (.int .i64 1))]) <| .seq (.block 0 (.loop ir30_l2)) (ir30_k3)
def ir30_V : List Nat := [0, 1, 4, 5, 6, 9, 12, 13, 14, 15, 16, 17, 18]
theorem ir30_calls (h : ∀ ρ : Env, ρ 0 = v0 → ρ 1 = v1 → ir30.wp ⟨Tryz.prog, 20, ir30_V, []⟩ (retK [.tmp 4] R) (ksOf [.tmp 4] R) ρ w) : Calls Tryz.prog 30 #[v0, v1] w R :=
 calls_irX (raws := []) (ir := ir30) Tryz.func30 rfl (by kernel_rfl) (by kernel_rfl) (by kernel_rfl) (Nat.le_of_ble_eq_true rfl) (h _ rfl rfl)
noncomputable def ir51 : IR := .seq (.reg [.asg none 3 (.const (.bool false)), .asg none 6 (.op2 (.ibin .neq .i64) (.var 0) (.const (.int .i64 0))), .asg (some (6, true)) 8 (.op1 .load1 (.op1 (.fadr 0) (.var 1))), .asg (some (6, true)) 9 (.var 0), .eff (some (6, true)) (some 10) (.call { callee := .value (.func 20), args := #[(.tmp 8), (.tmp 9)], argTypes := #[25, 3] }) 4, .asg none 3 (.ite (.var 6) (.op1 .not (.var 10)) (.const (.bool false)))]) <| .ret
def ir51_V : List Nat := [0, 1, 3, 6, 8, 9, 10]
theorem ir51_calls (h : ∀ ρ : Env, ρ 0 = v0 → ρ 1 = v1 → ir51.wp ⟨Tryz.prog, 13, ir51_V, []⟩ (retK [.tmp 3] R) (ksOf [.tmp 3] R) ρ w) : Calls Tryz.prog 51 #[v0, v1] w R :=
 calls_irX (raws := []) (ir := ir51) Tryz.func51 rfl (by kernel_rfl) (by kernel_rfl) (by kernel_rfl) (Nat.le_of_ble_eq_true rfl) (h _ rfl rfl)
noncomputable def ir53 : IR := .seq (.reg [.asg none 3 (.const (.bool false)), .asg none 6 (.op2 (.ibin .neq .i64) (.var 0) (.const (.int .i64 0))), .asg (some (6, true)) 8 (.op1 .load1 (.op1 (.fadr 0) (.var 1))), .asg (some (6, true)) 9 (.var 0), .eff (some (6, true)) (some 10) (.call { callee := .value (.func 20), args := #[(.tmp 8), (.tmp 9)], argTypes := #[25, 3] }) 4, .asg none 3 (.ite (.var 6) (.op1 .not (.var 10)) (.const (.bool false)))]) <| .ret
def ir53_V : List Nat := [0, 1, 3, 6, 8, 9, 10]
theorem ir53_calls (h : ∀ ρ : Env, ρ 0 = v0 → ρ 1 = v1 → ir53.wp ⟨Tryz.prog, 13, ir53_V, []⟩ (retK [.tmp 3] R) (ksOf [.tmp 3] R) ρ w) : Calls Tryz.prog 53 #[v0, v1] w R :=
 calls_irX (raws := []) (ir := ir53) Tryz.func53 rfl (by kernel_rfl) (by kernel_rfl) (by kernel_rfl) (Nat.le_of_ble_eq_true rfl) (h _ rfl rfl)
noncomputable def ir56 : IR := .seq (.reg [.asg none 4 (.const (.bool false)), .asg none 5 (.var 0), .asg none 6 (.var 1), .eff none (some 7) (.call { callee := .value (.func 114), args := #[(.tmp 5), (.tmp 6)], argTypes := #[22, 89] }) 3, .asg none 4 (.op2 (.ibin .geq .i64) (.var 7) (.const (.int .i64 0)))]) <| .ret
def ir56_V : List Nat := [0, 1, 4, 5, 6, 7]
theorem ir56_calls (h : ∀ ρ : Env, ρ 0 = v0 → ρ 1 = v1 → ir56.wp ⟨Tryz.prog, 9, ir56_V, []⟩ (retK [.tmp 4] R) (ksOf [.tmp 4] R) ρ w) : Calls Tryz.prog 56 #[v0, v1] w R :=
 calls_irX (raws := []) (ir := ir56) Tryz.func56 rfl (by kernel_rfl) (by kernel_rfl) (by kernel_rfl) (Nat.le_of_ble_eq_true rfl) (h _ rfl rfl)
noncomputable def ir57 : IR := .seq (.reg [.eff none (some 1) (.box 37 (.tmp 0)) 0, .asg none 2 (.const (.bool false)), .asg none 2 (.ite (.ite (.op2 (.ibin .gtr .i64) (.op1 .lenS (.op1 .load1 (.op1 (.fadr 4) (.var 1)))) (.const (.int .i64 10))) (.const (.bool true)) (.op2 (.ibin .gtr .i64) (.op1 .lenS (.op1 .load1 (.op1 (.fadr 5) (.var 1)))) (.const (.int .i64 10)))) (.const (.bool true)) (.op2 (.ibin .gtr .i64) (.op1 .lenS (.op1 .load1 (.op1 (.fadr 6) (.var 1)))) (.const (.int .i64 10))))]) <| .ret
def ir57_V : List Nat := [0, 1, 2]
theorem ir57_calls (h : ∀ ρ : Env, ρ 0 = v0 → ir57.wp ⟨Tryz.prog, 19, ir57_V, []⟩ (retK [.tmp 2] R) (ksOf [.tmp 2] R) ρ w) : Calls Tryz.prog 57 #[v0] w R :=
 calls_irX (raws := []) (ir := ir57) Tryz.func57 rfl (by kernel_rfl) (by kernel_rfl) (by kernel_rfl) (Nat.le_of_ble_eq_true rfl) (h _ rfl)
noncomputable def ir60 : IR := .seq (.reg [.asg none 4 (.const (.int .i64 0)), .asg none 4 (.op2 (.ibin .sub .i64) (.op1 (.conv .i64) (.op2 (.ibin .rem .u64) (.op1 (.conv .u64) (.var 0)) (.op1 (.conv .u64) (.op2 (.ibin .add .i64) (.var 1) (.const (.int .i64 4)))))) (.const (.int .i64 1)))]) <| .ret
def ir60_V : List Nat := [0, 1, 4]
theorem ir60_calls (h : ∀ ρ : Env, ρ 0 = v0 → ρ 1 = v1 → ir60.wp ⟨Tryz.prog, 13, ir60_V, []⟩ (retK [.tmp 4] R) (ksOf [.tmp 4] R) ρ w) : Calls Tryz.prog 60 #[v0, v1] w R :=
 calls_irX (raws := []) (ir := ir60) Tryz.func60 rfl (by kernel_rfl) (by kernel_rfl) (by kernel_rfl) (Nat.le_of_ble_eq_true rfl) (h _ rfl rfl)
noncomputable def ir61_k0 : IR := .reg [.asg none 13 (.op2 (.ibin .add .i64) (.var 13) (.const (.int .i64 1)))]
noncomputable def ir61_k1 : IR := .seq (.block 1 (.seq (.reg [.asg none 8 (.var 13), .asg none 26 (.ite (.op2 (.ibin .lss .i64) (.var 8) (.op1 .lenS (.var 0))) (.op2 (.ibin .eql .u8) (.op1 .load1 (.op2 (.ixa 1) (.var 0) (.var 8))) (.const (.int .u8 2))) (.const (.bool false)))]) <| .cond (.var 26) (.reg [.asg none 27 (.var 7), .asg none 28 (.var 8), .asg none 32 (.op1 .load1 (.op2 (.ixa 1) (.var 7) (.var 8))), .asg none 33 (.var 2), .eff none (some 34) (.call { callee := .value (.func 60), args := #[(.tmp 32), (.tmp 33)], argTypes := #[3, 3] }) 3, .asg none 35 (.op2 (.ixa 1) (.var 27) (.var 28)), .eff none none (.store 3 (.tmp 35) (.tmp 34)) 0]) (.skip))) (ir61_k0)
noncomputable def ir61_l2 : IR := .seq (.reg [.asg none 14 (.op2 (.ibin .lss .i64) (.var 13) (.var 12))]) <| .seq (.cond (.var 14) (.skip) (.exit 0)) (ir61_k1)
noncomputable def ir61_k3 : IR := .seq (.reg [.asg none 6 (.var 7)]) <| .ret
noncomputable def ir61 : IR := .seq (.reg [.asg none 6 (.const (.slice none 0 0)), .asg none 9 (.var 1), .eff none (some 10) (.call { callee := .value (.func 33), args := #[(.tmp 9)], argTypes := #[35] }) 35, .asg none 7 (.var 10), .asg none 12 (.op1 .lenS (.var 7)), .asg none 13 (.const (.int .i64 0))]) <| .seq (.block 0 (.loop ir61_l2)) (ir61_k3)
def ir61_V : List Nat := [0, 1, 2, 6, 7, 8, 9, 10, 12, 13, 14, 26, 27, 28, 32, 33, 34, 35]
theorem ir61_calls (h : ∀ ρ : Env, ρ 0 = v0 → ρ 1 = v1 → ρ 2 = v2 → ir61.wp ⟨Tryz.prog, 38, ir61_V, []⟩ (retK [.tmp 6] R) (ksOf [.tmp 6] R) ρ w) : Calls Tryz.prog 61 #[v0, v1, v2] w R :=
 calls_irX (raws := []) (ir := ir61) Tryz.func61 rfl (by kernel_rfl) (by kernel_rfl) (by kernel_rfl) (Nat.le_of_ble_eq_true rfl) (h _ rfl rfl rfl)
noncomputable def ir78_k0 : IR := .seq (.reg [.asg none 34 (.op1 .load1 (.op1 (.fadr 1) (.var 2))), .asg none 35 (.var 1), .asg none 36 (.var 6), .eff none (some 37) (.call { callee := .value (.func 124), args := #[(.tmp 34), (.tmp 35), (.tmp 36)], argTypes := #[29, 3, 4] }) 4, .asg none 4 (.var 37)]) <| .ret
noncomputable def ir78 : IR := .seq (.reg [.eff none (some 2) (.box 31 (.tmp 0)) 0, .asg none 4 (.const (.bool false)), .asg none 9 (.op1 .load1 (.op1 (.fadr 1) (.var 2))), .asg none 10 (.var 1), .eff none (some 11) (.call { callee := .value (.func 123), args := #[(.tmp 9), (.tmp 10)], argTypes := #[29, 3] }) 26, .asg none 5 (.var 11), .asg none 14 (.op1 .load1 (.op1 (.fadr 0) (.var 2))), .asg none 15 (.var 1), .eff none (some 16) (.call { callee := .value (.func 35), args := #[(.tmp 14), (.tmp 15)], argTypes := #[25, 3] }) 70, .asg none 12 (.var 16), .asg none 17 (.op1 (.ext 0) (.var 12)), .asg none 18 (.op1 (.ext 1) (.var 12)), .asg none 6 (.var 17), .asg none 7 (.var 18), .asg none 25 (.ite (.op2 (.ibin .neq .i64) (.var 7) (.var 5)) (.const (.bool true)) (.op2 (.ibin .neq .i64) (.var 7) (.const (.int .i64 0))))]) <| .seq (.cond (.var 25) (.seq (.reg [.asg none 4 (.ite (.op2 (.ibin .eql .i64) (.var 7) (.var 5)) (.op1 .not (.var 6)) (.const (.bool false)))]) <| .ret) (.skip)) (ir78_k0)
def ir78_V : List Nat := [0, 1, 2, 4, 5, 6, 7, 9, 10, 11, 12, 14, 15, 16, 17, 18, 25, 34, 35, 36, 37]
theorem ir78_calls (h : ∀ ρ : Env, ρ 0 = v0 → ρ 1 = v1 → ir78.wp ⟨Tryz.prog, 38, ir78_V, []⟩ (retK [.tmp 4] R) (ksOf [.tmp 4] R) ρ w) : Calls Tryz.prog 78 #[v0, v1] w R :=
 calls_irX (raws := []) (ir := ir78) Tryz.func78 rfl (by kernel_rfl) (by kernel_rfl) (by kernel_rfl) (Nat.le_of_ble_eq_true rfl) (h _ rfl rfl)
noncomputable def ir114_k0 : IR := .reg [.asg none 8 (.op2 (.ibin .add .i64) (.var 8) (.const (.int .i64 1)))]
noncomputable def ir114_k1 : IR := .seq (.block 1 (.seq (.reg [.asg none 5 (.var 8), .asg none 11 (.var 1), .asg none 15 (.op1 (.loadN 7) (.op2 (.ixa 7) (.var 0) (.var 5))), .eff none (some 16) (.call { callee := .value (.tmp 11), args := #[(.tmp 15)], argTypes := #[37] }) 4]) <| .cond (.var 16) (.seq (.reg [.asg none 4 (.var 5)]) <| .ret) (.skip))) (ir114_k0)
noncomputable def ir114_l2 : IR := .seq (.reg [.asg none 9 (.op2 (.ibin .lss .i64) (.var 8) (.var 7))]) <| .seq (.cond (.var 9) (.skip) (.exit 0)) (ir114_k1)
noncomputable def ir114_k3 : IR := .seq (.reg [.asg none 4 (.const (.int .i64 (-1)))]) <| .ret
noncomputable def ir114 : IR := .seq (.reg [.asg none 4 (.const (.int .i64 0)), .asg none 7 (.op1 .lenS (.var 0)), .asg none 8 (.const (.int .i64 0))]) <| .seq (.block 0 (.loop ir114_l2)) (ir114_k3)
def ir114_V : List Nat := [0, 1, 4, 5, 7, 8, 9, 11, 15, 16]
theorem ir114_calls (h : ∀ ρ : Env, ρ 0 = v0 → ρ 1 = v1 → ir114.wp ⟨Tryz.prog, 19, ir114_V, []⟩ (retK [.tmp 4] R) (ksOf [.tmp 4] R) ρ w) : Calls Tryz.prog 114 #[v0, v1] w R :=
 calls_irX (raws := []) (ir := ir114) Tryz.func114 rfl (by kernel_rfl) (by kernel_rfl) (by kernel_rfl) (Nat.le_of_ble_eq_true rfl) (h _ rfl rfl)
end Go.L17
namespace Go.L17
open Go Go.Eng Go.RowKit
open Go.Proofs hiding encI
set_option maxRecDepth 100000
set_option maxHeartbeats 4000000
structure MB (k : Nat) (m : MS) : Prop where
 len : m.objs.length ≤ k
 told : m.told.length ≤ 1000 * k
 tin : ∀ x ∈ m.told, 1 ≤ x ∧ x ≤ m.objs.length
 owed : -1000000 * ((k : Int) + 2) ≤ m.owed ∧ m.owed ≤ 1000000 * ((k : Int) + 2)
 age : ∀ n, (m.at n).age ≤ k + 2
section
variable {k : Nat} {m : MS}
theorem MB.mono {k' : Nat} (h : MB k m) (hk : k ≤ k') : MB k' m :=
 ⟨Nat.le_trans h.len hk, by have := h.told; omega, h.tin, by have := h.owed; omega, fun n => by have := h.age n; omega⟩
theorem at_low {m : MS} {n : Int} (h : n < 1) : m.at n = m.at 1 := by unfold MS.at; rw [show (n - 1).toNat = 0 by omega, show ((1 : Int) - 1).toNat = 0 from rfl]
theorem age_all {m : MS} {b : Nat} (h : ∀ n : Int, 1 ≤ n → n ≤ m.objs.length → (m.at n).age ≤ b) (n : Int) : (m.at n).age ≤ b := by
 have key : ∀ n : Int, 1 ≤ n → (m.at n).age ≤ b := fun n h1 => by
  by_cases h2 : n ≤ m.objs.length
  ·exact h n h1 h2
  ·rw [at_out (by omega)]; exact Nat.zero_le _
 by_cases h1 : 1 ≤ n
 ·exact key n h1
 ·rw [at_low (by omega)]; exact key 1 (by omega)
theorem MB.push (h : MB k m) (o : MO) {j : Int} (hj : 0 ≤ j ∧ j ≤ 1000) (ho : o.age = 0) : MB (k + 1) ((m.paid j).push o) := by
 have hlen : ((m.paid j).push o).objs.length = m.objs.length + 1 := by simp [MS.push, MS.paid]
 have hpo : (m.paid j).objs = m.objs := rfl
 have how := h.owed
 refine ⟨by rw [hlen]; have := h.len; omega, by show m.told.length ≤ _; have := h.told; omega, fun x hx => ?_, ?_, age_all fun n h1 h2 => ?_⟩
 ·have := h.tin x hx
  rw [hlen]; omega
 ·show _ ≤ (if m.on then m.owed + j else m.owed) ∧ (if m.on then m.owed + j else m.owed) ≤ _
  split <;> omega
 ·rw [hlen] at h2
  by_cases e : n ≤ m.objs.length
  ·rw [at_push (by rw [hpo]; exact e) h1]
   have := h.age n
   show (m.at n).age ≤ _
   omega
  ·have : n = ((m.paid j).objs.length : Int) + 1 := by rw [hpo]; omega
   rw [this, at_last, ho]; omega
theorem MB.put (h : MB k m) {ref : Int} (hr : m.there ref = true) {o : MO} {j : Int} (hj : 0 ≤ j ∧ j ≤ 1000) (ho : o.age ≤ k + 3) : MB (k + 1) ((m.paid j).put ref o) := by
 have hlen : ((m.paid j).put ref o).objs.length = m.objs.length := by rw [len_put]; rfl
 have how := h.owed
 refine ⟨by rw [hlen]; have := h.len; omega, by show m.told.length ≤ _; have := h.told; omega, fun x hx => ?_, ?_, age_all fun n h1 h2 => ?_⟩
 ·have := h.tin x hx
  rw [hlen]; omega
 ·show _ ≤ (if m.on then m.owed + j else m.owed) ∧ (if m.on then m.owed + j else m.owed) ≤ _
  split <;> omega
 ·rw [at_put (m := m.paid j) (there_le hr) h1]
  split
  ·exact ho
  ·have := h.age n
   show (m.at n).age ≤ _
   omega
theorem MB.make (h : MB k m) (tag : Int) (kinds : List Nat) (vals : List Int) : MB (k + 1) (m.make tag kinds vals).2.2 := by
 unfold MS.make
 split
 ·rename_i he
  refine h.push _ ?_ rfl
  unfold MS.makeE at he
  split at he
  ·cases he
  ·omega
 ·exact h.mono (by omega)
theorem MB.array (h : MB k m) (x : Nat) : MB (k + 1) (m.array x).2.2 := by
 unfold MS.array
 split
 ·exact h.mono (by omega)
 ·split
  ·exact h.push _ (by omega) rfl
  ·exact h.mono (by omega)
theorem MB.put0 (h : MB k m) {ref : Int} (hr : m.there ref = true) {o : MO} (ho : o.age ≤ k + 3) : MB (k + 1) (m.put ref o) := by
 have := h.put hr (o := o) (j := 0) (by omega) ho
 rw [paid_zero] at this
 exact this
theorem MB.set (h : MB k m) (r i v : Int) : MB (k + 1) (m.set r i v).2 := by
 unfold MS.set
 dsimp only
 split
 ·rename_i he
  have ht : m.there r = true := by
   unfold MS.setE at he
   split at he
   ·rename_i hf; exact (fieldE_zero.1 hf).1
   ·rename_i hf; exact absurd he hf
  exact h.put0 ht (by have := h.age r; show (m.at r).age ≤ _; omega)
 ·exact h.mono (by omega)
theorem MB.store (h : MB k m) (r i v : Int) : MB (k + 1) (m.store r i v).2 := by
 unfold MS.store
 dsimp only
 split
 ·rename_i he
  have ht : m.there r = true := by
   unfold MS.storeE at he
   split at he
   ·rename_i hf; exact absurd he hf
   ·rename_i hf
    exact (elemE_zero.1 (by simpa using hf)).1.1
  exact h.put0 ht (by have := h.age r; show (m.at r).age ≤ _; omega)
 ·exact h.mono (by omega)
theorem MB.add (h : MB k m) (r v : Int) : MB (k + 1) (m.add r v).2 := by
 unfold MS.add
 dsimp only
 split
 ·rename_i he
  have ht : m.there r = true := by
   unfold MS.addE at he
   split at he
   ·rename_i hf; exact absurd he hf
   ·rename_i hf; exact (arrayE_zero.1 (by simpa using hf)).1
  exact h.put ht (by omega) (by have := h.age r; show (m.at r).age ≤ _; omega)
 ·exact h.mono (by omega)
theorem MB.rem (h : MB k m) (r : Int) : MB (k + 1) (m.rem r).2.2 := by
 unfold MS.rem
 split
 ·rename_i he
  have ht : m.there r = true := by
   unfold MS.remE at he
   split at he
   ·rename_i hf; exact absurd he hf
   ·rename_i hf; exact (arrayE_zero.1 (by simpa using hf)).1
  exact h.put0 ht (by have := h.age r; show (m.at r).age ≤ _; omega)
 ·exact h.mono (by omega)
theorem MB.watch (h : MB k m) (r : Int) : MB (k + 1) (m.watch r).2 := by
 unfold MS.watch
 split
 ·exact h.mono (by omega)
 ·rename_i ht
  split
  ·exact h.mono (by omega)
  ·exact h.put0 (by simpa using ht) (by have := h.age r; show (m.at r).age ≤ _; omega)
theorem MB.ended (h : MB k m) : MB (k + 1) m.ended.2 := by
 have := h.mono (k' := k + 1) (by omega)
 exact ⟨this.len, by show (0 : Nat) ≤ _; omega, fun _ hx => (by cases hx), this.owed, this.age⟩
theorem told_len {ns : List Int} (hn : ns.Nodup) (h : ∀ x ∈ ns, m.there x = true) : (ns.filter fun n => (m.at n).watched).length ≤ m.objs.length := by
 refine Nat.le_trans (List.length_filter_le _ _) ?_
 have := nodup_le' ns m.nums hn fun x hx => mem_nums.2 (there_le (h x hx))
 rw [nums_upto, upto_len] at this
 exact this
theorem MB.minor (h : MB k m) (hk : k ≤ 1000) (roots : List Int) : MB (k + 1) (m.minor roots).2.2 := by
 unfold MS.minor
 split
 ·exact h.mono (by omega)
 ·have hlen : ((m.aged).frees (m.minorFree roots)).objs.length = m.objs.length := by rw [frees_len, aged_eq, mapO_len]
  have hft : ∀ x ∈ m.minorFree roots, m.there x = true := fun x hx => by
   have := (List.mem_filter.1 hx).2
   simp only [Bool.and_eq_true] at this
   exact this.1
  have hfn : (m.minorFree roots).Nodup := by
   unfold MS.minorFree
   rw [nums_upto]
   exact (upto_nodup _).filter _
  have how := h.owed
  refine ⟨by rw [hlen]; have := h.len; omega, ?_, fun x hx => ?_, ?_, age_all fun n h1 h2 => ?_⟩
  ·show (m.told ++ (m.minorFree roots).filter fun n => ((m.aged).at n).watched).length ≤ _
   have e : ((m.minorFree roots).filter fun n => ((m.aged).at n).watched) = (m.minorFree roots).filter fun n => (m.at n).watched := by
    apply List.filter_congr
    intro n hn
    have hb := there_le (hft n hn)
    rw [aged_eq, mapO_at hb.1 hb.2]
    split <;> rfl
   rw [e, List.length_append]
   have := told_len hfn hft
   have := h.told
   have := h.len
   omega
  ·rw [hlen]
   rcases List.mem_append.1 hx with hx | hx
   ·exact h.tin x hx
   ·exact there_le (hft x (List.mem_filter.1 hx).1)
  ·show _ ≤ m.owed ∧ m.owed ≤ _
   omega
  ·rw [hlen] at h2
   rw [frees_at h1 (by rw [aged_eq, mapO_len]; exact h2)]
   split
   ·exact Nat.zero_le _
   ·rw [aged_eq, mapO_at h1 h2]
    have := h.age n
    split
    ·show (m.at n).age + 1 ≤ _; omega
    ·omega
theorem MB.begin (h : MB k m) (hu : 0 ≤ m.used ∧ m.used ≤ 1000000) (roots : List Int) : MB (k + 1) (m.begin roots).2 := by
 unfold MS.begin
 dsimp only
 split
 ·exact h.mono (by omega)
 ·have := h.mono (k' := k + 1) (by omega)
  exact ⟨this.len, this.told, this.tin, by show _ ≤ m.used + 1 ∧ m.used + 1 ≤ _; omega, this.age⟩
theorem MB.stepped (h : MB k m) (hk : k ≤ 1000) {work : Int} (hw : 1 ≤ work ∧ work ≤ 100000) (hn : m.doomed.Nodup) (hd : ∀ n ∈ m.doomed, m.there n = true) (ended : Bool) : MB (k + 1) (m.stepped work ended).2 := by
 cases ended with
 | false =>
  have hm := h.mono (k' := k + 1) (by omega)
  have how := h.owed
  exact ⟨hm.len, hm.told, hm.tin, by show _ ≤ m.owed - work ∧ m.owed - work ≤ _; omega, hm.age⟩
 | true =>
  show MB (k + 1) m.ends
  have ho : m.ends.objs = ((m.frees m.endFree).mapO MO.old).objs := rfl
  have hlen : m.ends.objs.length = m.objs.length := by rw [ho, mapO_len, frees_len]
  have hfn : m.endFree.Nodup := hn.filter _
  have hft : ∀ x ∈ m.endFree, m.there x = true := fun x hx => hd x (List.mem_filter.1 hx).1
  have how := h.owed
  refine ⟨by rw [hlen]; have := h.len; omega, ?_, fun x hx => ?_, ?_, age_all fun n h1 h2 => ?_⟩
  ·show (m.told ++ (m.endFree).filter fun n => (m.at n).watched).length ≤ _
   rw [List.length_append]
   have := told_len hfn hft
   have := h.told
   have := h.len
   omega
  ·rw [hlen]
   rcases List.mem_append.1 hx with hx | hx
   ·exact h.tin x hx
   ·exact there_le (hft x (List.mem_filter.1 hx).1)
  ·show _ ≤ m.owed ∧ m.owed ≤ _
   omega
  ·rw [hlen] at h2
   rw [at_objs ho, mapO_at h1 (by rw [frees_len]; exact h2)]
   show 2 ≤ _
   omega
end
end Go.L17
namespace Go.L17
open Go Go.Eng Go.RowKit
open Go.Proofs hiding encI
set_option maxRecDepth 100000
set_option maxHeartbeats 4000000
structure Joint (base : Nat) (w : World) (Hb Rb : Nat) (β γ : Lay) (k : Nat) (m : MS) (c : Option Wh) : Prop where
 h : HAt base w Hb β m c
 r : RAt base w Rb γ m
 dis : ∀ b, β.has b → ¬ γ.has b
 mb : MB k m
 bw : base ≤ w.heap.size
structure Turn2 (β γ : Lay) (w : World) (β' γ' : Lay) (w' : World) : Prop where
 fr : Fr (fun b => β.has b ∨ γ.has b) w w'
 new : ∀ b, (β'.has b ∨ γ'.has b) → (β.has b ∨ γ.has b) ∨ w.heap.size ≤ b
theorem Turn2.of {β γ : Lay} {w w' : World} (hE : Ext w w') : Turn2 β γ w β γ w' := ⟨Fr.of hE, fun _ h => .inl h⟩
theorem Turn2.trans {β γ β' γ' β'' γ'' : Lay} {a b c : World} (h : Turn2 β γ a β' γ' b) (k : Turn2 β' γ' b β'' γ'' c) : Turn2 β γ a β'' γ'' c := by
 refine ⟨h.fr.trans k.fr fun x hx => h.new x hx, fun x hx => ?_⟩
 rcases k.new x hx with e | e
 ·exact h.new x e
 ·exact .inr (by have := h.fr.size; omega)
section
variable {base Hb Rb k : Nat} {β β' γ γ' : Lay} {m m' : MS} {c c' : Option Wh} {w w' w2 : World}
theorem Joint.ext (j : Joint base w Hb Rb β γ k m c) (hE : Ext w w') : Joint base w' Hb Rb β γ k m c := ⟨j.h.ext hE, j.r.ext hE, j.dis, j.mb, Nat.le_trans j.bw hE.size⟩
theorem Joint.mono {k' : Nat} (j : Joint base w Hb Rb β γ k m c) (hk : k ≤ k') : Joint base w Hb Rb β γ k' m c := ⟨j.h, j.r, j.dis, j.mb.mono hk, j.bw⟩
theorem Joint.mg (j : Joint base w Hb Rb β γ k m c) (hk : k ≤ 1000) : MG m := MG.of j.h (by have := j.mb.len; omega)
theorem Joint.both (j : Joint base w Hb Rb β γ k m c) (h' : HAt base w' Hb β' m' c') (hT : Turn β w β' w') {k' : Nat} (hmb : MB k' m')
  {γ' : Lay} (r' : RAt base w2 Rb γ' m') (hTr : Turn γ w' γ' w2) : Joint base w2 Hb Rb β' γ' k' m' c' ∧ Turn2 β γ w β' γ' w2 := by
 have z1 := hT.1.size
 have z2 := hTr.1.size
 have hdis : ∀ b, β'.has b → ¬ γ.has b := fun b hb hg => by
  rcases hT.2 b hb with e | e
  ·exact j.dis b e hg
  ·obtain ⟨r, hr⟩ := hg
   have := j.r.hi r b hr
   omega
 refine ⟨⟨h'.keep fun r b hb => hTr.1.block b (h'.hi r b hb) (hdis b ⟨r, hb⟩), r', fun b hb hg => ?_, hmb, by have := j.bw; omega⟩, ⟨(hT.1.mono fun x hx => .inl (.inl hx)).trans hTr.1 fun x hx => .inl (.inr hx), fun b hb => ?_⟩⟩
 ·rcases hTr.2 b hg with e | e
  ·exact hdis b hb e
  ·obtain ⟨r, hr⟩ := hb
   have := h'.hi r b hr
   omega
 ·rcases hb with hb | hb
  ·rcases hT.2 b hb with e | e
   ·exact .inl (.inl e)
   ·exact .inr e
  ·rcases hTr.2 b hb with e | e
   ·exact .inl (.inr e)
   ·exact .inr (by omega)
theorem Joint.mid (j : Joint base w Hb Rb β γ k m c) (hT : Turn β w β' w') : RAt base w' Rb γ m ∧ ∀ b, β'.has b → ¬ γ.has b := by
 refine ⟨j.r.keep fun r b hb => hT.1.block b (j.r.hi r b hb) fun hh => j.dis b hh ⟨r, hb⟩, fun b hb hg => ?_⟩
 rcases hT.2 b hb with e | e
 ·exact j.dis b e hg
 ·obtain ⟨r, hr⟩ := hg
  have := j.r.hi r b hr
  omega
theorem Turn2.ext (j : Joint base w Hb Rb β γ k m c) {w0 : World} (h0 : w0.heap.size ≤ base) (hE : Ext w0 w) (hT : Turn2 β γ w β' γ' w') : Ext w0 w' := hT.fr.ext hE fun b hb => by
 rcases hb with ⟨r, hr⟩ | ⟨r, hr⟩
 ·have := j.h.lo r b hr; omega
 ·have := j.r.lo r b hr; omega
theorem Turn2.stay (hT : Turn2 β γ w β' γ' w') {b : Nat} (hb : b < w.heap.size) (hn : ¬ β.has b ∧ ¬ γ.has b) : w'.heap[b]? = w.heap[b]? := hT.fr.block b hb fun h => by
 rcases h with h | h
 ·exact hn.1 h
 ·exact hn.2 h
theorem Turn2.apart (hT : Turn2 β γ w β' γ' w') {b : Nat} (hb : b < w.heap.size) (hn : ¬ β.has b ∧ ¬ γ.has b) : ¬ β'.has b ∧ ¬ γ'.has b := by
 refine ⟨fun h => ?_, fun h => ?_⟩
 ·rcases hT.new b (.inl h) with (e | e) | e
  ·exact hn.1 e
  ·exact hn.2 e
  ·omega
 ·rcases hT.new b (.inr h) with (e | e) | e
  ·exact hn.1 e
  ·exact hn.2 e
  ·omega
theorem Joint.newBlk (j : Joint base w Hb Rb β γ k m c) {b : Nat} (hb : w.heap.size ≤ b) : ¬ β.has b ∧ ¬ γ.has b :=
 ⟨fun ⟨r, hr⟩ => by have := j.h.hi r b hr; omega, fun ⟨r, hr⟩ => by have := j.r.hi r b hr; omega⟩
theorem Joint.oldBlk (j : Joint base w Hb Rb β γ k m c) {b : Nat} (hb : b < base) : ¬ β.has b ∧ ¬ γ.has b :=
 ⟨fun ⟨r, hr⟩ => by have := j.h.lo r b hr; omega, fun ⟨r, hr⟩ => by have := j.r.lo r b hr; omega⟩
theorem Joint.doomed (j : Joint base w Hb Rb β γ k m c) (hon : m.on = true) : m.doomed.Nodup ∧ ∀ n ∈ m.doomed, m.there n = true := by
 obtain ⟨M, ps, onv, ev, h1, h2, h3, h4, h5, h6⟩ := j.h.hd
 cases h5 with
 | off h => rw [hon] at h; cases h
 | on c q bm wm gv sv s roots h1 hI =>
  rw [hI.doomed]
  refine ⟨?_, fun n hn => ?_⟩
  ·rw [nums_upto]; exact (upto_nodup _).filter _
  ·have := (List.mem_filter.1 hn).2
   simp only [Bool.and_eq_true] at this
   exact hI.there n this.1
end
def aboutI (n : Int) (made : Nat) : Int := (IntKind.u64.wrap n) % ((made : Int) + 4) - 1
theorem u64_wrap_small {n : Int} (h : 0 ≤ n ∧ n < 18446744073709551616) : IntKind.u64.wrap n = n := by
 unfold IntKind.wrap
 simp only [IntKind.bits, IntKind.signed, Bool.false_and, Bool.false_eq_true, if_false]
 omega
theorem u64_range (n : Int) : 0 ≤ IntKind.u64.wrap n ∧ IntKind.u64.wrap n < 18446744073709551616 := by
 unfold IntKind.wrap
 simp only [IntKind.bits, IntKind.signed, Bool.false_and, Bool.false_eq_true, if_false]
 omega
@[simp] theorem cb60 : callB Tryz.prog 60 = true := by kernel_rfl
@[simp] theorem cb61 : callB Tryz.prog 61 = true := by kernel_rfl
@[simp] theorem cb18 : callB Tryz.prog 18 = true := by kernel_rfl
@[simp] theorem cb14 : callB Tryz.prog 14 = true := by kernel_rfl
@[simp] theorem cb16 : callB Tryz.prog 16 = true := by kernel_rfl
@[simp] theorem cb13 : callB Tryz.prog 13 = true := by kernel_rfl
@[simp] theorem cb11 : callB Tryz.prog 11 = true := by kernel_rfl
@[simp] theorem cb10 : callB Tryz.prog 10 = true := by kernel_rfl
@[simp] theorem cb78 : callB Tryz.prog 78 = true := by kernel_rfl
@[simp] theorem cb29 : callB Tryz.prog 29 = true := by kernel_rfl
@[simp] theorem cbr59 : callB Tryz.prog 59 = true := by kernel_rfl
theorem l_about (n : Int) (made : Nat) (hm : made ≤ 1000000) (w : World) : Calls Tryz.prog 60 #[.int .i64 n, .int .i64 made] w fun e w' => e = .returned (.int .i64 (aboutI n made)) ∧ w' = w := by
 have hr := u64_range n
 have h1 := Int.emod_nonneg (IntKind.u64.wrap n) (b := (made : Int) + 4) (by omega)
 have h2 := Int.emod_lt_of_pos (IntKind.u64.wrap n) (b := (made : Int) + 4) (by omega)
 have hw : IntKind.i64.wrap ((made : Int) + 4) = (made : Int) + 4 := i64w (by omega)
 have hu : IntKind.u64.wrap ((made : Int) + 4) = (made : Int) + 4 := u64_wrap_small (by omega)
 have hne : ¬ ((made : Int) + 4 = 0) := by omega
 have htm : (IntKind.u64.wrap n).tmod ((made : Int) + 4) = IntKind.u64.wrap n % ((made : Int) + 4) := Int.tmod_eq_emod_of_nonneg hr.1
 refine ir60_calls fun ρ r0 r1 => ?_
 simp [ir60, r0, r1, hw, hu, hne, htm, u64_wrap_small (n := IntKind.u64.wrap n % ((made : Int) + 4)) (by omega), i64w (n := IntKind.u64.wrap n % ((made : Int) + 4)) (by omega), i64w (n := IntKind.u64.wrap n % ((made : Int) + 4) - 1) (by omega), aboutI]
end Go.L17
namespace Go.L17
open Go Go.Eng Go.RowKit
open Go.Proofs hiding encI
set_option maxRecDepth 100000
set_option maxHeartbeats 4000000
theorem Sl.blocks {α : Type} {enc : α → Value} {w0 W : World} {v : Value} {xs : List α} (h : Sl enc w0 v xs) (hb : ∀ b, b < w0.heap.size → W.heap[b]? = w0.heap[b]?) : Sl enc W v xs := by
 refine ⟨h.is, h.len, h.bd, fun i hi => ?_⟩
 have hc := h.cell i hi
 unfold World.cell? at hc ⊢
 cases hw : w0.heap[(slAddr v i).block]? with
 | none => rw [hw] at hc; cases hc
 | some o =>
  have hlt := (Array.getElem?_eq_some_iff.1 hw).1
  rw [hb _ hlt, hw]
  rw [hw] at hc
  exact hc
theorem t_Equal {w : World} {a b : Value} {l r : List Int} (hl : Sl encI w a l) (hr : Sl encI w b r) : Calls Tryz.prog 29 #[a, b] w fun e w' => e = .returned (.bool (decide (l = r))) ∧ Ext w w' := by
 have hbd := hl.bd
 have hbr := hr.bd
 refine ir29_calls fun ρ r0 r1 => ?_
 by_cases hlen : l.length = r.length
 rotate_left
 ·have hne : ¬ l = r := fun e => hlen (by rw [e])
  have hI : ¬ (l.length : Int) = (r.length : Int) := by omega
  simp -implicitDefEqProofs [-wps_asg, -wps_eff, wa2, we2, ir29, r0, r1, hl.is, hl.len, hr.is, hr.len, hlen, hI, hne]
  exact ext_refl _
 have hI : (l.length : Int) = (r.length : Int) := by omega
 simp -implicitDefEqProofs [-wps_asg, -wps_eff, wa2, we2, ir29, r0, r1, hl.is, hl.len, hr.is, hr.len, hlen, hI, ir29_k5]
 refine loopC 13 r.length (fun k ρ' W => Ext w W ∧ ρ' 0 = a ∧ ρ' 1 = b ∧ ρ' 12 = .int .i64 r.length ∧ l.take k = r.take k) (by simp) ⟨ext_refl _, by simp [r0], by simp [r1], by simp, by simp⟩ ?_
 rintro k ρ' W hk h13 ⟨hE, s0, s1, s12, htk⟩
 have hlW := hl.ext hE
 have hrW := hr.ext hE
 by_cases hlt : k < r.length
 ·have hlt' : k < l.length := by omega
  have hcl := hlW.cell k hlt'
  have hcr := hrW.cell k hlt
  have hwk : IntKind.i64.wrap ((k : Int) + 1) = (k : Int) + 1 := i64w (by omega)
  by_cases he : l[k] = r[k]
  ·simp -implicitDefEqProofs [-qwps, qwps_eff, qwps_asg, qwps_nil, ir29_l3, h13, s12, hlt, hlt', ir29_k2, s0, s1, hlW.is, hlW.len, hrW.is, hrW.len, hcl, hcr, encI, he]
   intro w' hw'
   simp -implicitDefEqProofs [ir29_k0, ir29_k1, h13, hwk, s0, s1, s12]
   refine ⟨hE.trans' hw', ?_⟩
   rw [List.take_add_one, List.take_add_one, htk, List.getElem?_eq_getElem hlt', List.getElem?_eq_getElem hlt, he]
  ·have hne : ¬ l = r := fun e => he (by subst e; rfl)
   simp -implicitDefEqProofs [-qwps, qwps_eff, qwps_asg, qwps_nil, ir29_l3, h13, s12, hlt, hlt', ir29_k2, s0, s1, hlW.is, hlW.len, hrW.is, hrW.len, hcl, hcr, encI, he]
   intro w' hw'
   have hb : (l[k] != r[k]) = true := by simp [he]
   simp -implicitDefEqProofs [ir29_k0, hb, he, hne]
   exact hE.trans' hw'
 ·have hke : k = r.length := by omega
  subst hke
  rw [List.take_length] at htk
  have heq : l = r := by rw [← htk, ← hlen, List.take_length]
  simp -implicitDefEqProofs [-wps_asg, -wps_eff, wa2, we2, ir29_l3, h13, s12, ir29_k4, heq]
  exact hE
def valuesL (kinds : List Nat) (vals : List Int) (made : Nat) : List Int := vals.mapIdx fun i v => if kinds[i]? = some 2 then aboutI v made else v
theorem valuesL_len (kinds : List Nat) (vals : List Int) (made : Nat) : (valuesL kinds vals made).length = vals.length := by simp [valuesL]
theorem l_values {w : World} {kvv vvv : Value} {kinds : List Nat} {vals : List Int} (hk : Sl encU w kvv kinds) (hv : Sl encI w vvv vals) (hvl : vals.length ≤ 1000000) (made : Nat) (hm : made ≤ 1000000) :
  Calls Tryz.prog 61 #[kvv, vvv, .int .i64 made] w fun e w' => ∃ x, e = .returned x ∧ Own w.heap.size 3 1 w' x ((valuesL kinds vals made).map encI) ∧ Ext w w' := by
 obtain ⟨R, hR⟩ : ∃ R : Ending → World → Prop, R = fun e w' => ∃ x, e = .returned x ∧ Own w.heap.size 3 1 w' x ((valuesL kinds vals made).map encI) ∧ Ext w w' := ⟨_, rfl⟩
 rw [← hR]
 refine ir61_calls fun ρ r0 r1 r2 => ?_
 simp -implicitDefEqProofs [-wps_asg, -wps_eff, wa2, we2, ir61, r1]
 refine (t_Clone hv hvl).mono ?_
 rintro _ W1 ⟨x, rfl, hx, hE1⟩
 have hxs := hx.sl (enc := encI) (by omega)
 simp -implicitDefEqProofs [-wps_asg, -wps_eff, wa2, we2, hxs.is, hxs.len]
 obtain ⟨F, hF⟩ : ∃ F : Nat → List Int, F = fun k => (valuesL kinds vals made).take k ++ vals.drop k := ⟨_, rfl⟩
 have hFl : ∀ k, (F k).length = vals.length := fun k => by rw [hF]; simp [valuesL_len]; omega
 obtain ⟨I, hI⟩ : ∃ I : Nat → Env → World → Prop, ∀ k ρ' W, I k ρ' W ↔ (ρ' 0 = kvv ∧ ρ' 2 = .int .i64 made ∧ ρ' 7 = x ∧ ρ' 12 = .int .i64 vals.length ∧ Ext w W ∧ Own w.heap.size 3 1 W x ((F k).map encI)) := ⟨_, fun _ _ _ => Iff.rfl⟩
 refine loopC 13 vals.length I (by rfl) ((hI _ _ _).2 ⟨by simp [r0], by simp [r2], by simp, by rfl, hE1, by rw [hF]; simpa using hx⟩) ?_
 intro k ρ' W hk2 h13 hi
 obtain ⟨s0, s2, s7, s12, hE, hxW⟩ := (hI _ _ _).1 hi
 have hkW := hk.ext hE
 have hxW' := hxW.sl (enc := encI) (by rw [hFl]; omega)
 by_cases hlt : k < vals.length
 rotate_left
 ·have hke : k = vals.length := by omega
  subst hke
  simp -implicitDefEqProofs [-wps_asg, -wps_eff, wa2, we2, ir61_l2, h13, s12, ir61_k3, s7]
  rw [hR]
  refine ⟨x, rfl, ?_, hE⟩
  have : F vals.length = valuesL kinds vals made := by
   rw [hF]
   have h1 : (valuesL kinds vals made).take vals.length = valuesL kinds vals made := by rw [← valuesL_len kinds vals made, List.take_length]
   simp [h1]
  rw [this] at hxW; exact hxW
 have hlF : k < (F k).length := by rw [hFl]; exact hlt
 have hFk : (F k)[k] = vals[k] := by
  have : (F k)[k]? = vals[k]? := by
   rw [hF]
   dsimp only
   rw [List.getElem?_append_right (by rw [List.length_take]; omega)]
   have : ((valuesL kinds vals made).take k).length = k := by rw [List.length_take, valuesL_len]; omega
   rw [this, Nat.sub_self, List.getElem?_drop]; simp
  rw [List.getElem?_eq_getElem hlF, List.getElem?_eq_getElem hlt] at this
  exact Option.some.inj this
 have hvk : (valuesL kinds vals made)[k]'(by rw [valuesL_len]; exact hlt) = if kinds[k]? = some 2 then aboutI vals[k] made else vals[k] := by simp [valuesL]
 have hFs : F (k + 1) = (F k).set k (if kinds[k]? = some 2 then aboutI vals[k] made else vals[k]) := by
  apply List.ext_getElem?
  intro p
  by_cases e : p = k
  ·subst e
   rw [List.getElem?_set_self hlF, hF]
   dsimp only
   have h1 : p < ((valuesL kinds vals made).take (p + 1)).length := by rw [List.length_take, valuesL_len]; omega
   rw [List.getElem?_append_left h1, List.getElem?_take, if_pos (by omega), List.getElem?_eq_getElem (by rw [valuesL_len]; exact hlt), hvk]
  ·rw [List.getElem?_set_ne (by omega), hF]
   dsimp only
   have l1 : ((valuesL kinds vals made).take k).length = k := by rw [List.length_take, valuesL_len]; omega
   have l2 : ((valuesL kinds vals made).take (k + 1)).length = k + 1 := by rw [List.length_take, valuesL_len]; omega
   by_cases hp : p < k
   ·rw [List.getElem?_append_left (by omega), List.getElem?_append_left (by omega), List.getElem?_take, List.getElem?_take, if_pos (by omega), if_pos (by omega)]
   ·rw [List.getElem?_append_right (by omega), List.getElem?_append_right (by omega), l1, l2, List.getElem?_drop, List.getElem?_drop]
    congr 1; omega
 have hwk : IntKind.i64.wrap ((k : Int) + 1) = (k : Int) + 1 := i64w (by omega)
 have hcx := hxW'.cell k hlF
 rw [hFk] at hcx
 have hsl : slLen x = vals.length := by rw [hxW'.len, hFl]
 obtain ⟨Z, hZ⟩ : ∃ Z : Env → World → Prop, Z = fun ρ'' w'' => k < vals.length ∧ ρ'' 13 = .int .i64 ((k : Int) + 1) ∧ I (k + 1) ρ'' w'' := ⟨_, rfl⟩
 rw [← hZ]
 have hno : ¬ kinds[k]? = some 2 → ∀ ρ2 : Env, ρ2 0 = kvv → ρ2 2 = .int .i64 made → ρ2 7 = x → ρ2 12 = .int .i64 vals.length → ρ2 13 = .int .i64 k → ∀ Q : Ks, ir61_k0.wp ⟨Tryz.prog, 36, ir61_V, []⟩ Z Q ρ2 W := by
  intro hc ρ2 u0 u2 u7 u12 u13 Q
  simp -implicitDefEqProofs [-wps_asg, -wps_eff, wa2, we2, ir61_k0, u13, hwk]
  rw [hZ]
  refine ⟨hlt, by simp, (hI _ _ _).2 ⟨by simp [u0], by simp [u2], by simp [u7], by simp [u12], hE, ?_⟩⟩
  rw [hFs, if_neg hc, ← hFk, List.set_getElem_self]; exact hxW
 by_cases hkl : k < kinds.length
 ·have hck := hkW.cell k hkl
  have hklI : (k : Int) < (kinds.length : Int) := by omega
  have hgk : kinds[k]? = some kinds[k] := List.getElem?_eq_getElem hkl
  by_cases h2 : kinds[k] = 2
  ·have hck2 : W.cell? (slAddr kvv k) = some (.int .u8 2) := by rw [hck, h2]; rfl
   simp -implicitDefEqProofs [-wps_asg, -wps_eff, wa2, we2, ir61_l2, h13, s12, hlt, ir61_k1, s0, hkW.is, hkW.len, hkl, hklI, hck2, s7, hxW'.is, hsl, hcx, encI, s2]
   refine (l_about vals[k] made hm W).mono ?_
   rintro _ W2 ⟨rfl, rfl⟩
   simp -implicitDefEqProofs [-wps_asg, -wps_eff, wa2, we2, hxW'.is, hsl, hlt]
   refine eff_storeR (base := w.heap.size) (i := k) hxW (by rw [List.length_map]; exact hlF) (by simp) (by simp [Value.cells]) (by simp) sz3' fun g W3 hg3 hO3 hx3 => ?_
   simp at hx3
   have hE3 : Ext w W3 := hO3.ext hE (Own.blk hxW g hg3).1
   simp -implicitDefEqProofs [-wps_asg, -wps_eff, wa2, we2, ir61_k0, h13, hwk]
   rw [hZ]
   refine ⟨hlt, by simp, (hI _ _ _).2 ⟨by simp [s0], by simp [s2], by simp [s7], by simp [s12], hE3, ?_⟩⟩
   rw [hFs, if_pos (by rw [hgk, h2]), ← map_set_enc]; exact hx3
  ·have h2' : ¬ (kinds[k] : Int) = 2 := by omega
   simp -implicitDefEqProofs [-wps_asg, -wps_eff, wa2, we2, ir61_l2, h13, s12, hlt, ir61_k1, s0, hkW.is, hkW.len, hkl, hklI, hck, encU, h2']
   refine hno (by rw [hgk]; simpa using h2) _ ?_ ?_ ?_ ?_ ?_ _ <;> simp [s0, s2, s7, s12, h13]
 ·have hklI : ¬ (k : Int) < (kinds.length : Int) := by omega
  simp -implicitDefEqProofs [-wps_asg, -wps_eff, wa2, we2, ir61_l2, h13, s12, hlt, ir61_k1, s0, hkW.is, hkW.len, hkl, hklI]
  refine hno (by rw [List.getElem?_eq_none (by omega)]; simp) _ ?_ ?_ ?_ ?_ ?_ _ <;> simp [s0, s2, s7, s12, h13]
def refsL (l : List Int) (made : Nat) : List Int := l.map fun n => if aboutI n made > 0 then aboutI n made else 0
theorem l_refs {w : World} {v : Value} {l : List Int} (hl : Sl encI w v l) (hlen : l.length ≤ 1000000) (made : Nat) (hm : made ≤ 1000000) :
  Calls Tryz.prog 18 #[v, .int .i64 made] w fun e w' => ∃ x, e = .returned x ∧ Own w.heap.size 3 1 w' x ((refsL l made).map encI) ∧ Ext w w' := by
 obtain ⟨R, hR⟩ : ∃ R : Ending → World → Prop, R = fun e w' => ∃ x, e = .returned x ∧ Own w.heap.size 3 1 w' x ((refsL l made).map encI) ∧ Ext w w' := ⟨_, rfl⟩
 rw [← hR]
 refine ir18_calls fun ρ r0 r1 => ?_
 simp -implicitDefEqProofs [-wps_asg, -wps_eff, wa2, we2, ir18, r0, hl.is, hl.len]
 obtain ⟨I, hI⟩ : ∃ I : Nat → Env → World → Prop, ∀ k ρ' W, I k ρ' W ↔ (ρ' 1 = .int .i64 made ∧ ρ' 8 = v ∧ ρ' 9 = .int .i64 l.length ∧ Ext w W ∧ ∃ lv, ρ' 5 = lv ∧ Own w.heap.size 3 1 W lv ((refsL (l.take k) made).map encI)) := ⟨_, fun _ _ _ => Iff.rfl⟩
 refine loopC 10 l.length I (by rfl) ((hI _ _ _).2 ⟨by simp [r1], by simp, by rfl, ext_refl _, .slice none 0 0, by rfl, by simpa [refsL] using Own.nil _ _ _ _⟩) ?_
 intro k ρ' W hk2 h10 hi
 obtain ⟨s1, s8, s9, hE, lv, s5, hlv⟩ := (hI _ _ _).1 hi
 have hlW := hl.ext hE
 by_cases hlt : k < l.length
 rotate_left
 ·have hke : k = l.length := by omega
  subst hke
  rw [List.take_length] at hlv
  simp -implicitDefEqProofs [-wps_asg, -wps_eff, wa2, we2, ir18_l2, h10, s9, ir18_k3, s5]
  rw [hR]
  exact ⟨lv, rfl, hlv, hE⟩
 have hc := hlW.cell k hlt
 have hwk : IntKind.i64.wrap ((k : Int) + 1) = (k : Int) + 1 := i64w (by omega)
 have z := hE.size
 simp -implicitDefEqProofs [-wps_asg, -wps_eff, wa2, we2, ir18_l2, h10, s9, hlt, ir18_k1, s8, hlW.is, hlW.len, hc, encI, s1, s5]
 refine (l_about l[k] made hm W).mono ?_
 rintro _ W2 ⟨rfl, rfl⟩
 simp -implicitDefEqProofs [-wps_asg, -wps_eff, wa2, we2]
 refine eff_max (k := .i64) (a := 0) (b := aboutI l[k] made) (by simp) (by simp) ?_
 simp -implicitDefEqProofs [-wps_asg, -wps_eff, wa2, we2]
 refine eff_lit si35 (by decide) (by decide) (by simp [Value.cells]) fun Bx Wx hBx hEx hbx _ => ?_
 simp [Value.cells] at hbx
 simp -implicitDefEqProofs [-wps_asg, -wps_eff, wa2, we2]
 refine eff_push1 (B := Bx) (n := if aboutI l[k] made > 0 then aboutI l[k] made else 0) (hE.trans' hEx) (hlv.ext hEx) (by rw [refsL, List.length_map, List.length_take]; omega) (by simp) (by simp) (by simpa using hbx) (by omega) fun lv3 Wy hly hEy _ _ _ => ?_
 simp -implicitDefEqProofs [-wps_asg, -wps_eff, wa2, we2, ir18_k0, h10, hwk]
 refine (hI _ _ _).2 ⟨by simp [s1], by simp [s8], by simp [s9], hEy, lv3, by simp, ?_⟩
 have : refsL (l.take (k + 1)) made = refsL (l.take k) made ++ [if aboutI l[k] made > 0 then aboutI l[k] made else 0] := by
  unfold refsL
  rw [List.take_add_one, List.getElem?_eq_getElem hlt, List.map_append]; rfl
 rw [this]; exact hly
end Go.L17
namespace Go.L17
open Go Go.Eng Go.RowKit
open Go.Proofs hiding encI
set_option maxRecDepth 100000
set_option maxHeartbeats 4000000
@[simp] theorem cbr_62 : callB Tryz.prog 62 = true := by kernel_rfl
@[simp] theorem cbr_63 : callB Tryz.prog 63 = true := by kernel_rfl
@[simp] theorem cbr_64 : callB Tryz.prog 64 = true := by kernel_rfl
@[simp] theorem cbr_65 : callB Tryz.prog 65 = true := by kernel_rfl
@[simp] theorem cbr_66 : callB Tryz.prog 66 = true := by kernel_rfl
@[simp] theorem cbr_67 : callB Tryz.prog 67 = true := by kernel_rfl
@[simp] theorem cbr_68 : callB Tryz.prog 68 = true := by kernel_rfl
@[simp] theorem cbr_69 : callB Tryz.prog 69 = true := by kernel_rfl
@[simp] theorem cbr_70 : callB Tryz.prog 70 = true := by kernel_rfl
@[simp] theorem cbr_71 : callB Tryz.prog 71 = true := by kernel_rfl
@[simp] theorem cbr_72 : callB Tryz.prog 72 = true := by kernel_rfl
@[simp] theorem cbr_73 : callB Tryz.prog 73 = true := by kernel_rfl
@[simp] theorem cbr_74 : callB Tryz.prog 74 = true := by kernel_rfl
@[simp] theorem cbr_75 : callB Tryz.prog 75 = true := by kernel_rfl
@[simp] theorem cbr_76 : callB Tryz.prog 76 = true := by kernel_rfl
@[simp] theorem cbr_77 : callB Tryz.prog 77 = true := by kernel_rfl
@[simp] theorem cbr_123 : callB Tryz.prog 123 = true := by kernel_rfl
@[simp] theorem cbr_124 : callB Tryz.prog 124 = true := by kernel_rfl
@[simp] theorem cbr_44 : callB Tryz.prog 44 = true := by kernel_rfl
@[simp] theorem cbr_46 : callB Tryz.prog 46 = true := by kernel_rfl
@[simp] theorem cbr_47 : callB Tryz.prog 47 = true := by kernel_rfl
structure OpD where
 kind : Nat
 ref : Int
 a : Int
 b : Int
 kinds : List Nat
 vals : List Int
 roots : List Int
def OpD.val (o : OpD) (kv vv rv : Value) : Value := .agg #[.int .u8 o.kind, .int .i64 o.ref, .int .i64 o.a, .int .i64 o.b, kv, vv, rv]
def DG (base : Nat) (w : World) (Hb Rb : Nat) (β γ : Lay) (k : Nat) (m' : MS) : World → Prop := fun W => ∃ β' γ' c', Joint base W Hb Rb β' γ' (k + 1) m' c' ∧ Turn2 β γ w β' γ' W
section
variable {base Hb Rb k : Nat} {β γ : Lay} {m : MS} {c : Option Wh} {w : World}
theorem Joint.how (j : Joint base w Hb Rb β γ k m c) (hk : k ≤ 90) : -1000000000000 ≤ m.owed ∧ m.owed ≤ 1000000000000 := by have := j.mb.owed; omega
theorem Joint.htl (j : Joint base w Hb Rb β γ k m c) (hk : k ≤ 90) : m.told.length ≤ 90000 := by have := j.mb.told; omega
theorem Joint.hlen (j : Joint base w Hb Rb β γ k m c) (hk : k ≤ 90) : m.objs.length ≤ 90 := by have := j.mb.len; omega
theorem DG.same (j : Joint base w Hb Rb β γ k m c) {W : World} (hE : Ext w W) : DG base w Hb Rb β γ k m W := ⟨β, γ, c, (j.ext hE).mono (by omega), Turn2.of hE⟩
theorem DG.both (j : Joint base w Hb Rb β γ k m c) {m' : MS} {β' : Lay} {c' : Option Wh} {W1 W2 : World} (h' : HAt base W1 Hb β' m' c') (hT : Turn β w β' W1) (hmb : MB (k + 1) m') {γ' : Lay} (r' : RAt base W2 Rb γ' m') (hTr : Turn γ W1 γ' W2) : DG base w Hb Rb β γ k m' W2 :=
 ⟨β', γ', c', (j.both h' hT hmb r' hTr).1, (j.both h' hT hmb r' hTr).2⟩
variable {K : Env → World → Prop} {Q : Ks} {ρ : Env}
theorem d_rem (j : Joint base w Hb Rb β γ k m c) (hk : k ≤ 90) {ref : Int} (s7 : ρ 7 = ptr Hb) (s8 : ρ 8 = ptr Rb) (s10 : ρ 10 = .int .i64 ref) (s79 : ρ 79 = .int .u8 9) (s80 : ρ 80 = .bool false)
  (hret : ∀ ρ' W, ρ' 6 = .bool true → DG base w Hb Rb β γ k ((m.rem ref).2.2) W → Q.rt ρ' W) : ir14_k8.wp ⟨Tryz.prog, 465, ir14_V, []⟩ K Q ρ w := by
 simp -implicitDefEqProofs [-wps_asg, -wps_eff, wa2, we2, ir14_k8, ir14_k7, ir14_k6, s80, s79, s7, s10]
 refine (t_Remh j.h j.bw ref).mono ?_
 rintro _ W1 ⟨rfl, β', c', h', hT⟩
 have hr := j.mid hT
 have z1 := hT.1.size
 simp -implicitDefEqProofs [-wps_asg, -wps_eff, wa2, we2, s8, s10]
 refine (r_Remh hr.1 (j.mg (by omega)) (by have := j.bw; omega) ref).mono ?_
 rintro _ W2 ⟨rfl, γ', r', hTr⟩
 simp -implicitDefEqProofs [-wps_asg, -wps_eff, wa2, we2]
 exact hret _ _ (by simp) (DG.both j h' hT (j.mb.rem ref) r' hTr)
theorem d_watch (j : Joint base w Hb Rb β γ k m c) (hk : k ≤ 90) {ref : Int} (s7 : ρ 7 = ptr Hb) (s8 : ρ 8 = ptr Rb) {bo : Nat} {o : OpD} {kv vv rv : Value} (s4 : ρ 4 = ptr bo) (hbo : Blk w bo #[.int .u8 o.kind, .int .i64 o.ref, .int .i64 o.a, .int .i64 o.b, kv, vv, rv] 37) (hbn : ¬ β.has bo ∧ ¬ γ.has bo) (s10 : ρ 10 = .int .i64 ref) (ha : o.a.tmod 2 = 0) (s79 : ρ 79 = .int .u8 17) (s80 : ρ 80 = .bool false)
  (hret : ∀ ρ' W, ρ' 6 = .bool true → DG base w Hb Rb β γ k ((m.watch ref).2) W → Q.rt ρ' W) : ir14_k8.wp ⟨Tryz.prog, 465, ir14_V, []⟩ K Q ρ w := by
 have hc := hbo.cell
 rw [ptr] at s7 s8 s4
 simp -implicitDefEqProofs [-wps_asg, -wps_eff, wa2, we2, ir14_k8, ir14_k7, ir14_k6, s80, s79, s7, s10, s4, ptr, hc, ha]
 refine (t_Watch j.h ref).mono ?_
 rintro _ W1 ⟨rfl, β', c', h', hT⟩
 have hr := j.mid hT
 have z1 := hT.1.size
 simp -implicitDefEqProofs [-wps_asg, -wps_eff, wa2, we2, s8, s10, s4, ptr]
 refine (r_Watch hr.1 (j.mg (by omega)) ref).mono ?_
 rintro _ W2 ⟨rfl, γ', r', hTr⟩
 simp -implicitDefEqProofs [-wps_asg, -wps_eff, wa2, we2]
 exact hret _ _ (by simp) (DG.both j h' hT (j.mb.watch ref) r' hTr)
theorem u8_range (n : Int) : 0 ≤ IntKind.u8.wrap n ∧ IntKind.u8.wrap n < 256 := by
 unfold IntKind.wrap
 simp only [IntKind.bits, IntKind.signed, Bool.false_and, Bool.false_eq_true, if_false]
 omega
theorem d_array (j : Joint base w Hb Rb β γ k m c) (hk : k ≤ 90)  (s7 : ρ 7 = ptr Hb) (s8 : ρ 8 = ptr Rb) {bo : Nat} {o : OpD} {kv vv rv : Value} (s4 : ρ 4 = ptr bo) (hbo : Blk w bo #[.int .u8 o.kind, .int .i64 o.ref, .int .i64 o.a, .int .i64 o.b, kv, vv, rv] 37) (hbn : ¬ β.has bo ∧ ¬ γ.has bo) (s79 : ρ 79 = .int .u8 2) (s80 : ρ 80 = .bool false)
  (hret : ∀ ρ' W, ρ' 6 = .bool true → DG base w Hb Rb β γ k ((m.array (IntKind.u8.wrap o.a).toNat).2.2) W → Q.rt ρ' W) : ir14_k8.wp ⟨Tryz.prog, 465, ir14_V, []⟩ K Q ρ w := by
 have hc := hbo.cell
 obtain ⟨x, hx⟩ : ∃ x : Nat, IntKind.u8.wrap o.a = (x : Int) := ⟨(IntKind.u8.wrap o.a).toNat, by have := u8_range o.a; omega⟩
 rw [show (IntKind.u8.wrap o.a).toNat = x by omega] at hret
 simp -implicitDefEqProofs [-wps_asg, -wps_eff, wa2, we2, ir14_k8, ir14_k7, ir14_k6, s80, s79, s7, s4, ptr, hc, hx]
 refine (t_Array j.h j.bw (by have := j.hlen hk; omega) x).mono ?_
 rintro _ W1 ⟨rfl, β', h', hT⟩
 have hr := j.mid hT
 have z1 := hT.1.size
 have hc1 := (hT.1.blk hbo hbn.1).cell
 simp -implicitDefEqProofs [-wps_asg, -wps_eff, wa2, we2, s8, s4, ptr, hx, hc1]
 refine (r_Array hr.1 (j.mg (by omega)) (by have := j.bw; omega) (j.how hk) x).mono ?_
 rintro _ W2 ⟨rfl, γ', r', hTr⟩
 simp -implicitDefEqProofs [-wps_asg, -wps_eff, wa2, we2]
 exact hret _ _ (by simp) (DG.both j h' hT (j.mb.array _) r' hTr)
theorem d_get (j : Joint base w Hb Rb β γ k m c) (hk : k ≤ 90) {ref : Int} (s7 : ρ 7 = ptr Hb) (s8 : ρ 8 = ptr Rb) {bo : Nat} {o : OpD} {kv vv rv : Value} (s4 : ρ 4 = ptr bo) (hbo : Blk w bo #[.int .u8 o.kind, .int .i64 o.ref, .int .i64 o.a, .int .i64 o.b, kv, vv, rv] 37) (hbn : ¬ β.has bo ∧ ¬ γ.has bo) (s10 : ρ 10 = .int .i64 ref) (s79 : ρ 79 = .int .u8 3) (s80 : ρ 80 = .bool false)
  (hret : ∀ ρ' W, ρ' 6 = .bool true → DG base w Hb Rb β γ k (m) W → Q.rt ρ' W) : ir14_k8.wp ⟨Tryz.prog, 465, ir14_V, []⟩ K Q ρ w := by
 have hc := hbo.cell
 simp -implicitDefEqProofs [-wps_asg, -wps_eff, wa2, we2, ir14_k8, ir14_k7, ir14_k6, s80, s79, s7, s10, s4, ptr, hc]
 refine (t_Get j.h ref o.a).mono ?_
 rintro _ W1 ⟨rfl, hE1⟩
 have hc1 := (hbo.ext hE1).cell
 simp -implicitDefEqProofs [-wps_asg, -wps_eff, wa2, we2, s8, s10, s4, ptr, hc1]
 refine (r_Get (j.ext hE1).r (j.mg (by omega)) ref o.a).mono ?_
 rintro _ W2 ⟨rfl, hE2⟩
 simp -implicitDefEqProofs [-wps_asg, -wps_eff, wa2, we2, encU]
 exact hret _ _ (by simp) (DG.same j (hE1.trans' hE2))
theorem d_quad (j : Joint base w Hb Rb β γ k m c) (hk : k ≤ 90) {ref : Int} (s7 : ρ 7 = ptr Hb) (s8 : ρ 8 = ptr Rb) (s10 : ρ 10 = .int .i64 ref) (s79 : ρ 79 = .int .u8 6) (s80 : ρ 80 = .bool false)
  (hret : ∀ ρ' W, ρ' 6 = .bool true → DG base w Hb Rb β γ k (m) W → Q.rt ρ' W) : ir14_k8.wp ⟨Tryz.prog, 465, ir14_V, []⟩ K Q ρ w := by
 have hl : m.objs.length ≤ 100000000 := by have := j.hlen hk; omega
 simp -implicitDefEqProofs [-wps_asg, -wps_eff, wa2, we2, ir14_k8, ir14_k7, ir14_k6, s80, s79, s7, s10]
 refine (t_Tag j.h ref).mono ?_
 rintro _ _ ⟨rfl, rfl⟩
 simp -implicitDefEqProofs [-wps_asg, -wps_eff, wa2, we2, s8, s10]
 refine (r_Tag j.r hl ref).mono ?_
 rintro _ _ ⟨rfl, rfl⟩
 simp -implicitDefEqProofs [-wps_asg, -wps_eff, wa2, we2, s7, s10]
 refine (t_Kind j.h ref).mono ?_
 rintro _ _ ⟨rfl, rfl⟩
 simp -implicitDefEqProofs [-wps_asg, -wps_eff, wa2, we2, s8, s10]
 refine (r_Kind j.r hl ref).mono ?_
 rintro _ _ ⟨rfl, rfl⟩
 simp -implicitDefEqProofs [-wps_asg, -wps_eff, wa2, we2, s7, s10]
 refine (t_Size j.h ref).mono ?_
 rintro _ _ ⟨rfl, rfl⟩
 simp -implicitDefEqProofs [-wps_asg, -wps_eff, wa2, we2, s8, s10]
 refine (r_Size j.r (j.mg (by omega)) ref).mono ?_
 rintro _ _ ⟨rfl, rfl⟩
 simp -implicitDefEqProofs [-wps_asg, -wps_eff, wa2, we2, encU]
 exact hret _ _ (by simp) (DG.same j (ext_refl _))
theorem d_fetch (j : Joint base w Hb Rb β γ k m c) (hk : k ≤ 90) {ref : Int} (s7 : ρ 7 = ptr Hb) (s8 : ρ 8 = ptr Rb) {bo : Nat} {o : OpD} {kv vv rv : Value} (s4 : ρ 4 = ptr bo) (hbo : Blk w bo #[.int .u8 o.kind, .int .i64 o.ref, .int .i64 o.a, .int .i64 o.b, kv, vv, rv] 37) (hbn : ¬ β.has bo ∧ ¬ γ.has bo) (s10 : ρ 10 = .int .i64 ref) (s79 : ρ 79 = .int .u8 10) (s80 : ρ 80 = .bool false)
  (hret : ∀ ρ' W, ρ' 6 = .bool true → DG base w Hb Rb β γ k (m) W → Q.rt ρ' W) : ir14_k8.wp ⟨Tryz.prog, 465, ir14_V, []⟩ K Q ρ w := by
 have hc := hbo.cell
 simp -implicitDefEqProofs [-wps_asg, -wps_eff, wa2, we2, ir14_k8, ir14_k7, ir14_k6, s80, s79, s7, s10, s4, ptr, hc]
 refine (t_Fetch j.h ref o.a).mono ?_
 rintro _ _ ⟨rfl, rfl⟩
 simp -implicitDefEqProofs [-wps_asg, -wps_eff, wa2, we2, s8, s10, s4, ptr, hc]
 refine (r_Fetch j.r (j.mg (by omega)) ref o.a).mono ?_
 rintro _ W2 ⟨rfl, hE2⟩
 simp -implicitDefEqProofs [-wps_asg, -wps_eff, wa2, we2]
 exact hret _ _ (by simp) (DG.same j hE2)
theorem reached_len {roots : List Int} : (m.reached roots).1.length ≤ m.objs.length := by
 unfold MS.reached
 split
 ·simp
 ·refine Nat.le_trans (List.length_filter_le _ _) ?_
  rw [nums_upto, upto_len]; exact Nat.le_refl _
theorem refsL_len (l : List Int) (made : Nat) : (refsL l made).length = l.length := by simp [refsL]
theorem d_reached (j : Joint base w Hb Rb β γ k m c) (hk : k ≤ 90)  (s7 : ρ 7 = ptr Hb) (s8 : ρ 8 = ptr Rb) {bo : Nat} {o : OpD} {kv vv rv : Value} (s4 : ρ 4 = ptr bo) (hbo : Blk w bo #[.int .u8 o.kind, .int .i64 o.ref, .int .i64 o.a, .int .i64 o.b, kv, vv, rv] 37) (hbn : ¬ β.has bo ∧ ¬ γ.has bo) (hrl : o.roots.length ≤ 10) (hrs : Sl encI w rv o.roots) (s9 : ρ 9 = .int .i64 m.objs.length) (s79 : ρ 79 = .int .u8 12) (s80 : ρ 80 = .bool false)
  (hret : ∀ ρ' W, ρ' 6 = .bool true → DG base w Hb Rb β γ k (m) W → Q.rt ρ' W) : ir14_k8.wp ⟨Tryz.prog, 465, ir14_V, []⟩ K Q ρ w := by
 have hc := hbo.cell
 have hl := j.hlen hk
 simp -implicitDefEqProofs [-wps_asg, -wps_eff, wa2, we2, ir14_k8, ir14_k7, ir14_k6, s80, s79, s9, s4, ptr, hc]
 refine (l_refs hrs (by omega) m.objs.length (by omega)).mono ?_
 rintro _ W1 ⟨x, rfl, hx, hE1⟩
 have hxs := hx.sl (enc := encI) (by rw [refsL_len]; omega)
 have j1 := j.ext hE1
 simp -implicitDefEqProofs [-wps_asg, -wps_eff, wa2, we2, s7]
 refine (t_Reached j1.h hxs).mono ?_
 rintro _ W2 ⟨y, rfl, hy, hE2⟩
 have j2 := j1.ext hE2
 simp -implicitDefEqProofs [-wps_asg, -wps_eff, wa2, we2, s8]
 refine (r_Reached j2.r (j.mg (by omega)) (hxs.ext hE2)).mono ?_
 rintro _ W3 ⟨z, rfl, hz, hE3⟩
 simp -implicitDefEqProofs [-wps_asg, -wps_eff, wa2, we2]
 have hrl2 := reached_len (m := m) (roots := refsL o.roots m.objs.length)
 refine (t_Equal ((hy.sl (enc := encI) (by omega)).ext hE3) (hz.sl (enc := encI) (by omega))).mono ?_
 rintro _ W4 ⟨rfl, hE4⟩
 simp -implicitDefEqProofs [-wps_asg, -wps_eff, wa2, we2]
 exact hret _ _ (by simp) (DG.same j (((hE1.trans' hE2).trans' hE3).trans' hE4))
theorem DG.ext {m' : MS} {W W' : World} (h : DG base w Hb Rb β γ k m' W) (hE : Ext W W') : DG base w Hb Rb β γ k m' W' := by
 obtain ⟨β', γ', c', j', t'⟩ := h
 exact ⟨β', γ', c', j'.ext hE, t'.trans (Turn2.of hE)⟩
theorem DG.pre {m' : MS} {w1 W : World} (hE : Ext w w1) (h : DG base w1 Hb Rb β γ k m' W) : DG base w Hb Rb β γ k m' W := by
 obtain ⟨β', γ', c', j', t'⟩ := h
 exact ⟨β', γ', c', j', (Turn2.of hE).trans t'⟩
theorem ended_len : m.ended.1.length ≤ m.told.length := by
 show (m.nums.flatMap fun n => m.told.filter fun k => decide (k = n)).length ≤ _
 have hp := flat_perm m.told (l := m.nums) (by rw [nums_upto]; exact upto_nodup _)
 rw [hp.length_eq]
 exact List.length_filter_le _ _
theorem d_ended (j : Joint base w Hb Rb β γ k m c) (hk : k ≤ 90)  (s7 : ρ 7 = ptr Hb) (s8 : ρ 8 = ptr Rb) {bo : Nat} {o : OpD} {kv vv rv : Value} (s4 : ρ 4 = ptr bo) (hbo : Blk w bo #[.int .u8 o.kind, .int .i64 o.ref, .int .i64 o.a, .int .i64 o.b, kv, vv, rv] 37) (hbn : ¬ β.has bo ∧ ¬ γ.has bo) (ha : ¬ o.a.tmod 2 = 0) (s79 : ρ 79 = .int .u8 17) (s80 : ρ 80 = .bool false)
  (hret : ∀ ρ' W, ρ' 6 = .bool true → DG base w Hb Rb β γ k (m.ended.2) W → Q.rt ρ' W) : ir14_k8.wp ⟨Tryz.prog, 465, ir14_V, []⟩ K Q ρ w := by
 have hc := hbo.cell
 have hl := j.hlen hk
 have htl := j.htl hk
 have hel := ended_len (m := m)
 simp -implicitDefEqProofs [-wps_asg, -wps_eff, wa2, we2, ir14_k8, ir14_k7, ir14_k6, s80, s79, s7, s4, ptr, hc, ha, ir14_k5]
 refine (t_Ended j.h j.mb.tin (by omega)).mono ?_
 rintro _ W1 ⟨x, rfl, hx, h', hT, hxb⟩
 have hr := j.mid hT
 have z1 := hT.1.size
 simp -implicitDefEqProofs [-wps_asg, -wps_eff, wa2, we2, s8]
 refine (r_Ended hr.1 (by have := j.bw; omega) (by omega) (by omega)).mono ?_
 rintro _ W2 ⟨y, rfl, hy, γ', r', hTr, hyb⟩
 have hx2 : Own base 3 1 W2 x (m.ended.1.map encI) := Own.same' hx fun b hb => hTr.1.block b (Own.blk hx b hb).2 (j.dis b ⟨_, (hxb b hb).2⟩)
 simp -implicitDefEqProofs [-wps_asg, -wps_eff, wa2, we2]
 refine (t_Equal (hx2.sl (enc := encI) (by omega)) (hy.sl (enc := encI) (by omega))).mono ?_
 rintro _ W3 ⟨rfl, hE3⟩
 simp -implicitDefEqProofs [-wps_asg, -wps_eff, wa2, we2]
 exact hret _ _ (by simp) ((DG.both j h' hT j.mb.ended r' hTr).ext hE3)
theorem own_turn {w0 w1 W : World} {β' : Lay} {e sz : Nat} {x : Value} {xs : List Value} (hx : Own w0.heap.size e sz w1 x xs) (hlo : ∀ r b, β r = some b → b < w0.heap.size) (hT : Turn β w1 β' W) : Own w0.heap.size e sz W x xs ∧ ∀ b, x.ownBlock = some b → ¬ β'.has b :=
 ⟨Own.same' hx fun b hb => hT.1.block b (Own.blk hx b hb).2 fun ⟨r, hr⟩ => (by have := hlo r b hr; have := (Own.blk hx b hb).1; omega), fun b hb hh => by
  have h1 := Own.blk hx b hb
  rcases hT.2 b hh with ⟨r, hr⟩ | e
  ·have := hlo r b hr; omega
  ·omega⟩
end
end Go.L17
namespace Go.L17
open Go Go.Eng Go.RowKit
open Go.Proofs hiding encI
set_option maxRecDepth 100000
set_option maxHeartbeats 4000000
section
variable {base Hb Rb k : Nat} {β γ : Lay} {m : MS} {c : Option Wh} {w : World} {K : Env → World → Prop} {Q : Ks} {ρ : Env}
theorem d_make (j : Joint base w Hb Rb β γ k m c) (hk : k ≤ 90) {w0 : World} (s7 : ρ 7 = ptr Hb) (s8 : ρ 8 = ptr Rb) {bo : Nat} {o : OpD} {kv vv rv : Value} (s4 : ρ 4 = ptr bo) (hbo : Blk w bo #[.int .u8 o.kind, .int .i64 o.ref, .int .i64 o.a, .int .i64 o.b, kv, vv, rv] 37) (hbn : ¬ β.has bo ∧ ¬ γ.has bo) (h0 : w0.heap.size ≤ base) (hE0 : Ext w0 w) (hks : Sl encU w0 kv o.kinds) (hvs : Sl encI w0 vv o.vals) (hvl : o.vals.length ≤ 10) (s9 : ρ 9 = .int .i64 m.objs.length) (s80 : ρ 80 = .bool true)
  (hret : ∀ ρ' W, ρ' 6 = .bool true → DG base w Hb Rb β γ k ((m.make o.a o.kinds (valuesL o.kinds o.vals m.objs.length)).2.2) W → Q.rt ρ' W) : ir14_k8.wp ⟨Tryz.prog, 465, ir14_V, []⟩ K Q ρ w := by
 have hc := hbo.cell
 have hl := j.hlen hk
 obtain ⟨vs, hvsE⟩ : ∃ vs, vs = valuesL o.kinds o.vals m.objs.length := ⟨_, rfl⟩
 have hvsl : vs.length = o.vals.length := by rw [hvsE, valuesL_len]
 rw [← hvsE] at hret
 simp -implicitDefEqProofs [-wps_asg, -wps_eff, wa2, we2, ir14_k8, s80, s9, s4, ptr, hc]
 refine (l_values (hks.ext hE0) (hvs.ext hE0) (by omega) m.objs.length (by omega)).mono ?_
 rintro _ W1 ⟨x, rfl, hx, hE1⟩
 rw [← hvsE] at hx
 have hxs := hx.sl (enc := encI) (by omega)
 have j1 := j.ext hE1
 have hc1 := (hbo.ext hE1).cell
 simp -implicitDefEqProofs [-wps_asg, -wps_eff, wa2, we2, s7, s4, ptr, hc1]
 refine (t_Make j1.h j1.bw (by omega) ((hks.ext hE0).ext hE1) hxs).mono ?_
 rintro _ W2 ⟨rfl, β', h', hT⟩
 have hr := j1.mid hT
 have z0 := hE0.size
 have z1 := hE1.size
 have z2 := hT.1.size
 obtain ⟨hx2, hxb2⟩ := own_turn hx j.h.hi hT
 have hc2 := (hT.1.blk (hbo.ext hE1) hbn.1).cell
 simp -implicitDefEqProofs [-wps_asg, -wps_eff, wa2, we2, s8, s4, ptr, hc2]
 refine (r_Make hr.1 (j.mg (by omega)) (by have := j.bw; omega) (j.how hk) (kinds := o.kinds) (vals := vs) (fun W hW => ?_) (fun W hW => ?_)).mono ?_
 ·refine Sl.blocks hks fun b hb => ?_
  have := j.bw
  rw [hW b (by omega) (j.oldBlk (by omega)).2, hT.1.block b (by omega) (j.oldBlk (by omega)).1, hE1.block b (by omega), hE0.block b hb]
 ·refine (Own.same' hx2 fun b hb => hW b (Own.blk hx2 b hb).2 fun ⟨r, hr⟩ => ?_).sl (enc := encI) (by omega)
  have := j.r.hi r b hr
  have := (Own.blk hx2 b hb).1
  omega
 rintro _ W3 ⟨rfl, γ', r', hTr⟩
 simp -implicitDefEqProofs [-wps_asg, -wps_eff, wa2, we2]
 exact hret _ _ (by simp) (DG.pre hE1 (DG.both j1 h' hT (j.mb.make _ _ _) r' hTr))
theorem d_setT (j : Joint base w Hb Rb β γ k m c) (hk : k ≤ 90) {ref val : Int} (s7 : ρ 7 = ptr Hb) (s8 : ρ 8 = ptr Rb) {bo : Nat} {o : OpD} {kv vv rv : Value} (s4 : ρ 4 = ptr bo) (hbo : Blk w bo #[.int .u8 o.kind, .int .i64 o.ref, .int .i64 o.a, .int .i64 o.b, kv, vv, rv] 37) (hbn : ¬ β.has bo ∧ ¬ γ.has bo) (s10 : ρ 10 = .int .i64 ref) (s26 : ρ 26 = .int .i64 val) (hpn : ∀ (ρ1 ρ2 : Env) c w, Q.pn ρ1 c w → Q.pn ρ2 c w)
  (hret : ∀ ρ' W, ρ' 6 = .bool true → DG base w Hb Rb β γ k ((m.set ref o.a val).2) W → Q.rt ρ' W) : ir14_k1.wp ⟨Tryz.prog, 465, ir14_V, []⟩ K Q ρ w := by
 obtain ⟨S, hS⟩ : ∃ S : World → Prop, S = fun W => Blk W bo #[.int .u8 o.kind, .int .i64 o.ref, .int .i64 o.a, .int .i64 o.b, kv, vv, rv] 37 := ⟨_, rfl⟩
 have hc : ∀ W5, S W5 → ∀ i, W5.cell? ⟨bo, i, none⟩ = #[.int .u8 o.kind, .int .i64 o.ref, .int .i64 o.a, .int .i64 o.b, kv, vv, rv][i]? := fun W5 h5 => by rw [hS] at h5; exact h5.cell
 simp -implicitDefEqProofs [-wps_asg, -wps_eff, wa2, we2, ir14_k1]
 refine raw_ord ir14_o25_ok S (hpn := fun _ _ _ _ _ _ h => hpn _ _ _ _ h) fun W1 hE1 _ => ?_
 have hS1 : S W1 := by rw [hS]; exact hbo.ext hE1
 refine ⟨hS1, ?_⟩
 simp +contextual -implicitDefEqProofs [ir14_o25, s4, s7, s8, s10, s26, ptr, hc, hS1]
 have j1 := j.ext hE1
 refine (t_Set j1.h j1.bw ref o.a val).mono ?_
 rintro _ W2 ⟨rfl, β', c', h', hT⟩
 have hr := j1.mid hT
 have z1 := hT.1.size
 have hS2 : S W2 := by rw [hS]; exact hT.1.blk (hbo.ext hE1) hbn.1
 simp -implicitDefEqProofs [-wps_asg, -wps_eff, wa2, we2, hS2]
 refine (r_Set hr.1 (j.mg (by omega)) ref o.a val).mono ?_
 rintro _ W3 ⟨rfl, γ', r', hTr⟩
 simp -implicitDefEqProofs [-wps_asg, -wps_eff, wa2, we2, ir14_k0]
 exact hret _ _ (by simp) (DG.pre hE1 (DG.both j1 h' hT (j.mb.set _ _ _) r' hTr))
theorem d_storeT (j : Joint base w Hb Rb β γ k m c) (hk : k ≤ 90) {ref val : Int} (s7 : ρ 7 = ptr Hb) (s8 : ρ 8 = ptr Rb) {bo : Nat} {o : OpD} {kv vv rv : Value} (s4 : ρ 4 = ptr bo) (hbo : Blk w bo #[.int .u8 o.kind, .int .i64 o.ref, .int .i64 o.a, .int .i64 o.b, kv, vv, rv] 37) (hbn : ¬ β.has bo ∧ ¬ γ.has bo) (s10 : ρ 10 = .int .i64 ref) (s42 : ρ 42 = .int .i64 val) (hpn : ∀ (ρ1 ρ2 : Env) c w, Q.pn ρ1 c w → Q.pn ρ2 c w)
  (hret : ∀ ρ' W, ρ' 6 = .bool true → DG base w Hb Rb β γ k ((m.store ref o.a val).2) W → Q.rt ρ' W) : (.seq (.raw (rawReg ir14_body 42)) (ir14_k2) : IR).wp ⟨Tryz.prog, 465, ir14_V, []⟩ K Q ρ w := by
 obtain ⟨S, hS⟩ : ∃ S : World → Prop, S = fun W => Blk W bo #[.int .u8 o.kind, .int .i64 o.ref, .int .i64 o.a, .int .i64 o.b, kv, vv, rv] 37 := ⟨_, rfl⟩
 have hc : ∀ W5, S W5 → ∀ i, W5.cell? ⟨bo, i, none⟩ = #[.int .u8 o.kind, .int .i64 o.ref, .int .i64 o.a, .int .i64 o.b, kv, vv, rv][i]? := fun W5 h5 => by rw [hS] at h5; exact h5.cell
 simp -implicitDefEqProofs [-wps_asg, -wps_eff, wa2, we2]
 refine raw_ord ir14_o42_ok S (hpn := fun _ _ _ _ _ _ h => hpn _ _ _ _ h) fun W1 hE1 _ => ?_
 have hS1 : S W1 := by rw [hS]; exact hbo.ext hE1
 refine ⟨hS1, ?_⟩
 simp +contextual -implicitDefEqProofs [ir14_o42, s4, s7, s8, s10, s42, ptr, hc, hS1]
 have j1 := j.ext hE1
 refine (t_Store j1.h j1.bw ref o.a val).mono ?_
 rintro _ W2 ⟨rfl, β', c', h', hT⟩
 have hr := j1.mid hT
 have z1 := hT.1.size
 have hS2 : S W2 := by rw [hS]; exact hT.1.blk (hbo.ext hE1) hbn.1
 simp -implicitDefEqProofs [-wps_asg, -wps_eff, wa2, we2, hS2]
 refine (r_Store hr.1 (j.mg (by omega)) ref o.a val).mono ?_
 rintro _ W3 ⟨rfl, γ', r', hTr⟩
 simp -implicitDefEqProofs [-wps_asg, -wps_eff, wa2, we2, ir14_k2]
 exact hret _ _ (by simp) (DG.pre hE1 (DG.both j1 h' hT (j.mb.store _ _ _) r' hTr))
theorem d_addT (j : Joint base w Hb Rb β γ k m c) (hk : k ≤ 90) {ref val : Int} (s7 : ρ 7 = ptr Hb) (s8 : ρ 8 = ptr Rb) (s10 : ρ 10 = .int .i64 ref) (s42 : ρ 42 = .int .i64 val)
  (hret : ∀ ρ' W, ρ' 6 = .bool true → DG base w Hb Rb β γ k ((m.add ref val).2) W → Q.rt ρ' W) : ir14_k3.wp ⟨Tryz.prog, 465, ir14_V, []⟩ K Q ρ w := by
 simp -implicitDefEqProofs [-wps_asg, -wps_eff, wa2, we2, ir14_k3, s7, s10, s42]
 refine (t_Addh j.h j.bw ref val).mono ?_
 rintro _ W1 ⟨rfl, β', c', h', hT⟩
 have hr := j.mid hT
 have z1 := hT.1.size
 simp -implicitDefEqProofs [-wps_asg, -wps_eff, wa2, we2, s8, s10, s42]
 refine (r_Addh hr.1 (j.mg (by omega)) (by have := j.bw; omega) (j.how hk) ref val).mono ?_
 rintro _ W2 ⟨rfl, γ', r', hTr⟩
 simp -implicitDefEqProofs [-wps_asg, -wps_eff, wa2, we2]
 exact hret _ _ (by simp) (DG.both j h' hT (j.mb.add ref val) r' hTr)
def setVal (m : MS) (ref a b : Int) : Int := if (m.get ref a).2.2 = 0 ∧ (m.get ref a).1 = 2 then aboutI b m.objs.length else b
def stVal (m : MS) (ref b : Int) : Int := if (m.kind ref).2 = 0 ∧ (m.kind ref).1 = 2 then aboutI b m.objs.length else b
theorem d_setK (j : Joint base w Hb Rb β γ k m c) (hk : k ≤ 90) {ref : Int} (s7 : ρ 7 = ptr Hb) (s8 : ρ 8 = ptr Rb) {bo : Nat} {o : OpD} {kv vv rv : Value} (s4 : ρ 4 = ptr bo) (hbo : Blk w bo #[.int .u8 o.kind, .int .i64 o.ref, .int .i64 o.a, .int .i64 o.b, kv, vv, rv] 37) (hbn : ¬ β.has bo ∧ ¬ γ.has bo) (hpn : ∀ (ρ1 ρ2 : Env) c w, Q.pn ρ1 c w → Q.pn ρ2 c w) (s9 : ρ 9 = .int .i64 m.objs.length) (s10 : ρ 10 = .int .i64 ref) (s176 : ρ 176 = .bool true)
  (hret : ∀ ρ' W, ρ' 6 = .bool true → DG base w Hb Rb β γ k ((m.set ref o.a (setVal m ref o.a o.b)).2) W → Q.rt ρ' W) : ir14_k7.wp ⟨Tryz.prog, 465, ir14_V, []⟩ K Q ρ w := by
 have hc := hbo.cell
 have hl := j.hlen hk
 simp -implicitDefEqProofs [-wps_asg, -wps_eff, wa2, we2, ir14_k7, s176, s8, s10, s4, ptr, hc]
 refine (r_Get j.r (j.mg (by omega)) ref o.a).mono ?_
 rintro _ W1 ⟨rfl, hE1⟩
 have j1 := j.ext hE1
 have hb1 := hbo.ext hE1
 by_cases e1 : (m.get ref o.a).2.2 = 0
 ·by_cases e2 : (m.get ref o.a).1 = 2
  ·have hv : setVal m ref o.a o.b = aboutI o.b m.objs.length := by unfold setVal; rw [if_pos ⟨e1, e2⟩]
   simp -implicitDefEqProofs [-wps_asg, -wps_eff, wa2, we2, encU, e1, e2, s9]
   refine (l_about o.b m.objs.length (by omega) W1).mono ?_
   rintro _ _ ⟨rfl, rfl⟩
   simp -implicitDefEqProofs [-wps_asg, -wps_eff, wa2, we2]
   refine d_setT (ref := ref) (val := aboutI o.b m.objs.length) j1 hk (by simp [s7]) (by simp [s8]) (by simp [s4]) hb1 hbn (by simp [s10]) (by simp) hpn fun ρ' W h1 h2 => hret ρ' W h1 (DG.pre hE1 (by rw [hv]; exact h2))
  ·have hv : setVal m ref o.a o.b = o.b := by unfold setVal; rw [if_neg fun h => e2 h.2]
   have e2' : ¬ ((m.get ref o.a).1 : Int) = 2 := by omega
   simp -implicitDefEqProofs [-wps_asg, -wps_eff, wa2, we2, encU, e1, e2', s9]
   refine d_setT (ref := ref) (val := o.b) j1 hk (by simp [s7]) (by simp [s8]) (by simp [s4]) hb1 hbn (by simp [s10]) (by simp) hpn fun ρ' W h1 h2 => hret ρ' W h1 (DG.pre hE1 (by rw [hv]; exact h2))
 ·have hv : setVal m ref o.a o.b = o.b := by unfold setVal; rw [if_neg fun h => e1 h.1]
  simp -implicitDefEqProofs [-wps_asg, -wps_eff, wa2, we2, encU, e1, s9]
  refine d_setT (ref := ref) (val := o.b) j1 hk (by simp [s7]) (by simp [s8]) (by simp [s4]) hb1 hbn (by simp [s10]) (by simp) hpn fun ρ' W h1 h2 => hret ρ' W h1 (DG.pre hE1 (by rw [hv]; exact h2))
theorem d_set (j : Joint base w Hb Rb β γ k m c) (hk : k ≤ 90) {ref : Int} {x : Nat} (hx : x = 4 ∨ x = 5) (s7 : ρ 7 = ptr Hb) (s8 : ρ 8 = ptr Rb) {bo : Nat} {o : OpD} {kv vv rv : Value} (s4 : ρ 4 = ptr bo) (hbo : Blk w bo #[.int .u8 o.kind, .int .i64 o.ref, .int .i64 o.a, .int .i64 o.b, kv, vv, rv] 37) (hbn : ¬ β.has bo ∧ ¬ γ.has bo) (hpn : ∀ (ρ1 ρ2 : Env) c w, Q.pn ρ1 c w → Q.pn ρ2 c w) (s9 : ρ 9 = .int .i64 m.objs.length) (s10 : ρ 10 = .int .i64 ref) (s79 : ρ 79 = .int .u8 x) (s80 : ρ 80 = .bool false)
  (hret : ∀ ρ' W, ρ' 6 = .bool true → DG base w Hb Rb β γ k ((m.set ref o.a (setVal m ref o.a o.b)).2) W → Q.rt ρ' W) : ir14_k8.wp ⟨Tryz.prog, 465, ir14_V, []⟩ K Q ρ w := by
 rcases hx with rfl | rfl
 ·simp -implicitDefEqProofs [-wps_asg, -wps_eff, wa2, we2, ir14_k8, s80, s79]
  exact d_setK j hk (by simp [s7]) (by simp [s8]) (by simp [s4]) hbo hbn hpn (by simp [s9]) (by simp [s10]) (by simp) hret
 ·simp -implicitDefEqProofs [-wps_asg, -wps_eff, wa2, we2, ir14_k8, s80, s79]
  exact d_setK j hk (by simp [s7]) (by simp [s8]) (by simp [s4]) hbo hbn hpn (by simp [s9]) (by simp [s10]) (by simp) hret
theorem d_addK (j : Joint base w Hb Rb β γ k m c) (hk : k ≤ 90) {ref : Int} (s7 : ρ 7 = ptr Hb) (s8 : ρ 8 = ptr Rb) {bo : Nat} {o : OpD} {kv vv rv : Value} (s4 : ρ 4 = ptr bo) (hbo : Blk w bo #[.int .u8 o.kind, .int .i64 o.ref, .int .i64 o.a, .int .i64 o.b, kv, vv, rv] 37) (hbn : ¬ β.has bo ∧ ¬ γ.has bo) (hpn : ∀ (ρ1 ρ2 : Env) c w, Q.pn ρ1 c w → Q.pn ρ2 c w) (s9 : ρ 9 = .int .i64 m.objs.length) (s10 : ρ 10 = .int .i64 ref) (hok : ¬ (o.kind : Int).tmod 18 = 11) (s278 : ρ 278 = .bool true)
  (hret : ∀ ρ' W, ρ' 6 = .bool true → DG base w Hb Rb β γ k ((m.add ref (stVal m ref o.b)).2) W → Q.rt ρ' W) : ir14_k6.wp ⟨Tryz.prog, 465, ir14_V, []⟩ K Q ρ w := by
 have hc := hbo.cell
 have hl := j.hlen hk
 simp -implicitDefEqProofs [-wps_asg, -wps_eff, wa2, we2, ir14_k6, s278, s8, s10, s4, ptr, hc]
 refine (r_Kind j.r (by omega) ref).mono ?_
 rintro _ W1 ⟨rfl, rfl⟩
 have hE1 := ext_refl W1
 have j1 := j.ext hE1
 have hb1 := hbo.ext hE1
 by_cases e1 : (m.kind ref).2 = 0
 ·by_cases e2 : (m.kind ref).1 = 2
  ·have hv : stVal m ref o.b = aboutI o.b m.objs.length := by unfold stVal; rw [if_pos ⟨e1, e2⟩]
   simp -implicitDefEqProofs [-wps_asg, -wps_eff, wa2, we2, encU, e1, e2, s9, ir14_k4, s4, ptr, hc, hok]
   refine (l_about o.b m.objs.length (by omega) W1).mono ?_
   rintro _ _ ⟨rfl, rfl⟩
   simp -implicitDefEqProofs [-wps_asg, -wps_eff, wa2, we2, ir14_k4, s4, ptr, hc, hok]
   refine d_addT (ref := ref) (val := aboutI o.b m.objs.length) j1 hk (by simp [s7]) (by simp [s8]) (by simp [s10]) (by simp) fun ρ' W h1 h2 => hret ρ' W h1 (DG.pre hE1 (by rw [hv]; exact h2))
  ·have hv : stVal m ref o.b = o.b := by unfold stVal; rw [if_neg fun h => e2 h.2]
   have e2' : ¬ ((m.kind ref).1 : Int) = 2 := by omega
   simp -implicitDefEqProofs [-wps_asg, -wps_eff, wa2, we2, encU, e1, e2', s9, ir14_k4, s4, ptr, hc, hok]
   refine d_addT (ref := ref) (val := o.b) j1 hk (by simp [s7]) (by simp [s8]) (by simp [s10]) (by simp) fun ρ' W h1 h2 => hret ρ' W h1 (DG.pre hE1 (by rw [hv]; exact h2))
 ·have hv : stVal m ref o.b = o.b := by unfold stVal; rw [if_neg fun h => e1 h.1]
  simp -implicitDefEqProofs [-wps_asg, -wps_eff, wa2, we2, encU, e1, s9, ir14_k4, s4, ptr, hc, hok]
  refine d_addT (ref := ref) (val := o.b) j1 hk (by simp [s7]) (by simp [s8]) (by simp [s10]) (by simp) fun ρ' W h1 h2 => hret ρ' W h1 (DG.pre hE1 (by rw [hv]; exact h2))
theorem d_storeK (j : Joint base w Hb Rb β γ k m c) (hk : k ≤ 90) {ref : Int} (s7 : ρ 7 = ptr Hb) (s8 : ρ 8 = ptr Rb) {bo : Nat} {o : OpD} {kv vv rv : Value} (s4 : ρ 4 = ptr bo) (hbo : Blk w bo #[.int .u8 o.kind, .int .i64 o.ref, .int .i64 o.a, .int .i64 o.b, kv, vv, rv] 37) (hbn : ¬ β.has bo ∧ ¬ γ.has bo) (hpn : ∀ (ρ1 ρ2 : Env) c w, Q.pn ρ1 c w → Q.pn ρ2 c w) (s9 : ρ 9 = .int .i64 m.objs.length) (s10 : ρ 10 = .int .i64 ref) (hok : (o.kind : Int).tmod 18 = 11) (s278 : ρ 278 = .bool true)
  (hret : ∀ ρ' W, ρ' 6 = .bool true → DG base w Hb Rb β γ k ((m.store ref o.a (stVal m ref o.b)).2) W → Q.rt ρ' W) : ir14_k6.wp ⟨Tryz.prog, 465, ir14_V, []⟩ K Q ρ w := by
 have hc := hbo.cell
 have hl := j.hlen hk
 simp -implicitDefEqProofs [-wps_asg, -wps_eff, wa2, we2, ir14_k6, s278, s8, s10, s4, ptr, hc]
 refine (r_Kind j.r (by omega) ref).mono ?_
 rintro _ W1 ⟨rfl, rfl⟩
 have hE1 := ext_refl W1
 have j1 := j.ext hE1
 have hb1 := hbo.ext hE1
 by_cases e1 : (m.kind ref).2 = 0
 ·by_cases e2 : (m.kind ref).1 = 2
  ·have hv : stVal m ref o.b = aboutI o.b m.objs.length := by unfold stVal; rw [if_pos ⟨e1, e2⟩]
   simp -implicitDefEqProofs [-wps_asg, -wps_eff, wa2, we2, encU, e1, e2, s9, ir14_k4, s4, ptr, hc, hok]
   refine (l_about o.b m.objs.length (by omega) W1).mono ?_
   rintro _ _ ⟨rfl, rfl⟩
   simp -implicitDefEqProofs [-wps_asg, -wps_eff, wa2, we2, ir14_k4, s4, ptr, hc, hok]
   refine d_storeT (ref := ref) (val := aboutI o.b m.objs.length) j1 hk (by simp [s7]) (by simp [s8]) (by simp [s4]) hb1 hbn (by simp [s10]) (by simp) hpn fun ρ' W h1 h2 => hret ρ' W h1 (DG.pre hE1 (by rw [hv]; exact h2))
  ·have hv : stVal m ref o.b = o.b := by unfold stVal; rw [if_neg fun h => e2 h.2]
   have e2' : ¬ ((m.kind ref).1 : Int) = 2 := by omega
   simp -implicitDefEqProofs [-wps_asg, -wps_eff, wa2, we2, encU, e1, e2', s9, ir14_k4, s4, ptr, hc, hok]
   refine d_storeT (ref := ref) (val := o.b) j1 hk (by simp [s7]) (by simp [s8]) (by simp [s4]) hb1 hbn (by simp [s10]) (by simp) hpn fun ρ' W h1 h2 => hret ρ' W h1 (DG.pre hE1 (by rw [hv]; exact h2))
 ·have hv : stVal m ref o.b = o.b := by unfold stVal; rw [if_neg fun h => e1 h.1]
  simp -implicitDefEqProofs [-wps_asg, -wps_eff, wa2, we2, encU, e1, s9, ir14_k4, s4, ptr, hc, hok]
  refine d_storeT (ref := ref) (val := o.b) j1 hk (by simp [s7]) (by simp [s8]) (by simp [s4]) hb1 hbn (by simp [s10]) (by simp) hpn fun ρ' W h1 h2 => hret ρ' W h1 (DG.pre hE1 (by rw [hv]; exact h2))
theorem d_add (j : Joint base w Hb Rb β γ k m c) (hk : k ≤ 90) {ref : Int} {x : Nat} (hx : x = 7 ∨ x = 8) (s7 : ρ 7 = ptr Hb) (s8 : ρ 8 = ptr Rb) {bo : Nat} {o : OpD} {kv vv rv : Value} (s4 : ρ 4 = ptr bo) (hbo : Blk w bo #[.int .u8 o.kind, .int .i64 o.ref, .int .i64 o.a, .int .i64 o.b, kv, vv, rv] 37) (hbn : ¬ β.has bo ∧ ¬ γ.has bo) (hpn : ∀ (ρ1 ρ2 : Env) c w, Q.pn ρ1 c w → Q.pn ρ2 c w) (s9 : ρ 9 = .int .i64 m.objs.length) (s10 : ρ 10 = .int .i64 ref) (hok : ¬ (o.kind : Int).tmod 18 = 11) (s79 : ρ 79 = .int .u8 x) (s80 : ρ 80 = .bool false)
  (hret : ∀ ρ' W, ρ' 6 = .bool true → DG base w Hb Rb β γ k ((m.add ref (stVal m ref o.b)).2) W → Q.rt ρ' W) : ir14_k8.wp ⟨Tryz.prog, 465, ir14_V, []⟩ K Q ρ w := by
 rcases hx with rfl | rfl
 ·simp -implicitDefEqProofs [-wps_asg, -wps_eff, wa2, we2, ir14_k8, ir14_k7, s80, s79]
  exact d_addK j hk (by simp [s7]) (by simp [s8]) (by simp [s4]) hbo hbn hpn (by simp [s9]) (by simp [s10]) hok (by simp) hret
 ·simp -implicitDefEqProofs [-wps_asg, -wps_eff, wa2, we2, ir14_k8, ir14_k7, s80, s79]
  exact d_addK j hk (by simp [s7]) (by simp [s8]) (by simp [s4]) hbo hbn hpn (by simp [s9]) (by simp [s10]) hok (by simp) hret
theorem d_store (j : Joint base w Hb Rb β γ k m c) (hk : k ≤ 90) {ref : Int} (s7 : ρ 7 = ptr Hb) (s8 : ρ 8 = ptr Rb) {bo : Nat} {o : OpD} {kv vv rv : Value} (s4 : ρ 4 = ptr bo) (hbo : Blk w bo #[.int .u8 o.kind, .int .i64 o.ref, .int .i64 o.a, .int .i64 o.b, kv, vv, rv] 37) (hbn : ¬ β.has bo ∧ ¬ γ.has bo) (hpn : ∀ (ρ1 ρ2 : Env) c w, Q.pn ρ1 c w → Q.pn ρ2 c w) (s9 : ρ 9 = .int .i64 m.objs.length) (s10 : ρ 10 = .int .i64 ref) (hok : (o.kind : Int).tmod 18 = 11) (s79 : ρ 79 = .int .u8 11) (s80 : ρ 80 = .bool false)
  (hret : ∀ ρ' W, ρ' 6 = .bool true → DG base w Hb Rb β γ k ((m.store ref o.a (stVal m ref o.b)).2) W → Q.rt ρ' W) : ir14_k8.wp ⟨Tryz.prog, 465, ir14_V, []⟩ K Q ρ w := by
 simp -implicitDefEqProofs [-wps_asg, -wps_eff, wa2, we2, ir14_k8, ir14_k7, s80, s79]
 exact d_storeK j hk (by simp [s7]) (by simp [s8]) (by simp [s4]) hbo hbn hpn (by simp [s9]) (by simp [s10]) hok (by simp) hret
end
end Go.L17
namespace Go.L17
open Go Go.Eng Go.RowKit
open Go.Proofs hiding encI
set_option maxRecDepth 100000
set_option maxHeartbeats 4000000
section
variable {base Hb Rb k : Nat} {β γ : Lay} {m : MS} {c : Option Wh} {w : World} {K : Env → World → Prop} {Q : Ks} {ρ : Env}
def stepM (m : MS) (work : Int) (m' : MS) : Prop := (m.asked work ≠ 0 ∧ m' = m) ∨ (m.asked work = 0 ∧ ∃ done, m' = (m.stepped work done).2)
theorem l_step (j : Joint base w Hb Rb β γ k m c) (hk : k ≤ 90) (work : Int) : Calls Tryz.prog 78 #[.agg #[ptr Hb, ptr Rb], .int .i64 work] w fun e w' => e = .returned (.bool true) ∧ ∃ m', stepM m work m' ∧ DG base w Hb Rb β γ k m' w' := by
 obtain ⟨R, hR⟩ : ∃ R : Ending → World → Prop, R = fun e w' => e = .returned (.bool true) ∧ ∃ m', stepM m work m' ∧ DG base w Hb Rb β γ k m' w' := ⟨_, rfl⟩
 rw [← hR]
 refine ir78_calls fun ρ r0 r1 => ?_
 simp -implicitDefEqProofs [-wps_asg, -wps_eff, wa2, we2, ir78]
 refine eff_box fun B W1 hB hE1 hb1 hs1 => ?_
 rw [show evE ρ (.tmp 0) = ρ 0 from rfl, r0] at hb1
 have hbc : Blk W1 B #[ptr Hb, ptr Rb] 31 := hb1
 have hc1 := hbc.cell
 have j1 := j.ext hE1
 simp -implicitDefEqProofs [-wps_asg, -wps_eff, wa2, we2, hc1, r1]
 refine (r_Asked j1.r work).mono ?_
 rintro _ _ ⟨rfl, rfl⟩
 simp -implicitDefEqProofs [-wps_asg, -wps_eff, wa2, we2, hc1, r1]
 refine (t_Step j1.h j1.bw work (by have := j.htl hk; omega)).mono ?_
 rintro _ W2 (⟨ha, rfl, rfl⟩ | ⟨ha, done, rfl, hd, β', c', h', hT⟩)
 ·simp -implicitDefEqProofs [-wps_asg, -wps_eff, wa2, we2, ha, ir78_k0]
  rw [hR]
  exact ⟨rfl, m, .inl ⟨ha, rfl⟩, DG.same j hE1⟩
 ·have hr := j1.mid hT
  have z1 := hT.1.size
  have hlt := hbc.lt
  have hc2 := (hT.1.blk hbc (j.newBlk hB).1).cell
  have hon : m.on = true := by
   unfold MS.asked at ha
   split at ha
   ·omega
   ·split at ha
    ·assumption
    ·omega
  have hw : 1 ≤ work ∧ work ≤ 100000 := by
   unfold MS.asked at ha
   split at ha
   ·omega
   ·omega
  obtain ⟨hn, hdm⟩ := j.doomed hon
  simp -implicitDefEqProofs [-wps_asg, -wps_eff, wa2, we2, ha, ir78_k0, hc2, r1]
  refine (r_Stepped hr.1 (j.mg (by omega)) (by have := j1.bw; omega) (j.how hk) (by have := j.htl hk; omega) hn hdm hw done).mono ?_
  rintro _ W3 ⟨rfl, γ', r', hTr⟩
  simp -implicitDefEqProofs [-wps_asg, -wps_eff, wa2, we2, hd]
  rw [hR]
  exact ⟨rfl, _, .inr ⟨ha, done, rfl⟩, DG.pre hE1 (DG.both j1 h' hT (j.mb.stepped (by omega) hw hn hdm done) r' hTr)⟩
theorem d_minor (j : Joint base w Hb Rb β γ k m c) (hk : k ≤ 90)  (s7 : ρ 7 = ptr Hb) (s8 : ρ 8 = ptr Rb) {bo : Nat} {o : OpD} {kv vv rv : Value} (s4 : ρ 4 = ptr bo) (hbo : Blk w bo #[.int .u8 o.kind, .int .i64 o.ref, .int .i64 o.a, .int .i64 o.b, kv, vv, rv] 37) (hbn : ¬ β.has bo ∧ ¬ γ.has bo) (hrl : o.roots.length ≤ 10) (hrs : Sl encI w rv o.roots) (s9 : ρ 9 = .int .i64 m.objs.length) (hok : (o.kind : Int).tmod 18 = 13)
  (hret : ∀ ρ' W, ρ' 6 = .bool true → DG base w Hb Rb β γ k ((m.minor (refsL o.roots m.objs.length)).2.2) W → Q.rt ρ' W) : ir14_k10.wp ⟨Tryz.prog, 465, ir14_V, []⟩ K Q ρ w := by
 have hc := hbo.cell
 have hl := j.hlen hk
 simp -implicitDefEqProofs [-wps_asg, -wps_eff, wa2, we2, ir14_k10, hok, s9, s4, ptr, hc]
 refine (l_refs hrs (by omega) m.objs.length (by omega)).mono ?_
 rintro _ W1 ⟨x, rfl, hx, hE1⟩
 have hxs := hx.sl (enc := encI) (by rw [refsL_len]; omega)
 have hxl := refsL_len o.roots m.objs.length
 have j1 := j.ext hE1
 simp -implicitDefEqProofs [-wps_asg, -wps_eff, wa2, we2, s7]
 refine (t_Minor j1.h j1.bw hxs (by have := j.htl hk; omega)).mono ?_
 rintro _ W2 ⟨rfl, β', c', h', hT⟩
 have hr := j1.mid hT
 have z1 := hT.1.size
 obtain ⟨hx2, hxb2⟩ := own_turn hx j.h.hi hT
 have hxs2 := hx2.sl (enc := encI) (by omega)
 simp -implicitDefEqProofs [-wps_asg, -wps_eff, wa2, we2, s8]
 refine (r_Minor hr.1 (j.mg (by omega)) (by have := j1.bw; omega) (by have := j.htl hk; omega) (fun n _ => by have := j.mb.age n; omega) hxs2).mono ?_
 rintro _ W3 ⟨rfl, γ', r', hTr⟩
 simp -implicitDefEqProofs [-wps_asg, -wps_eff, wa2, we2]
 exact hret _ _ (by simp) (DG.pre hE1 (DG.both j1 h' hT (j.mb.minor (by omega) _) r' hTr))
theorem MG.used (hg : MG m) : 0 ≤ m.used ∧ m.used ≤ 1000000 := ⟨used_nonneg m, by have := hg.words; omega⟩
theorem d_begin (j : Joint base w Hb Rb β γ k m c) (hk : k ≤ 90)  (s7 : ρ 7 = ptr Hb) (s8 : ρ 8 = ptr Rb) {bo : Nat} {o : OpD} {kv vv rv : Value} (s4 : ρ 4 = ptr bo) (hbo : Blk w bo #[.int .u8 o.kind, .int .i64 o.ref, .int .i64 o.a, .int .i64 o.b, kv, vv, rv] 37) (hbn : ¬ β.has bo ∧ ¬ γ.has bo) (hrl : o.roots.length ≤ 10) (hrs : Sl encI w rv o.roots) (s9 : ρ 9 = .int .i64 m.objs.length) (hok : (o.kind : Int).tmod 18 = 14)
  (hret : ∀ ρ' W, ρ' 6 = .bool true → DG base w Hb Rb β γ k ((m.begin (refsL o.roots m.objs.length)).2) W → Q.rt ρ' W) : ir14_k10.wp ⟨Tryz.prog, 465, ir14_V, []⟩ K Q ρ w := by
 have hc := hbo.cell
 have hl := j.hlen hk
 simp -implicitDefEqProofs [-wps_asg, -wps_eff, wa2, we2, ir14_k10, hok, s9, s4, ptr, hc]
 refine (l_refs hrs (by omega) m.objs.length (by omega)).mono ?_
 rintro _ W1 ⟨x, rfl, hx, hE1⟩
 have hxs := hx.sl (enc := encI) (by rw [refsL_len]; omega)
 have hxl := refsL_len o.roots m.objs.length
 have j1 := j.ext hE1
 simp -implicitDefEqProofs [-wps_asg, -wps_eff, wa2, we2, s7]
 refine (t_Begin j1.h j1.bw hx (by omega) (fun b hb ⟨r, hr⟩ => by have := j.h.hi r b hr; have := (Own.blk hx b hb).1; omega)).mono ?_
 rintro _ W2 ⟨rfl, β', c', h', hT⟩
 have hr := j1.mid hT
 have z1 := hT.1.size
 obtain ⟨hx2, hxb2⟩ := own_turn hx j.h.hi hT
 have hxs2 := hx2.sl (enc := encI) (by omega)
 simp -implicitDefEqProofs [-wps_asg, -wps_eff, wa2, we2, s8]
 refine (r_Begin hr.1 (j.mg (by omega)) (by have := j1.bw; omega) hxs2).mono ?_
 rintro _ W3 ⟨rfl, γ', r', hTr⟩
 simp -implicitDefEqProofs [-wps_asg, -wps_eff, wa2, we2]
 exact hret _ _ (by simp) (DG.pre hE1 (DG.both j1 h' hT (j.mb.begin (MG.used (j.mg (by omega))) _) r' hTr))
theorem d_step (j : Joint base w Hb Rb β γ k m c) (hk : k ≤ 90) {bp : Nat} (s3 : ρ 3 = ptr bp) (hbp : Blk w bp #[ptr Hb, ptr Rb] 31) {bo : Nat} {o : OpD} {kv vv rv : Value} (s4 : ρ 4 = ptr bo) (hbo : Blk w bo #[.int .u8 o.kind, .int .i64 o.ref, .int .i64 o.a, .int .i64 o.b, kv, vv, rv] 37) (hbn : ¬ β.has bo ∧ ¬ γ.has bo) (hok : ¬ (o.kind : Int).tmod 18 = 13 ∧ ¬ (o.kind : Int).tmod 18 = 14)
  (hret : ∀ ρ' W m', ρ' 6 = .bool true → stepM m o.a m' → DG base w Hb Rb β γ k m' W → Q.rt ρ' W) : ir14_k10.wp ⟨Tryz.prog, 465, ir14_V, []⟩ K Q ρ w := by
 have hc := hbo.cell
 have hc3 := hbp.cell
 simp -implicitDefEqProofs [-wps_asg, -wps_eff, wa2, we2, ir14_k10, ir14_k9, hok, s4, s3, ptr, hc, hc3]
 refine (l_step j hk o.a).mono ?_
 rintro _ W1 ⟨rfl, m', h1, h2⟩
 simp -implicitDefEqProofs [-wps_asg, -wps_eff, wa2, we2]
 exact hret _ _ m' (by simp) h1 h2
end
end Go.L17
namespace Go.L17
open Go Go.Eng Go.RowKit
open Go.Proofs hiding encI
set_option maxRecDepth 100000
set_option maxHeartbeats 8000000
def opN (o : OpD) (m : MS) : MS :=
 let ref := aboutI o.ref m.objs.length
 let κ := o.kind % 18
 if κ = 0 ∨ κ = 1 then (m.make o.a o.kinds (valuesL o.kinds o.vals m.objs.length)).2.2
 else if κ = 2 then (m.array (IntKind.u8.wrap o.a).toNat).2.2
 else if κ = 4 ∨ κ = 5 then (m.set ref o.a (setVal m ref o.a o.b)).2
 else if κ = 7 ∨ κ = 8 then (m.add ref (stVal m ref o.b)).2
 else if κ = 11 then (m.store ref o.a (stVal m ref o.b)).2
 else if κ = 9 then (m.rem ref).2.2
 else if κ = 17 then (if o.a.tmod 2 = 0 then (m.watch ref).2 else m.ended.2)
 else m
structure OpAt (w : World) (o : OpD) (v : Value) : Prop where
 ex : ∃ kv vv rv, v = o.val kv vv rv ∧ Sl encU w kv o.kinds ∧ Sl encI w vv o.vals ∧ Sl encI w rv o.roots
 kd : o.kind < 256
def OpD.few (o : OpD) : Prop := o.kinds.length ≤ 10 ∧ o.vals.length ≤ 10 ∧ o.roots.length ≤ 10
section
variable {base Hb Rb k : Nat} {β γ : Lay} {m : MS} {c : Option Wh} {w w0 : World}
def DoesR (base : Nat) (w : World) (Hb Rb : Nat) (β γ : Lay) (k : Nat) (m : MS) (o : OpD) (collect : Bool) : Ending → World → Prop := fun e w' => e = .returned (.bool true) ∧ ∃ m', (collect = false → m' = opN o m) ∧ DG base w Hb Rb β γ k m' w'
theorem l_does (j : Joint base w Hb Rb β γ k m c) (hk : k ≤ 90) (h0 : w0.heap.size ≤ base) (hE0 : Ext w0 w) {o : OpD} {ov : Value} (ho : OpAt w0 o ov) (hf : o.few) (collect : Bool) :
  Calls Tryz.prog 14 #[.agg #[ptr Hb, ptr Rb], ov, .bool collect] w (DoesR base w Hb Rb β γ k m o collect) := by
 obtain ⟨R, hR⟩ : ∃ R, R = DoesR base w Hb Rb β γ k m o collect := ⟨_, rfl⟩
 rw [← hR]
 obtain ⟨kv, vv, rv, rfl, hks, hvs, hrs⟩ := ho.ex
 have hkd := ho.kd
 obtain ⟨hf1, hf2, hf3⟩ := hf
 have hl := j.hlen hk
 refine ir14_calls fun ρ r0 r1 r2 => ?_
 simp -implicitDefEqProofs [-wps_asg, -wps_eff, wa2, we2, ir14]
 refine eff_box fun bp W1 hB1 hE1 hb1 hs1 => ?_
 rw [show evE ρ (.tmp 0) = ρ 0 from rfl, r0] at hb1
 have hbp1 : Blk W1 bp #[ptr Hb, ptr Rb] 31 := hb1
 simp -implicitDefEqProofs [-wps_asg, -wps_eff, wa2, we2]
 refine eff_box fun bo W2 hB2 hE2 hb2 hs2 => ?_
 rw [show evE (upd ρ 3 (.pointer (some ⟨bp, 0, none⟩))) (.tmp 1) = ρ 1 from rfl, r1] at hb2
 have hbo2 : Blk W2 bo #[.int .u8 o.kind, .int .i64 o.ref, .int .i64 o.a, .int .i64 o.b, kv, vv, rv] 37 := hb2
 have hbp2 := hbp1.ext hE2
 have hc2 := hbp2.cell
 have z1 := hE1.size
 simp -implicitDefEqProofs [-qwps, qwps_eff, qwps_asg, qwps_nil, hc2]
 intro W3 hE3
 have hE := (hE1.trans' hE2).trans' hE3
 have j3 := j.ext hE
 have hbo := hbo2.ext hE3
 have hbp := hbp2.ext hE3
 have hc3 := hbo.cell
 have hbn := j.newBlk (b := bo) (by omega)
 have hbnp := j.newBlk (b := bp) (by omega)
 have hE03 := hE0.trans' hE
 obtain ⟨ov, dv, tv, kv', vv', hb, hobj, _⟩ := j3.r.hd
 have hr := RowO.of hobj
 obtain ⟨ref, href⟩ : ∃ ref, ref = aboutI o.ref m.objs.length := ⟨_, rfl⟩
 simp -implicitDefEqProofs [-wps_asg, -wps_eff, wa2, we2, ir14_k12, ptr, hb.cell, hr.is, hr.len, hc3]
 refine (l_about o.ref m.objs.length (by omega) W3).mono ?_
 rintro _ W4 ⟨rfl, hW4⟩
 obtain rfl := hW4.symm
 rw [← href]
 obtain ⟨κ, hκ⟩ : ∃ κ, κ = o.kind % 18 := ⟨_, rfl⟩
 have hkm : (o.kind : Int).tmod 18 = (κ : Int) := by rw [hκ, Int.tmod_eq_emod_of_nonneg (by omega)]; omega
 have hret : ∀ (ρ' : Env) (W : World) (m' : MS), (collect = false → m' = opN o m) → ρ' 6 = .bool true → DG base W3 Hb Rb β γ k m' W → retK [.tmp 6] R ρ' W := by
  intro ρ' W m' h1 h6 h2
  simp [retK, h6, resVals, RV.val, tupled]
  rw [hR]
  exact ⟨rfl, m', h1, DG.pre hE h2⟩
 have hc18 : κ < 18 := by omega
 have hcs : κ = 0 ∨ κ = 1 ∨ κ = 2 ∨ κ = 3 ∨ κ = 4 ∨ κ = 5 ∨ κ = 6 ∨ κ = 7 ∨ κ = 8 ∨ κ = 9 ∨ κ = 10 ∨ κ = 11 ∨ κ = 12 ∨ κ = 17 ∨ κ = 13 ∨ κ = 14 ∨ κ = 15 ∨ κ = 16 := by omega
 have hop : ∀ m', (opN o m = m') → (collect = false → m' = opN o m) := fun m' h _ => h.symm
 rcases hcs with rfl | rfl | rfl | rfl | rfl | rfl | rfl | rfl | rfl | rfl | rfl | rfl | rfl | rfl | hcoll
 ·simp -implicitDefEqProofs [-wps_asg, -wps_eff, wa2, we2, hc3, hkm]
  refine d_make j3 hk (w0 := w0) (by simp [ptr]) (by simp [ptr]) (by simp [ptr]) hbo hbn h0 hE03 hks hvs hf2 (by simp) (by simp) fun ρ' W h1 h2 => hret ρ' W ((m.make o.a o.kinds (valuesL o.kinds o.vals m.objs.length)).2.2) (fun _ => ?_) h1 h2
  unfold opN; simp [← hκ, ← href]
 ·simp -implicitDefEqProofs [-wps_asg, -wps_eff, wa2, we2, hc3, hkm]
  refine d_make j3 hk (w0 := w0) (by simp [ptr]) (by simp [ptr]) (by simp [ptr]) hbo hbn h0 hE03 hks hvs hf2 (by simp) (by simp) fun ρ' W h1 h2 => hret ρ' W ((m.make o.a o.kinds (valuesL o.kinds o.vals m.objs.length)).2.2) (fun _ => ?_) h1 h2
  unfold opN; simp [← hκ, ← href]
 ·simp -implicitDefEqProofs [-wps_asg, -wps_eff, wa2, we2, hc3, hkm]
  refine d_array j3 hk (by simp [ptr]) (by simp [ptr]) (by simp [ptr]) hbo hbn (by simp) (by simp) fun ρ' W h1 h2 => hret ρ' W ((m.array (IntKind.u8.wrap o.a).toNat).2.2) (fun _ => ?_) h1 h2
  unfold opN; simp [← hκ, ← href]
 ·simp -implicitDefEqProofs [-wps_asg, -wps_eff, wa2, we2, hc3, hkm]
  refine d_get j3 hk (ref := ref) (by simp [ptr]) (by simp [ptr]) (by simp [ptr]) hbo hbn (by simp) (by simp) (by simp) fun ρ' W h1 h2 => hret ρ' W (m) (fun _ => ?_) h1 h2
  unfold opN; simp [← hκ, ← href]
 ·simp -implicitDefEqProofs [-wps_asg, -wps_eff, wa2, we2, hc3, hkm]
  refine d_set j3 hk (ref := ref) (x := 4) (by simp) (by simp [ptr]) (by simp [ptr]) (by simp [ptr]) hbo hbn (fun _ _ _ _ h => h) (by simp) (by simp) (by simp) (by simp) fun ρ' W h1 h2 => hret ρ' W ((m.set ref o.a (setVal m ref o.a o.b)).2) (fun _ => ?_) h1 h2
  unfold opN; simp [← hκ, ← href]
 ·simp -implicitDefEqProofs [-wps_asg, -wps_eff, wa2, we2, hc3, hkm]
  refine d_set j3 hk (ref := ref) (x := 5) (by simp) (by simp [ptr]) (by simp [ptr]) (by simp [ptr]) hbo hbn (fun _ _ _ _ h => h) (by simp) (by simp) (by simp) (by simp) fun ρ' W h1 h2 => hret ρ' W ((m.set ref o.a (setVal m ref o.a o.b)).2) (fun _ => ?_) h1 h2
  unfold opN; simp [← hκ, ← href]
 ·simp -implicitDefEqProofs [-wps_asg, -wps_eff, wa2, we2, hc3, hkm]
  refine d_quad j3 hk (ref := ref) (by simp [ptr]) (by simp [ptr]) (by simp) (by simp) (by simp) fun ρ' W h1 h2 => hret ρ' W (m) (fun _ => ?_) h1 h2
  unfold opN; simp [← hκ, ← href]
 ·simp -implicitDefEqProofs [-wps_asg, -wps_eff, wa2, we2, hc3, hkm]
  refine d_add j3 hk (ref := ref) (x := 7) (by simp) (by simp [ptr]) (by simp [ptr]) (by simp [ptr]) hbo hbn (fun _ _ _ _ h => h) (by simp) (by simp) (by simp [hkm]) (by simp) (by simp) fun ρ' W h1 h2 => hret ρ' W ((m.add ref (stVal m ref o.b)).2) (fun _ => ?_) h1 h2
  unfold opN; simp [← hκ, ← href]
 ·simp -implicitDefEqProofs [-wps_asg, -wps_eff, wa2, we2, hc3, hkm]
  refine d_add j3 hk (ref := ref) (x := 8) (by simp) (by simp [ptr]) (by simp [ptr]) (by simp [ptr]) hbo hbn (fun _ _ _ _ h => h) (by simp) (by simp) (by simp [hkm]) (by simp) (by simp) fun ρ' W h1 h2 => hret ρ' W ((m.add ref (stVal m ref o.b)).2) (fun _ => ?_) h1 h2
  unfold opN; simp [← hκ, ← href]
 ·simp -implicitDefEqProofs [-wps_asg, -wps_eff, wa2, we2, hc3, hkm]
  refine d_rem j3 hk (ref := ref) (by simp [ptr]) (by simp [ptr]) (by simp) (by simp) (by simp) fun ρ' W h1 h2 => hret ρ' W ((m.rem ref).2.2) (fun _ => ?_) h1 h2
  unfold opN; simp [← hκ, ← href]
 ·simp -implicitDefEqProofs [-wps_asg, -wps_eff, wa2, we2, hc3, hkm]
  refine d_fetch j3 hk (ref := ref) (by simp [ptr]) (by simp [ptr]) (by simp [ptr]) hbo hbn (by simp) (by simp) (by simp) fun ρ' W h1 h2 => hret ρ' W (m) (fun _ => ?_) h1 h2
  unfold opN; simp [← hκ, ← href]
 ·simp -implicitDefEqProofs [-wps_asg, -wps_eff, wa2, we2, hc3, hkm]
  refine d_store j3 hk (ref := ref) (by simp [ptr]) (by simp [ptr]) (by simp [ptr]) hbo hbn (fun _ _ _ _ h => h) (by simp) (by simp) (by simp [hkm]) (by simp) (by simp) fun ρ' W h1 h2 => hret ρ' W ((m.store ref o.a (stVal m ref o.b)).2) (fun _ => ?_) h1 h2
  unfold opN; simp [← hκ, ← href]
 ·simp -implicitDefEqProofs [-wps_asg, -wps_eff, wa2, we2, hc3, hkm]
  refine d_reached j3 hk (by simp [ptr]) (by simp [ptr]) (by simp [ptr]) hbo hbn hf3 (hrs.ext hE03) (by simp) (by simp) (by simp) fun ρ' W h1 h2 => hret ρ' W (m) (fun _ => ?_) h1 h2
  unfold opN; simp [← hκ, ← href]
 ·simp -implicitDefEqProofs [-wps_asg, -wps_eff, wa2, we2, hc3, hkm]
  by_cases ha : o.a.tmod 2 = 0
  ·refine d_watch j3 hk (ref := ref) (by simp [ptr]) (by simp [ptr]) (by simp [ptr]) hbo hbn (by simp) ha (by simp) (by simp) fun ρ' W h1 h2 => hret ρ' W (m.watch ref).2 (fun _ => ?_) h1 h2
   unfold opN; simp [← hκ, ← href, ha]
  ·refine d_ended j3 hk (by simp [ptr]) (by simp [ptr]) (by simp [ptr]) hbo hbn ha (by simp) (by simp) fun ρ' W h1 h2 => hret ρ' W m.ended.2 (fun _ => ?_) h1 h2
   unfold opN; simp [← hκ, ← href, ha]
 ·have hoN : opN o m = m := by
   unfold opN; dsimp only; rw [← hκ]
   rcases hcoll with rfl | rfl | rfl | rfl <;> simp
  have hne : ∀ x : Nat, x ∈ [0, 1, 2, 3, 4, 5, 6, 7, 8, 9, 10, 11, 12, 17] → ¬ (κ : Int) = (x : Int) := fun x hx => by simp at hx; omega
  have n0 := hne 0 (by simp)
  have n1 := hne 1 (by simp)
  have n2 := hne 2 (by simp)
  have n3 := hne 3 (by simp)
  have n4 := hne 4 (by simp)
  have n5 := hne 5 (by simp)
  have n6 := hne 6 (by simp)
  have n7 := hne 7 (by simp)
  have n8 := hne 8 (by simp)
  have n9 := hne 9 (by simp)
  have n10 := hne 10 (by simp)
  have n11 := hne 11 (by simp)
  have n12 := hne 12 (by simp)
  have n17 := hne 17 (by simp)
  simp only [Int.cast_ofNat_Int] at n0 n1 n2 n3 n4 n5 n6 n7 n8 n9 n10 n11 n12 n17
  have m0 : ¬ κ = 0 := by omega
  have m1 : ¬ κ = 1 := by omega
  simp -implicitDefEqProofs [-wps_asg, -wps_eff, wa2, we2, hc3, hkm, ir14_k8, ir14_k7, ir14_k6, m0, m1, n1, n2, n3, n4, n5, n6, n7, n8, n9, n10, n11, n12, n17, ir14_k11, r2]
  by_cases hcol : collect = true
  ·rw [if_pos hcol]
   have hcf : ∀ m', collect = false → m' = opN o m := fun m' h => (by rw [h] at hcol; cases hcol)
   rcases hcoll with rfl | rfl | rfl | rfl
   ·exact d_minor j3 hk (by simp [ptr]) (by simp [ptr]) (by simp [ptr]) hbo hbn hf3 (hrs.ext hE03) (by simp) hkm fun ρ' W h1 h2 => hret ρ' W _ (hcf _) h1 h2
   ·exact d_begin j3 hk (by simp [ptr]) (by simp [ptr]) (by simp [ptr]) hbo hbn hf3 (hrs.ext hE03) (by simp) hkm fun ρ' W h1 h2 => hret ρ' W _ (hcf _) h1 h2
   ·exact d_step j3 hk (by simp [ptr]) hbp (by simp [ptr]) hbo hbn (by rw [hkm]; omega) fun ρ' W m' h1 _ h2 => hret ρ' W _ (hcf _) h1 h2
   ·exact d_step j3 hk (by simp [ptr]) hbp (by simp [ptr]) hbo hbn (by rw [hkm]; omega) fun ρ' W m' h1 _ h2 => hret ρ' W _ (hcf _) h1 h2
  ·rw [if_neg hcol, hR]
   show DoesR base w Hb Rb β γ k m o collect _ _
   exact ⟨rfl, m, fun _ => hoN.symm, DG.same j hE⟩
end
end Go.L17
namespace Go.L17
open Go Go.Eng Go.RowKit
open Go.Proofs hiding encI
set_option maxRecDepth 100000
set_option maxHeartbeats 4000000
theorem retK_c2 {t n s B : Nat} {ρ : Env} {w : World} {cs : Array Value} {T : TypeId} {R : Ending → World → Prop} (hp : ρ t = .pointer (some ⟨B, 0, none⟩)) (hb : Blk w B cs T) (hn : cs.size = n) (h : R (.returned (.tuple #[.agg cs, ρ s])) w) : retK [.cellN t n, .tmp s] R ρ w := by
 subst hn
 simp only [retK, resVals, RV.val, hp, pv1_loadN, row_blk hb, Option.map_some, Option.bind_some]
 exact h
def newLayR (Rb : Nat) : Lay | .heap => some Rb | _ => none
theorem bu43 (n : Int) : Tryz.prog.built 43 [(0, .int .i64 n)] = some #[.int .i64 n, .slice none 0 0, .bool false, .slice none 0 0, .int .i64 0, .slice none 0 0] := by kernel_rfl
theorem bu31 (a b : Nat) : Tryz.prog.built 31 [(0, ptr a), (1, ptr b)] = some #[ptr a, ptr b] := by kernel_rfl
theorem z31 : zeroCellsOf Tryz.prog 31 = some #[.pointer none, .pointer none] := by kernel_rfl
theorem sz31 : sizeIs Tryz.prog 31 2 = true := by kernel_rfl
theorem r_New {w : World} {base : Nat} (hbs : base ≤ w.heap.size) (words : Int) (hin : 64 ≤ words ∧ words ≤ 1000000) : Calls Tryz.prog 59 #[.int .i64 words] w fun e w' => ∃ Rb, e = .returned (.tuple #[ptr Rb, .int .i64 0]) ∧ RAt base w' Rb (newLayR Rb) (newMS words) ∧ Ext w w' ∧ w.heap.size ≤ Rb := by
 refine ir59_calls fun ρ r0 => ?_
 have h1 : ¬ words < 64 := by omega
 have h2 : ¬ 1000000 < words := by omega
 simp [ir59, r0, h1, h2, ir59_k0, bu43]
 refine eff_box fun Rb W hRb hE hb hs => ?_
 simp [Value.cells] at hb
 simp
 refine ⟨Rb, rfl, ⟨?_, ?_, ?_, rfl, ⟨.slice none 0 0, .slice none 0 0, .slice none 0 0, fun _ => .slice none 0 0, fun _ => .slice none 0 0, ?_, ?_, rfl, ⟨Own.nil _ _ _ _, rfl⟩, ⟨Own.nil _ _ _ _, rfl⟩, ?_⟩, fun n _ => ⟨rfl, rfl⟩⟩, hE, hRb⟩
 ·intro r1 r2 b h1 h2
  cases r1 <;> cases r2 <;> simp_all [newLayR]
 ·intro r b h
  cases r <;> simp [newLayR] at h
  omega
 ·intro r b h
  cases r <;> simp [newLayR] at h
  omega
 ·simpa [newMS] using hb
 ·simpa [newMS, cellsO] using Own.nil _ _ _ _
 ·intro n h1 h2
  simp [newMS] at h2
  omega
def wordsOf (words : Int) : Int := 64 + IntKind.u64.wrap words % 200
theorem words_in (words : Int) : 64 ≤ wordsOf words ∧ wordsOf words ≤ 263 := by
 unfold wordsOf
 omega
theorem MB_new (n : Int) : MB 0 (newMS n) := by
 refine ⟨by simp [newMS], by simp [newMS], fun x hx => by simp [newMS] at hx, by simp [newMS], fun x => ?_⟩
 have : (newMS n).at x = noMO := by simp [MS.at, newMS]
 rw [this]; exact Nat.zero_le _
theorem l_opened {w : World} (words : Int) : Calls Tryz.prog 13 #[.int .i64 words] w fun e w' => ∃ base Hb Rb β γ, e = .returned (.tuple #[.agg #[ptr Hb, ptr Rb], .bool true]) ∧ w.heap.size ≤ base ∧ Joint base w' Hb Rb β γ 0 (newMS (wordsOf words)) none ∧ Ext w w' := by
 obtain ⟨R, hR⟩ : ∃ R : Ending → World → Prop, R = fun e w' => ∃ base Hb Rb β γ, e = .returned (.tuple #[.agg #[ptr Hb, ptr Rb], .bool true]) ∧ w.heap.size ≤ base ∧ Joint base w' Hb Rb β γ 0 (newMS (wordsOf words)) none ∧ Ext w w' := ⟨_, rfl⟩
 rw [← hR]
 have hin := words_in words
 have hu := u64_range words
 refine ir13_calls fun ρ r0 => ?_
 simp -implicitDefEqProofs [-wps_asg, -wps_eff, wa2, we2, ir13, r0]
 refine eff_alloc z31 fun B W1 hB hE1 hb1 hs1 => ?_
 have htm : (IntKind.u64.wrap words).tmod 200 = IntKind.u64.wrap words % 200 := Int.tmod_eq_emod_of_nonneg hu.1
 have e0 : IntKind.i64.wrap (IntKind.u64.wrap words % 200) = IntKind.u64.wrap words % 200 := i64w (by omega)
 have e1 : IntKind.i64.wrap (64 + IntKind.u64.wrap words % 200) = wordsOf words := i64w (by omega)
 simp -implicitDefEqProofs [-wps_asg, -wps_eff, wa2, we2, r0, htm, u64_wrap_small (n := IntKind.u64.wrap words % 200) (by omega), e0, e1]
 refine (t_New (w := W1) (wordsOf words)).mono ?_
 rintro _ W2 (⟨h1, _⟩ | ⟨_, Hb, M, rfl, hH, hE2⟩)
 ·omega
 simp -implicitDefEqProofs [-wps_asg, -wps_eff, wa2, we2]
 refine (r_New (w := W2) (base := W1.heap.size) hE2.size (wordsOf words) (by omega)).mono ?_
 rintro _ W3 ⟨Rb, rfl, hr, hE3, hRb⟩
 simp -implicitDefEqProofs [-wps_asg, -wps_eff, wa2, we2, bu31]
 refine eff_neqNilP (p := some ⟨Hb, 0, none⟩) und25 (by simp [ptr]) ?_
 simp -implicitDefEqProofs [-wps_asg, -wps_eff, wa2, we2]
 have hbB := ((hb1.ext hE2).ext hE3)
 refine eff_storeN (B := B) (cs := #[.pointer none, .pointer none]) (by simp) hbB (by simp [Value.cells]) (by simp [Value.cells, ptr]) sz31 fun W4 hO hb4 => ?_
 simp [Value.cells] at hb4
 have z1 := hE1.size
 have z2 := hE2.size
 have z3 := hE3.size
 have hE4 : Ext w W4 := hO.ext ((hE1.trans' hE2).trans' hE3) hB
 have hH4 : HAt W1.heap.size W4 Hb (newLay Hb M) (newMS (wordsOf words)) none := (hH.ext hE3).keep fun r b hr => hO.block b (by have := hH.lo r b hr; omega)
 have hr4 : RAt W1.heap.size W4 Rb (newLayR Rb) (newMS (wordsOf words)) := hr.keep fun r b hr' => hO.block b (by have := hr.lo r b hr'; omega)
 simp -implicitDefEqProofs [-wps_asg, -wps_eff, wa2, we2]
 refine retK_c2 (B := B) (by simp) hb4 rfl ?_
 simp
 rw [hR]
 refine ⟨W1.heap.size, Hb, Rb, _, _, rfl, z1, ⟨hH4, hr4, fun b ⟨r1, h1⟩ ⟨r2, h2⟩ => ?_, MB_new _, ?_⟩, hE4⟩
 ·have h3 := hH.hi r1 b h1
  cases r2 <;> simp [newLayR] at h2
  omega
 ·have := hO.size
  omega
end Go.L17
namespace Go.L17
open Go Go.Eng Go.RowKit
open Go.Proofs hiding encI
set_option maxRecDepth 100000
set_option maxHeartbeats 4000000
structure SlW {α : Type} (enc : α → Value) (w : World) (v : Value) (xs : List α) : Prop where
 is : isSl v = true
 len : slLen v = xs.length
 cell : ∀ (i : Nat) (h : i < xs.length), w.cell? (slAddr v i) = some (enc xs[i])
theorem SlW.ext {α : Type} {enc : α → Value} {w w' : World} {v : Value} {xs : List α} (h : SlW enc w v xs) (hE : Ext w w') : SlW enc w' v xs := ⟨h.is, h.len, fun i hi => hE.cell (h.cell i hi)⟩
theorem SlW.sl {α : Type} {enc : α → Value} {w : World} {v : Value} {xs : List α} (h : SlW enc w v xs) (hb : xs.length ≤ 1000000) : Sl enc w v xs := ⟨h.is, h.len, by omega, h.cell⟩
structure Scr (w : World) (v : Value) (l : List OpD) : Prop where
 is : isSl v = true
 len : slLen v = l.length
 row : ∀ (i : Nat) (h : i < l.length), ∃ kv vv rv : Value, (∀ j, j < 7 → w.cell? (slAddr v (i * 7 + j)) = [.int .u8 (l[i].kind : Int), .int .i64 l[i].ref, .int .i64 l[i].a, .int .i64 l[i].b, kv, vv, rv][j]?) ∧ SlW encU w kv l[i].kinds ∧ SlW encI w vv l[i].vals ∧ SlW encI w rv l[i].roots ∧ l[i].kind < 256
theorem Scr.ext {w w' : World} {v : Value} {l : List OpD} (h : Scr w v l) (hE : Ext w w') : Scr w' v l := ⟨h.is, h.len, fun i hi => by
 obtain ⟨kv, vv, rv, h1, h2, h3, h4, h5⟩ := h.row i hi
 refine ⟨kv, vv, rv, fun j hj => ?_, h2.ext hE, h3.ext hE, h4.ext hE, h5⟩
 have := h1 j hj
 rw [List.getElem?_eq_getElem (by simpa using hj)] at this ⊢
 exact hE.cell this⟩
structure OpW (w : World) (o : OpD) (v : Value) : Prop where
 ex : ∃ kv vv rv, v = o.val kv vv rv ∧ SlW encU w kv o.kinds ∧ SlW encI w vv o.vals ∧ SlW encI w rv o.roots
 kd : o.kind < 256
theorem OpW.at {w : World} {o : OpD} {v : Value} (h : OpW w o v) (hf : o.few) : OpAt w o v := by
 obtain ⟨kv, vv, rv, h1, h2, h3, h4⟩ := h.ex
 obtain ⟨f1, f2, f3⟩ := hf
 exact ⟨⟨kv, vv, rv, h1, h2.sl (by omega), h3.sl (by omega), h4.sl (by omega)⟩, h.kd⟩
theorem Scr.at {w : World} {v : Value} {l : List OpD} (h : Scr w v l) {i : Nat} (hi : i < l.length) : ∃ kv vv rv, (∀ W, Ext w W → Eng.rowAt W (slAddr v (i * 7)) 0 7 = some [.int .u8 (l[i].kind : Int), .int .i64 l[i].ref, .int .i64 l[i].a, .int .i64 l[i].b, kv, vv, rv]) ∧ OpW w l[i] (l[i].val kv vv rv) ∧ kv.oneCell = true ∧ vv.oneCell = true ∧ rv.oneCell = true := by
 obtain ⟨kv, vv, rv, h1, h2, h3, h4, h5⟩ := h.row i hi
 refine ⟨kv, vv, rv, fun W hE => ?_, ⟨⟨kv, vv, rv, rfl, h2, h3, h4⟩, h5⟩, isSl_one h2.is, isSl_one h3.is, isSl_one h4.is⟩
 have := rowAt_of (w := W) (a := slAddr v (i * 7)) (l := [.int .u8 (l[i].kind : Int), .int .i64 l[i].ref, .int .i64 l[i].a, .int .i64 l[i].b, kv, vv, rv]) (i := 0) fun j hj => by
  have e := h1 j (by simpa using hj)
  rw [List.getElem?_eq_getElem hj] at e
  rw [slAddr_add, show 0 + j = j by omega]
  exact hE.cell e
 exact this
def OpD.many (o : OpD) : Bool := decide (10 < o.kinds.length) || decide (10 < o.vals.length) || decide (10 < o.roots.length)
theorem OpD.few_of {o : OpD} (h : o.many = false) : o.few := by
 simp only [OpD.many, Bool.or_eq_false_iff, decide_eq_false_iff_not] at h
 exact ⟨by omega, by omega, by omega⟩
def shortB (l : List OpD) : Bool := decide (l.length ≤ 70) && !l.any OpD.many
theorem short_few {l : List OpD} (h : shortB l = true) : l.length ≤ 70 ∧ ∀ o ∈ l, o.few := by
 simp only [shortB, Bool.and_eq_true, decide_eq_true_eq, Bool.not_eq_true', List.any_eq_false] at h
 exact ⟨h.1, fun o ho => OpD.few_of (by simpa using h.2 o ho)⟩
@[simp] theorem cb57 : callB Tryz.prog 57 = true := by kernel_rfl
@[simp] theorem cb114 : callB Tryz.prog 114 = true := by kernel_rfl
@[simp] theorem cb56 : callB Tryz.prog 56 = true := by kernel_rfl
theorem l_many {w : World} {o : OpD} {v : Value} (ho : OpW w o v) : Calls Tryz.prog 57 #[v] w fun e w' => e = .returned (.bool o.many) ∧ Ext w w' := by
 obtain ⟨kv, vv, rv, rfl, hk, hv, hr⟩ := ho.ex
 refine ir57_calls fun ρ r0 => ?_
 simp -implicitDefEqProofs [-wps_asg, -wps_eff, wa2, we2, ir57]
 refine eff_box fun B W hB hE hb hs => ?_
 rw [show evE ρ (.tmp 0) = ρ 0 from rfl, r0] at hb
 have hbo : Blk W B #[.int .u8 o.kind, .int .i64 o.ref, .int .i64 o.a, .int .i64 o.b, kv, vv, rv] 37 := hb
 have hc := hbo.cell
 have hkW := hk.ext hE
 have hvW := hv.ext hE
 have hrW := hr.ext hE
 by_cases h1 : 10 < o.kinds.length
 ·have i1 : (10 : Int) < (o.kinds.length : Int) := by omega
  simp -implicitDefEqProofs [-wps_asg, -wps_eff, wa2, we2, hc, hkW.is, hkW.len, hvW.is, hvW.len, hrW.is, hrW.len, h1, i1, OpD.many]
  exact hE
 have i1 : ¬ (10 : Int) < (o.kinds.length : Int) := by omega
 by_cases h2 : 10 < o.vals.length
 ·have i2 : (10 : Int) < (o.vals.length : Int) := by omega
  simp -implicitDefEqProofs [-wps_asg, -wps_eff, wa2, we2, hc, hkW.is, hkW.len, hvW.is, hvW.len, hrW.is, hrW.len, h1, i1, h2, i2, OpD.many]
  exact hE
 have i2 : ¬ (10 : Int) < (o.vals.length : Int) := by omega
 by_cases h3 : 10 < o.roots.length
 ·have i3 : (10 : Int) < (o.roots.length : Int) := by omega
  simp -implicitDefEqProofs [-wps_asg, -wps_eff, wa2, we2, hc, hkW.is, hkW.len, hvW.is, hvW.len, hrW.is, hrW.len, h1, i1, h2, i2, h3, i3, OpD.many]
  exact hE
 have i3 : ¬ (10 : Int) < (o.roots.length : Int) := by omega
 simp -implicitDefEqProofs [-wps_asg, -wps_eff, wa2, we2, hc, hkW.is, hkW.len, hvW.is, hvW.len, hrW.is, hrW.len, h1, i1, h2, i2, h3, i3, OpD.many]
 exact hE
theorem l_indexO {w : World} {v : Value} {l : List OpD} (hs : Scr w v l) (hbd : l.length ≤ 70) : Calls Tryz.prog 114 #[v, .func (.func 57) #[] #[]] w fun e w' => (∃ r : Int, e = .returned (.int .i64 r) ∧ decide (0 ≤ r) = l.any OpD.many) ∧ Ext w w' := by
 obtain ⟨R, hR⟩ : ∃ R : Ending → World → Prop, R = fun e w' => (∃ r : Int, e = .returned (.int .i64 r) ∧ decide (0 ≤ r) = l.any OpD.many) ∧ Ext w w' := ⟨_, rfl⟩
 rw [← hR]
 refine ir114_calls fun ρ h0 h1 => ?_
 simp -implicitDefEqProofs [-wps_asg, -wps_eff, wa2, we2, ir114, h0, hs.is, hs.len]
 obtain ⟨I, hI⟩ : ∃ I : Nat → Env → World → Prop, ∀ k ρ' W, I k ρ' W ↔ (Ext w W ∧ ρ' 0 = v ∧ ρ' 1 = .func (.func 57) #[] #[] ∧ ρ' 7 = .int .i64 l.length ∧ ∀ j (hj : j < l.length), j < k → l[j].many = false) := ⟨_, fun _ _ _ => Iff.rfl⟩
 refine loopC 8 l.length I (by simp) ((hI _ _ _).2 ⟨ext_refl _, by simp [h0], by simp [h1], by simp, fun j _ hj => by omega⟩) ?_
 intro k ρ' W hk h8 hi
 obtain ⟨hE, h0, h1, h7, hall⟩ := (hI _ _ _).1 hi
 have hsW := hs.ext hE
 by_cases hlt : k < l.length
 ·obtain ⟨kv, vv, rv, hrow0, ho, _⟩ := hsW.at hlt
  have hrow := hrow0 W (ext_refl _)
  simp -implicitDefEqProofs [-wps_asg, -wps_eff, wa2, we2, ir114_l2, ir114_k1, h8, h7, hlt, h0, h1, hsW.is, hsW.len, hrow]
  refine eff_callv (f := 57) (fs := #[]) (caps := #[]) cb57 (by simp) ?_
  simp -implicitDefEqProofs
  refine (l_many ho).mono ?_
  rintro _ w2 ⟨rfl, hE2⟩
  have hE3 := hE.trans' hE2
  cases hk2 : l[k].many with
  | true =>
   simp -implicitDefEqProofs [-wps_asg, -wps_eff, wa2, we2]
   rw [hR]
   refine ⟨⟨k, rfl, ?_⟩, hE3⟩
   have : l.any OpD.many = true := List.any_eq_true.2 ⟨l[k], List.getElem_mem hlt, hk2⟩
   rw [this]; simp
  | false =>
   simp -implicitDefEqProofs [-wps_asg, -wps_eff, wa2, we2, ir114_k0, h8, i64w (n := (k : Int) + 1) (by omega)]
   refine (hI _ _ _).2 ⟨hE3, by simp [h0], by simp [h1], by simp [h7], fun j hj hjk => ?_⟩
   by_cases e : j = k
   ·subst e; exact hk2
   ·exact hall j hj (by omega)
 ·have hke : k = l.length := by omega
  subst hke
  simp -implicitDefEqProofs [-wps_asg, -wps_eff, wa2, we2, ir114_l2, h8, h7, ir114_k3]
  have : l.any OpD.many = false := by
   rw [List.any_eq_false]
   intro x hx
   obtain ⟨j, hj, rfl⟩ := List.getElem_of_mem hx
   simpa using hall j hj hj
  rw [hR]
  refine ⟨⟨-1, rfl, ?_⟩, hE⟩
  rw [this]; simp
theorem l_short {w : World} {v : Value} {l : List OpD} (hs : Scr w v l) : Calls Tryz.prog 10 #[v] w fun e w' => e = .returned (.bool (shortB l)) ∧ Ext w w' := by
 refine ir10_calls fun ρ r0 => ?_
 by_cases hlen : l.length ≤ 70
 ·have hI : (l.length : Int) ≤ 70 := by omega
  simp -implicitDefEqProofs [-wps_asg, -wps_eff, wa2, we2, ir10, r0, hs.is, hs.len, hlen, hI]
  refine ir56_calls fun ρ2 s0 s1 => ?_
  simp -implicitDefEqProofs [-wps_asg, -wps_eff, wa2, we2, ir56, s0, s1]
  refine (l_indexO hs hlen).mono ?_
  rintro _ W ⟨⟨r, rfl, hr⟩, hE⟩
  cases ha : l.any OpD.many with
  | true =>
   rw [ha] at hr
   have hr' : 0 ≤ r := by simpa using hr
   simp -implicitDefEqProofs [-wps_asg, -wps_eff, wa2, we2, hr', shortB, ha]
   exact hE
  | false =>
   rw [ha] at hr
   have hr' : ¬ 0 ≤ r := by simpa using hr
   simp -implicitDefEqProofs [-wps_asg, -wps_eff, wa2, we2, hr', shortB, ha, hlen]
   exact hE
 ·have hI : ¬ (l.length : Int) ≤ 70 := by omega
  simp -implicitDefEqProofs [-wps_asg, -wps_eff, wa2, we2, ir10, r0, hs.is, hs.len, hlen, hI, shortB]
  exact ext_refl _
end Go.L17
namespace Go.L17
open Go Go.Eng Go.RowKit
open Go.Proofs hiding encI
set_option maxRecDepth 100000
set_option maxHeartbeats 4000000
@[simp] theorem cb30 : callB Tryz.prog 30 = true := by kernel_rfl
section
variable {base Hb Rb k : Nat} {β γ : Lay} {m : MS} {c : Option Wh} {w w0 : World}
theorem l_there (h : HAt base w Hb β m c) (hl : m.objs.length ≤ 1000000) : Calls Tryz.prog 30 #[ptr Hb, .int .i64 m.objs.length] w fun e w' => ∃ x, e = .returned x ∧ Own w.heap.size 3 1 w' x (m.thereL.map encI) ∧ Ext w w' := by
 obtain ⟨R, hR⟩ : ∃ R : Ending → World → Prop, R = fun e w' => ∃ x, e = .returned x ∧ Own w.heap.size 3 1 w' x (m.thereL.map encI) ∧ Ext w w' := ⟨_, rfl⟩
 rw [← hR]
 refine ir30_calls fun ρ r0 r1 => ?_
 simp -implicitDefEqProofs [-wps_asg, -wps_eff, wa2, we2, ir30]
 obtain ⟨I, hI⟩ : ∃ I : Nat → Env → World → Prop, ∀ k ρ' W, I k ρ' W ↔ (ρ' 0 = ptr Hb ∧ ρ' 1 = .int .i64 m.objs.length ∧ Ext w W ∧ ∃ lv, ρ' 5 = lv ∧ Own w.heap.size 3 1 W lv (((upto (k - 1)).filter m.there).map encI)) := ⟨_, fun _ _ _ => Iff.rfl⟩
 refine loopF 6 (m.objs.length + 1) 1 I (by simp) (by omega) ((hI _ _ _).2 ⟨by simp [r0], by simp [r1], ext_refl _, .slice none 0 0, by simp, by simpa [upto] using Own.nil _ _ _ _⟩) ?_
 intro k ρ' W hk1 hk2 h6 hi
 obtain ⟨s0, s1, hE, lv, s5, hlv⟩ := (hI _ _ _).1 hi
 by_cases hlt : k < m.objs.length + 1
 rotate_left
 ·have hke : k = m.objs.length + 1 := by omega
  subst hke
  have hn : ¬ (m.objs.length : Int) + 1 ≤ (m.objs.length : Int) := by omega
  simp -implicitDefEqProofs [-wps_asg, -wps_eff, wa2, we2, ir30_l2, h6, s1, hn, ir30_k3, s5]
  rw [hR]
  exact ⟨lv, rfl, by unfold MS.thereL; rw [nums_upto]; exact hlv, hE⟩
 have hle : (k : Int) ≤ (m.objs.length : Int) := by omega
 have hle' : k ≤ m.objs.length := by omega
 have hup : upto (k + 1 - 1) = upto (k - 1) ++ [(k : Int)] := by
  have h1 : k + 1 - 1 = (k - 1) + 1 := by omega
  have h2 : ((k - 1 : Nat) : Int) + 1 = (k : Int) := by omega
  rw [h1, upto_succ, h2]
 have hwk : IntKind.i64.wrap ((k : Int) + 1) = (k : Int) + 1 := i64w (by omega)
 obtain ⟨Z, hZ⟩ : ∃ Z : Env → World → Prop, Z = fun ρ'' w'' => k < m.objs.length + 1 ∧ ρ'' 6 = .int .i64 ((k : Int) + 1) ∧ I (k + 1) ρ'' w'' := ⟨_, rfl⟩
 rw [← hZ]
 have z := hE.size
 simp -implicitDefEqProofs [-wps_asg, -wps_eff, wa2, we2, ir30_l2, h6, s1, hle, hle', ir30_k1, s0]
 refine (t_There (h.ext hE) k).mono ?_
 rintro _ w2 ⟨rfl, hw2⟩
 obtain rfl := hw2.symm
 cases hm : m.there k with
 | false =>
  simp -implicitDefEqProofs [-wps_asg, -wps_eff, wa2, we2, ir30_k0, h6, hwk]
  rw [hZ]
  exact ⟨hlt, by simp, (hI _ _ _).2 ⟨by simp [s0], by simp [s1], hE, lv, by simp [s5], by rw [hup, List.filter_append]; simpa [hm] using hlv⟩⟩
 | true =>
  simp -implicitDefEqProofs [-wps_asg, -wps_eff, wa2, we2, s5, h6]
  refine eff_lit si35 (by decide) (by decide) (by simp [Value.cells]) fun Bx Wx hBx hEx hbx _ => ?_
  simp [Value.cells] at hbx
  simp -implicitDefEqProofs [-wps_asg, -wps_eff, wa2, we2]
  refine eff_push1 (B := Bx) (n := (k : Int)) (hE.trans' hEx) (hlv.ext hEx) (by
   have := List.length_filter_le m.there (upto (k - 1))
   rw [upto_len] at this; omega) (by simp) (by simp) hbx (by omega) fun lv3 Wy hly hEy _ _ _ => ?_
  simp -implicitDefEqProofs [-wps_asg, -wps_eff, wa2, we2, ir30_k0, h6, hwk]
  rw [hZ]
  refine ⟨hlt, by simp, (hI _ _ _).2 ⟨by simp [s0], by simp [s1], hEy, lv3, by simp, ?_⟩⟩
  rw [hup, List.filter_append]
  simpa [hm] using hly
end
end Go.L17
namespace Go.L17
open Go Go.Eng Go.RowKit
open Go.Proofs hiding encI
set_option maxRecDepth 100000
set_option maxHeartbeats 4000000
section
variable {base Hb Rb k : Nat} {β γ : Lay} {m : MS} {c : Option Wh} {w w0 : World}
def builtM (n : Int) (l : List OpD) : MS := l.foldl (fun m o => opN o m) (newMS n)
theorem builtM_snoc (n : Int) (l : List OpD) (o : OpD) : builtM n (l ++ [o]) = opN o (builtM n l) := by simp [builtM]
theorem set_on (m : MS) (r i v : Int) : (m.set r i v).2.on = m.on ∧ (m.set r i v).2.words = m.words := by unfold MS.set; dsimp only; split <;> exact ⟨rfl, rfl⟩
theorem opN_on (o : OpD) (m : MS) : (opN o m).on = m.on ∧ (opN o m).words = m.words := by
 unfold opN
 dsimp only
 split
 ·unfold MS.make; split <;> exact ⟨rfl, rfl⟩
 split
 ·unfold MS.array; split
  ·exact ⟨rfl, rfl⟩
  ·split <;> exact ⟨rfl, rfl⟩
 split
 ·exact set_on _ _ _ _
 split
 ·unfold MS.add; dsimp only; split <;> exact ⟨rfl, rfl⟩
 split
 ·unfold MS.store; dsimp only; split <;> exact ⟨rfl, rfl⟩
 split
 ·unfold MS.rem; split <;> exact ⟨rfl, rfl⟩
 split
 ·split
  ·unfold MS.watch; split
   ·exact ⟨rfl, rfl⟩
   ·split <;> exact ⟨rfl, rfl⟩
  ·exact ⟨rfl, rfl⟩
 ·exact ⟨rfl, rfl⟩
theorem builtM_on (n : Int) (l : List OpD) : (builtM n l).on = false ∧ (builtM n l).words = n := by
 unfold builtM
 have : ∀ (l : List OpD) (m : MS), (l.foldl (fun m o => opN o m) m).on = m.on ∧ (l.foldl (fun m o => opN o m) m).words = m.words := by
  intro l
  induction l with
  | nil => intro m; exact ⟨rfl, rfl⟩
  | cons a l ih =>
   intro m
   obtain ⟨h1, h2⟩ := ih (opN a m)
   obtain ⟨h3, h4⟩ := opN_on a m
   exact ⟨h1.trans h3, h2.trans h4⟩
 exact this l (newMS n)
theorem z37 : zeroCellsOf Tryz.prog 37 = some #[.int .u8 0, .int .i64 0, .int .i64 0, .int .i64 0, .slice none 0 0, .slice none 0 0, .slice none 0 0] := by kernel_rfl
theorem sz37 : sizeIs Tryz.prog 37 7 = true := by kernel_rfl
def BuiltR (w : World) (words : Int) (l : List OpD) : Ending → World → Prop := fun e w' => ∃ base Hb Rb β γ c, e = .returned (.tuple #[.agg #[ptr Hb, ptr Rb], .bool true]) ∧ w.heap.size ≤ base ∧ Joint base w' Hb Rb β γ l.length (builtM (wordsOf words) l) c ∧ Ext w w'
theorem l_built {v : Value} {l : List OpD} (hs : Scr w v l) (hsh : shortB l = true) (words : Int) : Calls Tryz.prog 16 #[.int .i64 words, v] w (BuiltR w words l) := by
 obtain ⟨R, hR⟩ : ∃ R, R = BuiltR w words l := ⟨_, rfl⟩
 rw [← hR]
 obtain ⟨hl70, hfew⟩ := short_few hsh
 refine ir16_calls fun ρ r0 r1 => ?_
 simp -implicitDefEqProofs [-wps_asg, -wps_eff, wa2, we2, ir16, r0]
 refine eff_alloc z31 fun B4 W1 hB4 hE1 hb4 hs4 => ?_
 simp -implicitDefEqProofs [-wps_asg, -wps_eff, wa2, we2, r0]
 refine (l_opened (w := W1) words).mono ?_
 rintro _ W2 ⟨base, Hb, Rb, β0, γ0, rfl, hbase, j0, hE2⟩
 simp -implicitDefEqProofs [-wps_asg, -wps_eff, wa2, we2]
 refine eff_alloc z31 fun B6 W3 hB6 hE3 hb6 hs6 => ?_
 simp -implicitDefEqProofs [-wps_asg, -wps_eff, wa2, we2]
 refine eff_storeN (B := B6) (cs := #[.pointer none, .pointer none]) (by simp) hb6 (by simp [Value.cells]) (by simp [Value.cells, ptr]) sz31 fun W4 hO4 hb6' => ?_
 simp [Value.cells] at hb6'
 have z1 := hE1.size
 have z2 := hE2.size
 have z3 := hE3.size
 have z4 := hO4.size
 have hE02 := hE1.trans' hE2
 have hE24 : Ext W2 W4 := hO4.ext hE3 hB6
 have hE4 : Ext w W4 := hE02.trans' hE24
 have hlt4 := hb4.lt
 have hb44 : Blk W4 B4 #[.pointer none, .pointer none] 31 := (hb4.ext hE2).ext hE24
 have j4 := j0.ext hE24
 have hn4 := j0.oldBlk (b := B4) (by omega)
 have hn6 := j0.newBlk (b := B6) hB6
 simp -implicitDefEqProofs [-wps_asg, -wps_eff, wa2, we2, ir16_k4, r1, hs.is, hs.len]
 obtain ⟨I, hI⟩ : ∃ I : Nat → Env → World → Prop, ∀ k ρ' W, I k ρ' W ↔ (ρ' 4 = ptr B4 ∧ ρ' 6 = ptr B6 ∧ ρ' 18 = v ∧ ρ' 19 = .int .i64 l.length ∧ Ext w W ∧ Blk W B4 #[.pointer none, .pointer none] 31 ∧ Blk W B6 #[ptr Hb, ptr Rb] 31 ∧ ∃ β γ c, Joint base W Hb Rb β γ k (builtM (wordsOf words) (l.take k)) c ∧ (¬ β.has B4 ∧ ¬ γ.has B4) ∧ (¬ β.has B6 ∧ ¬ γ.has B6)) := ⟨_, fun _ _ _ => Iff.rfl⟩
 refine loopC 20 l.length I (by rfl) ((hI _ _ _).2 ⟨by rfl, by rfl, by simp, by rfl, hE4, hb44, hb6', β0, γ0, none, by simpa [builtM] using j4, hn4, hn6⟩) ?_
 intro k ρ' W hk h20 hi
 obtain ⟨s4, s6, s18, s19, hE, hbW4, hbW6, β, γ, c, j, hnW4, hnW6⟩ := (hI _ _ _).1 hi
 have hsW := hs.ext hE
 have z := hE.size
 by_cases hlt : k < l.length
 rotate_left
 ·have hke : k = l.length := by omega
  subst hke
  rw [List.take_length] at j
  have hc6 := hbW6.cell
  have hr6 := row_blk hbW6
  rw [ptr] at s4 s6
  simp -implicitDefEqProofs [-wps_asg, -wps_eff, wa2, we2, ir16_l2, h20, s19, ir16_k3, s6, hbW6.cell, s4]
  refine eff_storeN (B := B4) (cs := #[.pointer none, .pointer none]) (by simp [s4]) hbW4 (by simp [Value.cells]) (by simp [Value.cells, ptr]) sz31 fun W5 hO5 hb5 => ?_
  simp [Value.cells] at hb5
  simp -implicitDefEqProofs [-wps_asg, -wps_eff, wa2, we2]
  refine retK_c2 (B := B4) (by simp [s4]) hb5 rfl ?_
  simp
  rw [hR]
  have z5 := hO5.size
  refine ⟨base, Hb, Rb, β, γ, c, rfl, by omega, ⟨j.h.keep fun r b hr => hO5.block b fun e => hnW4.1 ⟨r, e ▸ hr⟩, j.r.keep fun r b hr => hO5.block b fun e => hnW4.2 ⟨r, e ▸ hr⟩, j.dis, j.mb, by have := j.bw; omega⟩, hO5.ext hE hB4⟩
 ·obtain ⟨kv, vv, rv, hrow0, how, o1, o2, o3⟩ := hs.at hlt
  have ho := how.at (hfew _ (List.getElem_mem hlt))
  have hrow := hrow0 W hE
  rw [ptr] at s4 s6
  simp -implicitDefEqProofs [-wps_asg, -wps_eff, wa2, we2, ir16_l2, h20, s19, hlt, ir16_k1, s18, hsW.is, hsW.len, hrow]
  refine eff_alloc z37 fun B9 W5 hB9 hE5 hb9 hs9 => ?_
  simp -implicitDefEqProofs [-wps_asg, -wps_eff, wa2, we2]
  refine eff_storeN (B := B9) (cs := #[.int .u8 0, .int .i64 0, .int .i64 0, .int .i64 0, .slice none 0 0, .slice none 0 0, .slice none 0 0]) (by simp) hb9 (by simp [Value.cells]) ?_ sz37 fun W6 hO6 hb9' => ?_
  ·simp [Value.cells, o1, o2, o3]
  simp [Value.cells] at hb9'
  have hE6 : Ext W W6 := hO6.ext hE5 hB9
  have j6 := j.ext hE6
  have hr6 := row_blk (hbW6.ext hE6)
  have hr9 : Eng.rowAt W6 ⟨B9, 0, none⟩ 0 7 = some [.int .u8 (l[k].kind : Int), .int .i64 l[k].ref, .int .i64 l[k].a, .int .i64 l[k].b, kv, vv, rv] := row_blk hb9'
  simp -implicitDefEqProofs [-wps_asg, -wps_eff, wa2, we2, s6, (hbW6.ext hE6).cell, hb9'.cell, hr9]
  refine (l_does (w0 := w) j6 (by omega) (by omega) (hE.trans' hE6) ho (hfew _ (List.getElem_mem hlt)) false).mono ?_
  rintro _ W7 ⟨rfl, m', hm', β', γ', c', j', hT⟩
  have hm2 := hm' rfl
  have hwk : IntKind.i64.wrap ((k : Int) + 1) = (k : Int) + 1 := i64w (by omega)
  simp -implicitDefEqProofs [-wps_asg, -wps_eff, wa2, we2, ir16_k0, h20, hwk]
  have l4 := hbW4.lt
  have l6 := hbW6.lt
  have z6 := hE6.size
  refine (hI _ _ _).2 ⟨by simp [s4, ptr], by simp [s6, ptr], by simp [s18], by simp [s19], hT.ext j6 (by omega) (hE.trans' hE6), ?_, ?_, β', γ', c', ?_, hT.apart (by omega) hnW4, hT.apart (by omega) hnW6⟩
  ·exact Blk.keep (hbW4.ext hE6) (hT.stay (by omega) hnW4)
  ·exact Blk.keep (hbW6.ext hE6) (hT.stay (by omega) hnW6)
  ·have : l.take (k + 1) = l.take k ++ [l[k]] := by rw [List.take_add_one, List.getElem?_eq_getElem hlt]; rfl
   rw [this, builtM_snoc, ← hm2]; exact j'
end
end Go.L17
namespace Go.L17
open Go Go.Eng Go.RowKit
open Go.Proofs hiding encI
set_option maxRecDepth 100000
set_option maxHeartbeats 4000000
def kM (l : List MO) : MS := ⟨64, l, false, [], 0, []⟩
def kO1 (v : Int) : MO := ⟨true, 0, 0, [1, 2], [5, v], 0, false⟩
def kO2 (l : List Int) : MO := ⟨true, 0, 2, [], l, 0, false⟩
def kO3 : MO := ⟨true, 1, 0, [1], [7], 0, false⟩
def kO4 : MO := ⟨true, 2, 0, [1], [8], 0, false⟩
def kB (l : List MO) (x : Int) : MS := ⟨64, l, true, [3], x, []⟩
def kOn (x : Int) : MS := kB [kO1 2, kO2 [1], kO3, kO4] x
def kEnd (x : Int) : MS := ⟨64, [⟨true, 0, 0, [1, 2], [5, 2], 2, false⟩, ⟨true, 0, 2, [], [1], 2, false⟩, ⟨false, 0, 0, [], [], 2, false⟩, ⟨true, 2, 0, [1], [8], 2, false⟩], false, [], x, []⟩
theorem k1 : (newMS 64).make 0 [1, 2] [5, 0] = (1, 0, kM [kO1 0]) := by decide +kernel
theorem k2 : (kM [kO1 0]).array 2 = (2, 0, kM [kO1 0, kO2 []]) := by decide +kernel
theorem k3 : (kM [kO1 0, kO2 []]).add 2 1 = (0, kM [kO1 0, kO2 [1]]) := by decide +kernel
theorem k4 : (kM [kO1 0, kO2 [1]]).used = 7 := by decide +kernel
theorem k5 : (kM [kO1 0, kO2 [1]]).set 1 1 2 = (0, kM [kO1 2, kO2 [1]]) := by decide +kernel
theorem k6 : (kM [kO1 2, kO2 [1]]).set 1 1 3 = (171, kM [kO1 2, kO2 [1]]) := by decide +kernel
theorem k7 : (kM [kO1 2, kO2 [1]]).set 1 2 0 = (1, kM [kO1 2, kO2 [1]]) := by decide +kernel
theorem k8 : (kM [kO1 2, kO2 [1]]).make 1 [1] [7] = (3, 0, kM [kO1 2, kO2 [1], kO3]) := by decide +kernel
theorem met_all {m : MS} {roots : List Int} (S : Int → Prop) (h0 : ∀ n ∈ roots, n ≠ 0 → S n) (h1 : ∀ n, S n → ∀ k ∈ m.refsOf n, S k) {n : Int} (h : m.met roots n = true) : S n := by
 have hr := met_iff.1 h
 clear h
 induction hr with
 | root a b => exact h0 _ a b
 | step _ hk ih => exact h1 _ ih _ hk
theorem met_root {m : MS} {roots : List Int} {n : Int} (h : n ∈ roots) (h0 : n ≠ 0) : m.met roots n = true := met_iff.2 (.root h h0)
theorem met_step {m : MS} {roots : List Int} {n k : Int} (h : m.met roots n = true) (hk : k ∈ m.refsOf n) : m.met roots k = true := met_iff.2 (.step (met_iff.1 h) hk)
theorem k9 : (kM [kO1 2, kO2 [1], kO3]).begin [2] = (0, kB [kO1 2, kO2 [1], kO3] 11) := by
 have hE : (kM [kO1 2, kO2 [1], kO3]).minorE [2] = 0 := by decide +kernel
 have r1 : (kM [kO1 2, kO2 [1], kO3]).refsOf 1 = [2] := by decide +kernel
 have r2 : (kM [kO1 2, kO2 [1], kO3]).refsOf 2 = [1] := by decide +kernel
 have t1 : (kM [kO1 2, kO2 [1], kO3]).there 1 = true := by decide +kernel
 have t2 : (kM [kO1 2, kO2 [1], kO3]).there 2 = true := by decide +kernel
 have t3 : (kM [kO1 2, kO2 [1], kO3]).there 3 = true := by decide +kernel
 have hn : (kM [kO1 2, kO2 [1], kO3]).nums = [1, 2, 3] := by decide +kernel
 have hu : (kM [kO1 2, kO2 [1], kO3]).used = 10 := by decide +kernel
 have m2 : (kM [kO1 2, kO2 [1], kO3]).met [2] 2 = true := met_root (by simp) (by decide)
 have m1 : (kM [kO1 2, kO2 [1], kO3]).met [2] 1 = true := met_step m2 (by rw [r2]; simp)
 have m3 : (kM [kO1 2, kO2 [1], kO3]).met [2] 3 = false := by
  cases h : (kM [kO1 2, kO2 [1], kO3]).met [2] 3 with
  | false => rfl
  | true =>
   have := met_all (fun n => n = 1 ∨ n = 2) (fun n hn _ => by simp at hn; exact .inr hn) (fun n hn k hk => by
    rcases hn with rfl | rfl
    ·rw [r1] at hk; simp at hk; exact .inr hk
    ·rw [r2] at hk; simp at hk; exact .inl hk) h
   omega
 unfold MS.begin
 rw [hE, if_neg (by simp), hn, hu]
 simp [t1, t2, t3, m1, m2, m3]
 rfl
theorem k10 : (kB [kO1 2, kO2 [1], kO3] 11).make 2 [1] [8] = (4, 0, kOn 14) := by decide +kernel
theorem k11 (x : Int) : (kOn x).ends = kEnd x := by
 have e : (kOn x).objs = (kOn 0).objs := rfl
 have r1 : (kOn x).refsOf 1 = [2] := by rw [refsOf_objs e]; decide +kernel
 have r2 : (kOn x).refsOf 2 = [1] := by rw [refsOf_objs e]; decide +kernel
 have r4 : (kOn x).refsOf 4 = [] := by rw [refsOf_objs e]; decide +kernel
 have hst : (kOn x).stay = [1, 2, 4] := by show (kOn 0).stay = _; decide +kernel
 have m3 : (kOn x).met [1, 2, 4] 3 = false := by
  cases h : (kOn x).met [1, 2, 4] 3 with
  | false => rfl
  | true =>
   have := met_all (fun n => n = 1 ∨ n = 2 ∨ n = 4) (fun n hn _ => by simpa using hn) (fun n hn k hk => by
    rcases hn with rfl | rfl | rfl
    ·rw [r1] at hk; simp at hk; exact .inr (.inl hk)
    ·rw [r2] at hk; simp at hk; exact .inl hk
    ·rw [r4] at hk; simp at hk) h
   omega
 have he : (kOn x).endFree = [3] := by
  unfold MS.endFree
  rw [hst, show (kOn x).doomed = [3] from rfl]
  simp [m3]
 unfold MS.ends
 rw [he]
 rfl
theorem k12 (x : Int) : (kEnd x).count = 3 ∧ (kEnd x).there 3 = false ∧ (kEnd x).young 1 = false ∧ (kEnd x).young 4 = false ∧ (kEnd x).fetch 2 1 = (1, 0) := by
 refine ⟨rfl, rfl, rfl, rfl, rfl⟩
theorem litU {base : Nat} {W : World} {B : Nat} {n : Nat} {xs : List Nat} (hb : Blk W B (xs.map encU).toArray 5) (hl : xs.length = n) (hn : n ≤ 100) (hB : base ≤ B) : Sl encU W (.slice (some ⟨B, 0, none⟩) n n) xs :=
 (Own.lit (base := base) (sz := 1) hb (by simp [hl]) hB (by simp [maxLen]; omega)).sl (by omega)
theorem litI {base : Nat} {W : World} {B : Nat} {n : Nat} {xs : List Int} (hb : Blk W B (xs.map encI).toArray 3) (hl : xs.length = n) (hn : n ≤ 100) (hB : base ≤ B) : Own base 3 1 W (.slice (some ⟨B, 0, none⟩) n n) (xs.map encI) :=
 Own.lit (base := base) (sz := 1) hb (by simp [hl]) hB (by simp [maxLen]; omega)
end Go.L17
namespace Go.L17
open Go Go.Eng Go.RowKit
open Go.Proofs hiding encI
set_option maxRecDepth 100000
set_option maxHeartbeats 4000000
def okR (w : World) : Ending → World → Prop := fun e w' => e = .returned (.bool true) ∧ Ext w w'
theorem l_kept (w : World) : Calls Tryz.prog 11 #[] w (okR w) := by
 obtain ⟨R, hR⟩ : ∃ R, R = okR w := ⟨_, rfl⟩
 rw [← hR]
 refine ir11_calls fun ρ => ?_
 simp -implicitDefEqProofs [-wps_asg, -wps_eff, wa2, we2, ir11]
 refine (t_New (w := w) 64).mono ?_
 rintro _ W1 (⟨h1, _⟩ | ⟨_, Hb, M, rfl, hH1, hE1⟩)
 ·omega
 have lo : ∀ {β : Lay} {m c W}, HAt w.heap.size W Hb β m c → ∀ b, β.has b → w.heap.size ≤ b := fun h b ⟨r, hr⟩ => h.lo r b hr
 simp -implicitDefEqProofs [-wps_asg, -wps_eff, wa2, we2]
 refine eff_eqlNilP (p := some ⟨Hb, 0, none⟩) und25 (by simp [ptr]) ?_
 simp -implicitDefEqProofs [-wps_asg, -wps_eff, wa2, we2, ir11_k6]
 refine eff_lit si34 (by decide) (by decide) (by simp [Value.cells]) fun B1 W2 hB1 hE2 hb1 _ => ?_
 simp -implicitDefEqProofs [-wps_asg, -wps_eff, wa2, we2]
 refine eff_lit si35 (by decide) (by decide) (by simp [Value.cells]) fun B2 W3 hB2 hE3 hb2 _ => ?_
 have hks : Sl encU W2 (.slice (some ⟨B1, 0, none⟩) 2 2) [1, 2] := litU (base := 0) (by simpa [Value.cells, encU] using hb1) rfl (by omega) (by omega)
 have hvs : Sl encI W3 (.slice (some ⟨B2, 0, none⟩) 2 2) [5, 0] := (litI (base := 0) (n := 2) (xs := [5, 0]) (by simpa [Value.cells, encI] using hb2) rfl (by omega) (by omega)).sl (by simp)
 have hH3 := (hH1.ext hE2).ext hE3
 have z1 := hE1.size
 have z2 := hE2.size
 have z3 := hE3.size
 simp -implicitDefEqProofs [-wps_asg, -wps_eff, wa2, we2]
 refine (t_Make hH3 (by omega) (by simp [newMS]) (hks.ext hE3) hvs (tag := 0)).mono ?_
 rintro _ W4 ⟨rfl, β4, h4, hT4⟩
 rw [k1] at h4
 have hE4 : Ext w W4 := hT4.1.ext ((hE1.trans' hE2).trans' hE3) (lo hH3)
 have z4 := hE4.size
 simp -implicitDefEqProofs [-wps_asg, -wps_eff, wa2, we2, k1]
 refine (t_Array h4 (by omega) (by simp [kM]) 2).mono ?_
 rintro _ W5 ⟨rfl, β5, h5, hT5⟩
 rw [k2] at h5
 have hE5 : Ext w W5 := hT5.1.ext hE4 (lo h4)
 have z5 := hE5.size
 simp -implicitDefEqProofs [-wps_asg, -wps_eff, wa2, we2, k2]
 refine (t_Addh h5 (by omega) 2 1).mono ?_
 rintro _ W6 ⟨rfl, β6, c6, h6, hT6⟩
 rw [k3] at h6
 have hE6 : Ext w W6 := hT6.1.ext hE5 (lo h5)
 have z6 := hE6.size
 simp -implicitDefEqProofs [-wps_asg, -wps_eff, wa2, we2, k3]
 refine (t_Used h6).mono ?_
 rintro _ _ ⟨rfl, rfl⟩
 simp -implicitDefEqProofs [-wps_asg, -wps_eff, wa2, we2, k4]
 refine (t_Set h6 (by omega) 1 1 2).mono ?_
 rintro _ W7 ⟨rfl, β7, c7, h7, hT7⟩
 rw [k5] at h7
 have hE7 : Ext w W7 := hT7.1.ext hE6 (lo h6)
 have z7 := hE7.size
 simp -implicitDefEqProofs [-wps_asg, -wps_eff, wa2, we2, k5]
 refine (t_Set h7 (by omega) 1 1 3).mono ?_
 rintro _ W8 ⟨rfl, β8, c8, h8, hT8⟩
 rw [k6] at h8
 have hE8 : Ext w W8 := hT8.1.ext hE7 (lo h7)
 have z8 := hE8.size
 simp -implicitDefEqProofs [-wps_asg, -wps_eff, wa2, we2, k6]
 refine (t_Set h8 (by omega) 1 2 0).mono ?_
 rintro _ W9 ⟨rfl, β9, c9, h9, hT9⟩
 rw [k7] at h9
 have hE9 : Ext w W9 := hT9.1.ext hE8 (lo h8)
 have z9 := hE9.size
 simp -implicitDefEqProofs [-wps_asg, -wps_eff, wa2, we2, k7, ir11_k5]
 refine eff_lit si34 (by decide) (by decide) (by simp [Value.cells]) fun B3 Wa hB3 hEa hb3 _ => ?_
 simp -implicitDefEqProofs [-wps_asg, -wps_eff, wa2, we2]
 refine eff_lit si35 (by decide) (by decide) (by simp [Value.cells]) fun B4 Wb hB4 hEb hb4 _ => ?_
 have hks2 : Sl encU Wa (.slice (some ⟨B3, 0, none⟩) 1 1) [1] := litU (base := 0) (by simpa [Value.cells, encU] using hb3) rfl (by omega) (by omega)
 have hvs2 : Sl encI Wb (.slice (some ⟨B4, 0, none⟩) 1 1) [7] := (litI (base := 0) (n := 1) (xs := [7]) (by simpa [Value.cells, encI] using hb4) rfl (by omega) (by omega)).sl (by simp)
 have hHb := (h9.ext hEa).ext hEb
 have hEwb := (hE9.trans' hEa).trans' hEb
 have zb := hEwb.size
 simp -implicitDefEqProofs [-wps_asg, -wps_eff, wa2, we2]
 refine (t_Make hHb (by omega) (by simp [kM]) (hks2.ext hEb) hvs2 (tag := 1)).mono ?_
 rintro _ Wc ⟨rfl, βc, hc, hTc⟩
 rw [k8] at hc
 have hEc : Ext w Wc := hTc.1.ext hEwb (lo hHb)
 have zc := hEc.size
 simp -implicitDefEqProofs [-wps_asg, -wps_eff, wa2, we2, k8]
 refine eff_lit si35 (by decide) (by decide) (by simp [Value.cells]) fun B5 Wd hB5 hEd hb5 _ => ?_
 have hrs : Own Wc.heap.size 3 1 Wd (.slice (some ⟨B5, 0, none⟩) 1 1) (([2] : List Int).map encI) := litI (by simpa [Value.cells, encI] using hb5) rfl (by omega) hB5
 have hHd := hc.ext hEd
 have hEwd := hEc.trans' hEd
 have zd := hEwd.size
 simp -implicitDefEqProofs [-wps_asg, -wps_eff, wa2, we2]
 refine (t_Begin hHd (by omega) hrs (by simp) (fun b hb ⟨r, hr⟩ => by have := hc.hi r b hr; have := (Own.blk hrs b hb).1; omega)).mono ?_
 rintro _ We ⟨rfl, βe, ce, he, hTe⟩
 rw [k9] at he
 have hEe : Ext w We := hTe.1.ext hEwd (lo hHd)
 simp -implicitDefEqProofs [-wps_asg, -wps_eff, wa2, we2, k9, ir11_k4]
 refine eff_lit si34 (by decide) (by decide) (by simp [Value.cells]) fun B6 Wf hB6 hEf hb6 _ => ?_
 simp -implicitDefEqProofs [-wps_asg, -wps_eff, wa2, we2]
 refine eff_lit si35 (by decide) (by decide) (by simp [Value.cells]) fun B7 Wg hB7 hEg hb7 _ => ?_
 have hks3 : Sl encU Wf (.slice (some ⟨B6, 0, none⟩) 1 1) [1] := litU (base := 0) (by simpa [Value.cells, encU] using hb6) rfl (by omega) (by omega)
 have hvs3 : Sl encI Wg (.slice (some ⟨B7, 0, none⟩) 1 1) [8] := (litI (base := 0) (n := 1) (xs := [8]) (by simpa [Value.cells, encI] using hb7) rfl (by omega) (by omega)).sl (by simp)
 have hHg := (he.ext hEf).ext hEg
 have hEwg := (hEe.trans' hEf).trans' hEg
 have zg := hEwg.size
 simp -implicitDefEqProofs [-wps_asg, -wps_eff, wa2, we2]
 refine (t_Make hHg (by omega) (by simp [kB]) (hks3.ext hEg) hvs3 (tag := 2)).mono ?_
 rintro _ Wh' ⟨rfl, βh, hh, hTh⟩
 rw [k10] at hh
 have hEh : Ext w Wh' := hTh.1.ext hEwg (lo hHg)
 simp -implicitDefEqProofs [-wps_asg, -wps_eff, wa2, we2, k10]
 obtain ⟨I, hI⟩ : ∃ I : Nat → Env → World → Prop, ∀ n ρ' W, I n ρ' W ↔ (ρ' 1 = ptr Hb ∧ ρ' 9 = .int .i64 4 ∧ ρ' 10 = .int .i64 0 ∧ Ext w W ∧ ∃ k : Nat, ρ' 11 = .int .i64 (k : Int) ∧ k ≤ 14 ∧ ((n = 0 ∧ ∃ x β c, HAt w.heap.size W Hb β (kEnd x) c) ∨ (n = 15 - k ∧ k ≤ 13 ∧ ∃ β c, HAt w.heap.size W Hb β (kOn (14 - k)) c))) := ⟨_, fun _ _ _ => Iff.rfl⟩
 refine loopN I 15 ((hI _ _ _).2 ⟨by simp [ptr], by rfl, by rfl, hEh, 0, by simp, by omega, .inr ⟨by omega, by omega, βh, _, by simpa using hh⟩⟩) ?_
 intro n ρ' W hi
 obtain ⟨s1, s9, s10, hE, k, s11, hk, hst⟩ := (hI _ _ _).1 hi
 have z := hE.size
 rcases hst with ⟨rfl, x, β, c, hH⟩ | ⟨rfl, hk13, β, c, hH⟩
 ·obtain ⟨e1, e2, e3, e4, e5⟩ := k12 x
  have hoff : (kEnd x).on = false := rfl
  simp -implicitDefEqProofs [-wps_asg, -wps_eff, wa2, we2, ir11_l2, s1]
  refine (t_On hH).mono ?_
  rintro _ _ ⟨rfl, rfl⟩
  simp -implicitDefEqProofs [-wps_asg, -wps_eff, wa2, we2, hoff, ir11_k3, s1]
  refine (t_Fetch hH 2 1).mono ?_
  rintro _ _ ⟨rfl, rfl⟩
  simp -implicitDefEqProofs [-wps_asg, -wps_eff, wa2, we2, e5, s9, s10, s1]
  refine (t_Count hH).mono ?_
  rintro _ _ ⟨rfl, rfl⟩
  simp -implicitDefEqProofs [-wps_asg, -wps_eff, wa2, we2, e1, s1]
  refine (t_There hH 3).mono ?_
  rintro _ _ ⟨rfl, rfl⟩
  simp -implicitDefEqProofs [-wps_asg, -wps_eff, wa2, we2, e2, s1]
  refine (t_Young hH 1).mono ?_
  rintro _ _ ⟨rfl, rfl⟩
  simp -implicitDefEqProofs [-wps_asg, -wps_eff, wa2, we2, e3, s1]
  refine (t_Young hH 4).mono ?_
  rintro _ _ ⟨rfl, rfl⟩
  simp -implicitDefEqProofs [-wps_asg, -wps_eff, wa2, we2, e4]
  rw [hR]
  exact ⟨rfl, hE⟩
 ·have hon : (kOn (14 - k)).on = true := rfl
  have hk50 : (k : Int) < 50 := by omega
  have hk50' : k < 50 := by omega
  simp -implicitDefEqProofs [-wps_asg, -wps_eff, wa2, we2, ir11_l2, s1]
  refine (t_On hH).mono ?_
  rintro _ _ ⟨rfl, rfl⟩
  simp -implicitDefEqProofs [-wps_asg, -wps_eff, wa2, we2, hon, s11, hk50, hk50', ir11_k1, s1]
  refine (t_Step hH (by omega) 1 (by simp [kOn, kB])).mono ?_
  rintro _ W2' (⟨hno, _⟩ | ⟨_, done, rfl, hd, β2, c2, h2, hT2⟩)
  ·exact absurd rfl hno
  have hE2' : Ext w W2' := hT2.1.ext hE (lo hH)
  have hwk : IntKind.i64.wrap ((k : Int) + 1) = (k : Int) + 1 := i64w (by omega)
  cases done with
  | true =>
   have hen : ((kOn (14 - k)).stepped 1 true).2 = kEnd (14 - k) := k11 _
   rw [hen] at h2
   simp -implicitDefEqProofs [-wps_asg, -wps_eff, wa2, we2, ir11_k0, s11, hwk]
   refine ⟨0, by omega, (hI _ _ _).2 ⟨by simp [s1], by simp [s9], by simp [s10], hE2', k + 1, by simp, by omega, .inl ⟨rfl, _, β2, c2, h2⟩⟩⟩
  | false =>
   have hd' : (0 : Int) < 14 - k - 1 := by simpa [MS.stepped, kOn, kB] using hd
   have hen : ((kOn (14 - k)).stepped 1 false).2 = kOn (14 - ((k + 1 : Nat) : Int)) := by
    show kOn (14 - k - 1) = _
    congr 1; omega
   rw [hen] at h2
   simp -implicitDefEqProofs [-wps_asg, -wps_eff, wa2, we2, ir11_k0, s11, hwk]
   refine ⟨15 - (k + 1), by omega, (hI _ _ _).2 ⟨by simp [s1], by simp [s9], by simp [s10], hE2', k + 1, by simp, by omega, .inr ⟨rfl, by omega, β2, c2, h2⟩⟩⟩
end Go.L17
namespace Go.L17
open Go Go.Eng Go.RowKit
open Go.Proofs hiding encI
set_option maxRecDepth 100000
set_option maxHeartbeats 4000000
section
variable {m : MS} {roots : List Int} {x : Int}
theorem nums_len {a b : MS} (h : a.objs.length = b.objs.length) : a.nums = b.nums := by unfold MS.nums; rw [h]
end
def someL (m : MS) (l : List Int) : List Int := (refsL l m.objs.length).filter fun n => !(decide (n ≠ 0) && !m.there n)
theorem some_len (m : MS) (l : List Int) : (someL m l).length ≤ l.length := by
 have := List.length_filter_le (fun n => !(decide (n ≠ 0) && !m.there n)) (refsL l m.objs.length)
 rw [refsL_len] at this
 exact this
theorem some_rootE {m : MS} {l : List Int} (hl : l.length ≤ 10) : m.rootE (someL m l) = 0 := by
 unfold MS.rootE
 rw [if_neg (by have := some_len m l; omega), if_neg]
 simp only [List.any_eq_true, Bool.and_eq_true, decide_eq_true_eq, Bool.not_eq_true', not_exists, not_and, Bool.not_eq_false]
 intro r hr h0
 have := (List.mem_filter.1 hr).2
 simpa [h0] using this
end Go.L17
namespace Go.L17
open Go Go.Eng Go.RowKit
open Go.Proofs hiding encI
set_option maxRecDepth 100000
set_option maxHeartbeats 4000000
@[simp] theorem cb52 : callB Tryz.prog 52 = true := by kernel_rfl
@[simp] theorem cb113 : callB Tryz.prog 113 = true := by kernel_rfl
theorem cb19 : callB Tryz.prog 19 = true := by kernel_rfl
theorem cb51 : callB Tryz.prog 51 = true := by kernel_rfl
theorem cb53 : callB Tryz.prog 53 = true := by kernel_rfl
theorem t_Contains {w : World} {v : Value} {l : List Int} (hl : Sl encI w v l) (n : Int) : Calls Tryz.prog 52 #[v, .int .i64 n] w fun e w' => e = .returned (.bool (decide (n ∈ l))) ∧ w' = w := by
 have hbd := hl.bd
 obtain ⟨R0, hR0⟩ : ∃ R : Ending → World → Prop, R = fun e w' => (∃ r : Int, e = .returned (.int .i64 r) ∧ decide (0 ≤ r) = decide (n ∈ l)) ∧ w' = w := ⟨_, rfl⟩
 have hix : Calls Tryz.prog 113 #[v, .int .i64 n] w R0 := by
  refine ir113_calls fun ρ h0 h1 => ?_
  simp -implicitDefEqProofs [-wps_asg, -wps_eff, wa2, we2, ir113, h0, hl.is, hl.len]
  obtain ⟨I, hI⟩ : ∃ I : Nat → Env → World → Prop, ∀ k ρ' W, I k ρ' W ↔ (W = w ∧ ρ' 0 = v ∧ ρ' 1 = .int .i64 n ∧ ρ' 7 = .int .i64 l.length ∧ ∀ j (hj : j < l.length), j < k → ¬ n = l[j]) := ⟨_, fun _ _ _ => Iff.rfl⟩
  refine loopC 8 l.length I (by simp) ((hI _ _ _).2 ⟨rfl, by simp [h0], by simp [h1], by simp, fun j _ hj => by omega⟩) ?_
  intro k ρ' W hk h8 hi
  obtain ⟨rfl, h0, h1, h7, hall⟩ := (hI _ _ _).1 hi
  by_cases hlt : k < l.length
  ·have hc := hl.cell k hlt
   by_cases he : n = l[k]
   ·simp -implicitDefEqProofs [-wps_asg, -wps_eff, wa2, we2, ir113_l2, ir113_k1, h8, h7, hlt, h0, h1, hl.is, hl.len, hc, encI, he]
    rw [hR0]
    refine ⟨⟨k, rfl, ?_⟩, rfl⟩
    have : n ∈ l := by rw [he]; exact List.getElem_mem hlt
    simp [this]
   ·simp -implicitDefEqProofs [-wps_asg, -wps_eff, wa2, we2, ir113_l2, ir113_k1, h8, h7, hlt, h0, h1, hl.is, hl.len, hc, encI, he, ir113_k0, i64w (n := (k : Int) + 1) (by omega)]
    refine (hI _ _ _).2 ⟨rfl, by simp [h0], by simp [h1], by simp [h7], fun j hj hjk => ?_⟩
    by_cases e : j = k
    ·subst e; exact he
    ·exact hall j hj (by omega)
  ·have hke : k = l.length := by omega
   subst hke
   simp -implicitDefEqProofs [-wps_asg, -wps_eff, wa2, we2, ir113_l2, h8, h7, ir113_k3]
   rw [hR0]
   refine ⟨⟨-1, rfl, ?_⟩, rfl⟩
   have : ¬ n ∈ l := fun hm => by
    obtain ⟨j, hj, e⟩ := List.getElem_of_mem hm
    exact hall j hj hj e.symm
   simp [this]
 refine ir52_calls fun ρ h0 h1 => ?_
 simp -implicitDefEqProofs [-wps_asg, -wps_eff, wa2, we2, ir52, h0, h1]
 refine hix.mono ?_
 rw [hR0]
 rintro _ _ ⟨⟨r, rfl, hr⟩, rfl⟩
 simp -implicitDefEqProofs [-wps_asg, -wps_eff, wa2, we2]
 by_cases h : n ∈ l
 ·simp [h] at hr ⊢; exact hr
 ·simp [h] at hr ⊢; omega
section
variable {base Hb Rb : Nat} {β : Lay} {m : MS} {c : Option Wh} {w : World}
def goneB (m : MS) (n : Int) : Bool := decide (n ≠ 0) && !m.there n
theorem t_gone53 (h : HAt base w Hb β m c) {Bp : Nat} (hb : Blk w Bp #[ptr Hb, ptr Rb] 31) (n : Int) : Calls Tryz.prog 53 #[.int .i64 n, ptr Bp] w fun e w' => e = .returned (.bool (goneB m n)) ∧ w' = w := by
 have hc := hb.cell
 rw [ptr, ptr] at hc
 refine ir53_calls fun ρ r0 r1 => ?_
 by_cases h0 : n = 0
 ·simp -implicitDefEqProofs [-wps_asg, -wps_eff, wa2, we2, ir53, r0, r1, ptr, hc, h0, goneB]
 ·have h1 : (n != 0) = true := by simpa using h0
  simp -implicitDefEqProofs [-wps_asg, -wps_eff, wa2, we2, ir53, r0, r1, ptr, hc, h0, h1, goneB]
  refine (t_There h n).mono ?_
  rintro _ _ ⟨rfl, rfl⟩
  simp -implicitDefEqProofs [-wps_asg, -wps_eff, wa2, we2]
theorem t_gone51 (h : HAt base w Hb β m c) {Bp : Nat} (hb : Blk w Bp #[ptr Hb, ptr Rb] 31) (n : Int) : Calls Tryz.prog 51 #[.int .i64 n, ptr Bp] w fun e w' => e = .returned (.bool (goneB m n)) ∧ w' = w := by
 have hc := hb.cell
 rw [ptr, ptr] at hc
 refine ir51_calls fun ρ r0 r1 => ?_
 by_cases h0 : n = 0
 ·simp -implicitDefEqProofs [-wps_asg, -wps_eff, wa2, we2, ir51, r0, r1, ptr, hc, h0, goneB]
 ·have h1 : (n != 0) = true := by simpa using h0
  simp -implicitDefEqProofs [-wps_asg, -wps_eff, wa2, we2, ir51, r0, r1, ptr, hc, h0, h1, goneB]
  refine (t_There h n).mono ?_
  rintro _ _ ⟨rfl, rfl⟩
  simp -implicitDefEqProofs [-wps_asg, -wps_eff, wa2, we2]
theorem t_gone19 (h : HAt base w Hb β m c) {Bp : Nat} (hb : Blk w Bp #[ptr Hb, ptr Rb] 31) (n : Int) : Calls Tryz.prog 19 #[.int .i64 n, ptr Bp] w fun e w' => e = .returned (.bool (goneB m n)) ∧ w' = w := by
 have hc := hb.cell
 rw [ptr, ptr] at hc
 refine ir19_calls fun ρ r0 r1 => ?_
 by_cases h0 : n = 0
 ·simp -implicitDefEqProofs [-wps_asg, -wps_eff, wa2, we2, ir19, r0, r1, ptr, hc, h0, goneB]
 ·have h1 : (n != 0) = true := by simpa using h0
  simp -implicitDefEqProofs [-wps_asg, -wps_eff, wa2, we2, ir19, r0, r1, ptr, hc, h0, h1, goneB]
  refine (t_There h n).mono ?_
  rintro _ _ ⟨rfl, rfl⟩
  simp -implicitDefEqProofs [-wps_asg, -wps_eff, wa2, we2]
theorem t_some {γ : Lay} {k : Nat} (j : Joint base w Hb Rb β γ k m c) {Bp : Nat} (hb : Blk w Bp #[ptr Hb, ptr Rb] 31) {v : Value} {l : List Int} {b0 : Nat} (hb0 : b0 ≤ w.heap.size) (hv : Own b0 3 1 w v ((refsL l m.objs.length).map encI)) (hl : l.length ≤ 10) (hno : ∀ b, v.ownBlock = some b → ¬ β.has b ∧ ¬ γ.has b ∧ b ≠ Bp) {gf : FuncId} (hgf : gf = 53 ∨ gf = 51 ∨ gf = 19) :
  Calls Tryz.prog 17 #[v, .func (.func gf) #[] #[ptr Bp]] w fun e w' => ∃ x, e = .returned x ∧ Own b0 3 1 w' x ((someL m l).map encI) ∧ x.ownBlock = v.ownBlock ∧ Joint base w' Hb Rb β γ k m c ∧ Blk w' Bp #[ptr Hb, ptr Rb] 31 ∧ DelF v w w' := by
 have key : ∀ W, DelF v w W → Joint base W Hb Rb β γ k m c ∧ Blk W Bp #[ptr Hb, ptr Rb] 31 := by
  rintro W (rfl | ⟨b, hvb, hO⟩)
  ·exact ⟨j, hb⟩
  ·obtain ⟨n1, n2, n3⟩ := hno b hvb
   have z := hO.size
   exact ⟨⟨j.h.keep fun r x hr => hO.block x fun e => n1 ⟨r, e ▸ hr⟩, j.r.keep fun r x hr => hO.block x fun e => n2 ⟨r, e ▸ hr⟩, j.dis, j.mb, by have := j.bw; omega⟩, Blk.keep hb (hO.block Bp fun e => n3 e.symm)⟩
 refine (t_Delete (p := goneB m) hv (by rw [refsL_len]; omega) (by rcases hgf with rfl | rfl | rfl; exact cb53; exact cb51; exact cb19) fun x _ W hW => ?_).mono ?_
 ·obtain ⟨jW, hbW⟩ := key W hW
  rcases hgf with rfl | rfl | rfl
  ·exact t_gone53 jW.h hbW x
  ·exact t_gone51 jW.h hbW x
  ·exact t_gone19 jW.h hbW x
 ·rintro _ W ⟨x, rfl, h1, h2, h3⟩
  obtain ⟨jW, hbW⟩ := key W h3
  exact ⟨x, rfl, h2, h1, jW, hbW, h3⟩
theorem DelF.ext {w0 w w' : World} {v : Value} (hE : Ext w0 w) (h : DelF v w w') (hv : ∀ b, v.ownBlock = some b → w0.heap.size ≤ b) : Ext w0 w' := by
 rcases h with rfl | ⟨b, hb, hO⟩
 ·exact hE
 ·exact hO.ext hE (hv b hb)
end
section
variable {m : MS} {roots : List Int}
theorem minor_is (hE : m.minorE roots = 0) : (m.minor roots).2.2 = (m.aged).frees (m.minorFree roots) ∧ (m.minor roots).2.1 = 0 ∧ (m.minor roots).1 = (m.minorFree roots).length := by
 unfold MS.minor; rw [if_neg (by simp [hE])]; exact ⟨rfl, rfl, rfl⟩
theorem aged_len : m.aged.objs.length = m.objs.length := by rw [aged_eq, mapO_len]
theorem minor_there (hE : m.minorE roots = 0) (n : Int) : (m.minor roots).2.2.there n = (m.there n && m.met (roots ++ m.olds) n) := by
 rw [(minor_is hE).1, frees_there, aged_eq, mapO_there (fun o => by split <;> rfl)]
 cases ht : m.there n with
 | false => simp
 | true =>
  unfold MS.minorFree
  have := mem_nums.2 (there_le ht)
  cases hm : m.met (roots ++ m.olds) n <;> simp [List.mem_filter, hm, ht, this]
theorem minor_len (hE : m.minorE roots = 0) : (m.minor roots).2.2.objs.length = m.objs.length := by rw [(minor_is hE).1, frees_len, aged_len]
theorem minor_at (hE : m.minorE roots = 0) {n : Int} (h : (m.minor roots).2.2.there n = true) : (m.minor roots).2.2.at n = (m.at n).older := by
 have hn := there_le h
 rw [minor_len hE] at hn
 have h2 := h
 rw [(minor_is hE).1, frees_there] at h2
 have ht := h
 rw [minor_there hE] at ht
 simp only [Bool.and_eq_true, Bool.not_eq_true', decide_eq_false_iff_not] at h2 ht
 have hat : (m.at n).there = true := by
  have := ht.1
  unfold MS.there at this
  simp only [Bool.and_eq_true] at this
  exact this.2
 rw [(minor_is hE).1, frees_at hn.1 (by rw [aged_len]; exact hn.2), if_neg h2.2, aged_eq, mapO_at hn.1 hn.2, if_pos hat]
theorem filter_split {α : Type} (p q : α → Bool) (l : List α) : (l.filter fun x => p x && q x).length + (l.filter fun x => p x && !q x).length = (l.filter p).length := by
 induction l with
 | nil => rfl
 | cons a l ih =>
  simp only [List.filter_cons]
  cases p a <;> cases q a <;> simp at ih ⊢ <;> omega
theorem minor_count (hE : m.minorE roots = 0) : (m.minor roots).1 = (m.thereL.length : Int) - ((m.minor roots).2.2.thereL.length : Int) := by
 rw [(minor_is hE).2.2]
 have h1 : (m.minor roots).2.2.thereL = m.nums.filter fun n => m.there n && m.met (roots ++ m.olds) n := by
  unfold MS.thereL
  rw [nums_len (minor_len hE)]
  exact List.filter_congr fun n _ => minor_there hE n
 rw [h1]
 have := filter_split m.there (fun n => m.met (roots ++ m.olds) n) m.nums
 unfold MS.minorFree MS.thereL
 omega
theorem minor_mem_old (hE : m.minorE roots = 0) {n : Int} (h : n ∈ m.thereL.filter fun n => !m.young n) : n ∈ (m.minor roots).2.2.thereL := by
 obtain ⟨h1, h2⟩ := List.mem_filter.1 h
 rw [mem_thereL] at h1 ⊢
 rw [minor_there hE, h1, Bool.true_and]
 have hb := there_le h1
 refine met_root (List.mem_append_right _ ?_) (by omega)
 unfold MS.olds
 exact List.mem_filter.2 ⟨mem_nums.2 hb, by rw [h1]; simpa using h2⟩
theorem met_mono {a b : List Int} (h : ∀ n ∈ a, n ≠ 0 → n ∈ b) {n : Int} (hm : m.met a n = true) : m.met b n = true := met_iff.2 (reach_mono h (met_iff.1 hm))
theorem minor_root (hE : m.minorE roots = 0) : m.on = false ∧ m.rootE roots = 0 := by
 unfold MS.minorE at hE
 split at hE
 ·cases hE
 ·rename_i h
  exact ⟨by simpa using h, hE⟩
theorem minor_mem_want (hw : m.wf) (hE : m.minorE roots = 0) {n : Int} (h : n ∈ (m.reached roots).1) : n ∈ (m.minor roots).2.2.thereL := by
 have hR := (minor_root hE).2
 unfold MS.reached at h
 rw [if_neg (by simp [hR])] at h
 have hm := (List.mem_filter.1 h).2
 rw [mem_thereL, minor_there hE, reach_there hw (roots_there hR) hm, Bool.true_and]
 exact met_mono (fun k hk _ => List.mem_append_left _ hk) hm
theorem minor_more (hw : m.wf) (hE : m.minorE roots = 0) : (m.minor roots).2.2.minorE roots = 0 := by
 obtain ⟨hon, hR⟩ := minor_root hE
 have hon2 : (m.minor roots).2.2.on = false := by rw [(minor_is hE).1]; exact hon
 unfold MS.minorE
 rw [hon2, if_neg (by simp)]
 have hlen : ¬ 10000 < roots.length := by
  unfold MS.rootE at hR
  split at hR
  ·cases hR
  ·assumption
 unfold MS.rootE
 rw [if_neg hlen, if_neg]
 simp only [List.any_eq_true, Bool.and_eq_true, decide_eq_true_eq, Bool.not_eq_true', not_exists, not_and, Bool.not_eq_false]
 intro r hr h0
 rw [minor_there hE, roots_there hR r hr h0, Bool.true_and]
 exact met_root (List.mem_append_left _ hr) h0
theorem minor_toldL (hE : m.minorE roots = 0) : (m.minor roots).2.2.told.length ≤ m.told.length + m.objs.length := by
 rw [(minor_is hE).1]
 show (m.told ++ _).length ≤ _
 rw [List.length_append]
 have h1 := List.length_filter_le (fun n => ((m.aged).at n).watched) (m.minorFree roots)
 have h2 : (m.minorFree roots).length ≤ m.objs.length := by
  unfold MS.minorFree
  refine Nat.le_trans (List.length_filter_le _ _) ?_
  rw [nums_upto, upto_len]; exact Nat.le_refl _
 omega
end
end Go.L17
namespace Go.L17
open Go Go.Eng Go.RowKit
open Go.Proofs hiding encI
set_option maxRecDepth 100000
set_option maxHeartbeats 4000000
def Keep (l : List Nat) (ρ ρ2 : Env) : Prop := ∀ s ∈ l, ρ2 s = ρ s
theorem Keep.refl (l : List Nat) (ρ : Env) : Keep l ρ ρ := fun _ _ => rfl
theorem Keep.upd {l : List Nat} {ρ ρ2 : Env} {x : Nat} {v : Value} (h : Keep l ρ ρ2) (hx : x ∉ l) : Keep l ρ (upd ρ2 x v) := fun s hs => by
 have : s ≠ x := fun e => hx (e ▸ hs)
 simp [this]
 exact h s hs
section
variable {base Hb Rb B7 : Nat} {β : Lay} {m : MS} {c : Option Wh} {w0 W : World} {K : Env → World → Prop} {Q : Ks} {ρ : Env}
theorem law8_olds {bv : Value} {bl : List Int} {bs : Nat} (h : HAt base W Hb β m c) (hb7 : Blk W B7 #[ptr Hb, ptr Rb] 31) (hbl : Own bs 3 1 W bv (bl.map encI)) (hlen : bl.length ≤ 1000000) (s7 : ρ 7 = .pointer (some ⟨B7, 0, none⟩)) (s63 : ρ 63 = bv) (s64 : ρ 64 = .int .i64 bl.length) (s65 : ρ 65 = .int .i64 0) (s14 : ρ 14 = .slice none 0 0)
  (hK : ∀ ρ2 W2 ov, Keep [7, 9, 10, 11, 12, 13, 50] ρ ρ2 → ρ2 14 = ov → Own W.heap.size 3 1 W2 ov ((bl.filter fun n => !m.young n).map encI) → Ext W W2 → K ρ2 W2) : (IR.block 2 (.loop ir8_l2)).wp ⟨Tryz.prog, 131, ir8_V, []⟩ K Q ρ W := by
 obtain ⟨I, hI⟩ : ∃ I : Nat → Env → World → Prop, ∀ k ρ' W', I k ρ' W' ↔ (Keep [7, 9, 10, 11, 12, 13, 50] ρ ρ' ∧ ρ' 63 = bv ∧ ρ' 64 = .int .i64 bl.length ∧ Ext W W' ∧ ∃ lv, ρ' 14 = lv ∧ Own W.heap.size 3 1 W' lv (((bl.take k).filter fun n => !m.young n).map encI)) := ⟨_, fun _ _ _ => Iff.rfl⟩
 rw [wpi_block]
 refine loopC 65 bl.length I s65 ((hI _ _ _).2 ⟨Keep.refl _ _, s63, s64, ext_refl _, _, s14, by simpa using Own.nil _ _ _ _⟩) ?_
 intro k ρ' W' hk h65 hi
 obtain ⟨hkp, u63, u64, hE, lv, u14, hlv⟩ := (hI _ _ _).1 hi
 have u7 : ρ' 7 = .pointer (some ⟨B7, 0, none⟩) := (hkp 7 (by simp)).trans s7
 have hblW := hbl.ext hE
 have hsl := hblW.sl (enc := encI) (by omega)
 have hc7 := (hb7.ext hE).cell
 rw [ptr, ptr] at hc7
 have hwk : IntKind.i64.wrap ((k : Int) + 1) = (k : Int) + 1 := i64w (by omega)
 by_cases hlt : k < bl.length
 rotate_left
 ·have hke : k = bl.length := by omega
  subst hke
  rw [List.take_length] at hlv
  simp -implicitDefEqProofs [-wps_asg, -wps_eff, wa2, we2, ir8_l2, h65, u64]
  exact hK _ _ lv (hkp.upd (by decide)) (by simp [u14]) hlv hE
 have hc := hsl.cell k hlt
 have htk : bl.take (k + 1) = bl.take k ++ [bl[k]] := by rw [List.take_add_one, List.getElem?_eq_getElem hlt]; rfl
 simp -implicitDefEqProofs [-wps_asg, -wps_eff, wa2, we2, ir8_l2, h65, u64, hlt, ir8_k1, u63, hsl.is, hsl.len, hc, encI, u7, hc7]
 refine (t_Young (h.ext hE) bl[k]).mono ?_
 rintro _ _ ⟨rfl, rfl⟩
 cases hy : m.young bl[k] with
 | true =>
  simp -implicitDefEqProofs [-wps_asg, -wps_eff, wa2, we2, ir8_k0, h65, hwk]
  refine (hI _ _ _).2 ⟨?_, by simp [u63], by simp [u64], hE, lv, by simp [u14], by rw [htk, List.filter_append]; simpa [hy] using hlv⟩
  repeat (refine Keep.upd ?_ (by decide))
  exact hkp
 | false =>
  simp -implicitDefEqProofs [-wps_asg, -wps_eff, wa2, we2, u14]
  refine eff_lit si35 (by decide) (by decide) (by simp [Value.cells]) fun Bx Wx hBx hEx hbx _ => ?_
  simp [Value.cells] at hbx
  have z := hE.size
  simp -implicitDefEqProofs [-wps_asg, -wps_eff, wa2, we2]
  refine eff_push1 (B := Bx) (n := bl[k]) (hE.trans' hEx) (hlv.ext hEx) (by
   have h1 := List.length_filter_le (fun n => !m.young n) (bl.take k)
   rw [List.length_take] at h1; omega) (by simp) (by simp) hbx (by omega) fun lv3 Wy hly hEy _ _ _ => ?_
  simp -implicitDefEqProofs [-wps_asg, -wps_eff, wa2, we2, ir8_k0, h65, hwk]
  refine (hI _ _ _).2 ⟨?_, by simp [u63], by simp [u64], hEy, lv3, by simp, by rw [htk, List.filter_append]; simpa [hy] using hly⟩
  repeat (refine Keep.upd ?_ (by decide))
  exact hkp
theorem law8_in {av xv : Value} {al xl : List Int} (hal : Sl encI W av al) (hxl : Sl encI W xv xl) (hin : ∀ n ∈ xl, n ∈ al) (s19 : ρ 19 = av) (s107 : ρ 107 = xv) (s108 : ρ 108 = .int .i64 xl.length) (s109 : ρ 109 = .int .i64 0)
  (hK : ∀ ρ2, Keep [7, 9, 10, 50] ρ ρ2 → K ρ2 W) : (IR.block 4 (.loop ir8_l5)).wp ⟨Tryz.prog, 131, ir8_V, []⟩ K Q ρ W := by
 have hbd := hxl.bd
 obtain ⟨I, hI⟩ : ∃ I : Nat → Env → World → Prop, ∀ k ρ' W', I k ρ' W' ↔ (Keep [7, 9, 10, 50] ρ ρ' ∧ ρ' 19 = av ∧ ρ' 107 = xv ∧ ρ' 108 = .int .i64 xl.length ∧ W' = W) := ⟨_, fun _ _ _ => Iff.rfl⟩
 rw [wpi_block]
 refine loopC 109 xl.length I s109 ((hI _ _ _).2 ⟨Keep.refl _ _, s19, s107, s108, rfl⟩) ?_
 intro k ρ' W' hk h109 hi
 obtain ⟨hkp, u19, u107, u108, rfl⟩ := (hI _ _ _).1 hi
 have hwk : IntKind.i64.wrap ((k : Int) + 1) = (k : Int) + 1 := i64w (by omega)
 by_cases hlt : k < xl.length
 rotate_left
 ·have hke : k = xl.length := by omega
  subst hke
  simp -implicitDefEqProofs [-wps_asg, -wps_eff, wa2, we2, ir8_l5, h109, u108]
  exact hK _ (hkp.upd (by decide))
 have hc := hxl.cell k hlt
 have hm := hin _ (List.getElem_mem hlt)
 simp -implicitDefEqProofs [-wps_asg, -wps_eff, wa2, we2, ir8_l5, h109, u108, hlt, ir8_k4, u107, hxl.is, hxl.len, hc, encI, u19]
 refine (t_Contains hal xl[k]).mono ?_
 rintro _ _ ⟨rfl, rfl⟩
 simp -implicitDefEqProofs [-wps_asg, -wps_eff, wa2, we2, hm, ir8_k3, h109, hwk]
 refine (hI _ _ _).2 ⟨?_, by simp [u19], by simp [u107], by simp [u108], rfl⟩
 repeat (refine Keep.upd ?_ (by decide))
 exact hkp
structure Rnd (w : World) (base bs Hb Rb B7 : Nat) (sv : Value) (S : List Int) (n0 i : Nat) (β : Lay) (m : MS) (c : Option Wh) (W : World) : Prop where
 h : HAt base W Hb β m c
 b7 : Blk W B7 #[ptr Hb, ptr Rb] 31
 n7 : ¬ β.has B7
 so : Own bs 3 1 W sv (S.map encI)
 ns : ∀ b, sv.ownBlock = some b → ¬ β.has b
 E : Ext w W
 lo : w.heap.size ≤ base
 bw : base ≤ W.heap.size
 ok : m.minorE S = 0
 len : m.objs.length = n0
 told : m.told.length ≤ 100000 + 100 * i
 age : ∀ n, m.there n = true → i ≤ (m.at n).age
theorem Rnd.ext {w : World} {bs n0 i : Nat} {sv : Value} {S : List Int} {W' : World} (r : Rnd w base bs Hb Rb B7 sv S n0 i β m c W) (hE : Ext W W') : Rnd w base bs Hb Rb B7 sv S n0 i β m c W' :=
 ⟨r.h.ext hE, r.b7.ext hE, r.n7, r.so.ext hE, r.ns, r.E.trans' hE, r.lo, Nat.le_trans r.bw hE.size, r.ok, r.len, r.told, r.age⟩
theorem Rnd.next {w : World} {bs n0 i : Nat} {sv : Value} {S : List Int} {W' : World} {β' : Lay} {c' : Option Wh} (r : Rnd w base bs Hb Rb B7 sv S n0 i β m c W) (hn : n0 ≤ 100) (h' : HAt base W' Hb β' (m.minor S).2.2 c') (hT : Turn β W β' W') : Rnd w base bs Hb Rb B7 sv S n0 (i + 1) β' (m.minor S).2.2 c' W' := by
 have z := hT.1.size
 refine ⟨h', Blk.keep r.b7 (hT.1.block B7 r.b7.lt r.n7), fun hh => ?_, Own.same' r.so fun b hb => hT.1.block b (Own.blk r.so b hb).2 (r.ns b hb), fun b hb hh => ?_, hT.1.ext r.E fun b ⟨x, hx⟩ => by have := r.h.lo x b hx; have := r.lo; omega, r.lo, by have := r.bw; omega, minor_more r.h.wf r.ok, by rw [minor_len r.ok]; exact r.len, ?_, fun n hn => ?_⟩
 ·have := r.b7.lt
  rcases hT.2 B7 hh with e | e
  ·exact r.n7 e
  ·omega
 ·have := (Own.blk r.so b hb).2
  rcases hT.2 b hh with e | e
  ·exact r.ns b hb e
  ·omega
 ·have := minor_toldL r.ok
  have := r.told
  have := r.len
  omega
 ·rw [minor_at r.ok hn]
  have ht := hn
  rw [minor_there r.ok] at ht
  simp only [Bool.and_eq_true] at ht
  have := r.age n ht.1
  show i + 1 ≤ (m.at n).age + 1
  omega
theorem Rnd.keepF {w : World} {bs n0 i : Nat} {sv : Value} {S : List Int} {W' : World} {X : Nat → Prop} (r : Rnd w base bs Hb Rb B7 sv S n0 i β m c W) (hF : Fr X W W') (hX : ∀ b, X b → ¬ β.has b ∧ b ≠ B7 ∧ sv.ownBlock ≠ some b ∧ w.heap.size ≤ b) : Rnd w base bs Hb Rb B7 sv S n0 i β m c W' :=
 ⟨r.h.keep fun q b hq => hF.block b (r.h.hi q b hq) fun hx => (hX b hx).1 ⟨q, hq⟩, Blk.keep r.b7 (hF.block B7 r.b7.lt fun hx => (hX _ hx).2.1 rfl), r.n7, Own.same' r.so fun b hb => hF.block b (Own.blk r.so b hb).2 fun hx => (hX b hx).2.2.1 hb, r.ns, hF.ext r.E fun b hb => (hX b hb).2.2.2, r.lo, Nat.le_trans r.bw hF.size, r.ok, r.len, r.told, r.age⟩
theorem thereL_le (m : MS) : m.thereL.length ≤ m.objs.length := by
 unfold MS.thereL
 refine Nat.le_trans (List.length_filter_le _ _) ?_
 rw [nums_upto, upto_len]; exact Nat.le_refl _
theorem law8_round {w : World} {bs n0 i : Nat} {sv : Value} {S : List Int} (hn0 : n0 ≤ 100) (hS : S.length ≤ 10) (hi3 : i < 3) (r : Rnd w base bs Hb Rb B7 sv S n0 i β m c W) (s7 : ρ 7 = .pointer (some ⟨B7, 0, none⟩)) (s9 : ρ 9 = .int .i64 n0) (s10 : ρ 10 = sv) (s50 : ρ 50 = .int .i64 i)
  (hK : ∀ ρ2 W2 β' m' c', ρ2 7 = ρ 7 → ρ2 9 = ρ 9 → ρ2 10 = ρ 10 → ρ2 50 = .int .i64 ((i : Int) + 1) → Rnd w base bs Hb Rb B7 sv S n0 (i + 1) β' m' c' W2 → K ρ2 W2) : ir8_k9.wp ⟨Tryz.prog, 131, ir8_V, []⟩ K Q ρ W := by
 have hc7 := r.b7.cell
 rw [ptr, ptr] at hc7
 have hR := (minor_root r.ok).2
 have hsl := r.so.sl (enc := encI) (by omega)
 have hwk : IntKind.i64.wrap ((i : Int) + 1) = (i : Int) + 1 := i64w (by omega)
 have hre : (m.reached S).2 = 0 := by unfold MS.reached; rw [if_neg (by simp [hR])]
 have hrl := reached_len (m := m) (roots := S)
 have hlen := r.len
 have htl := thereL_le m
 simp -implicitDefEqProofs [-wps_asg, -wps_eff, wa2, we2, ir8_k9, s7, hc7, s10]
 refine (t_Reached r.h hsl).mono ?_
 rintro _ W1 ⟨wv, rfl, hwv, hE1⟩
 have r1 := r.ext hE1
 have hc71 := r1.b7.cell
 rw [ptr, ptr] at hc71
 simp -implicitDefEqProofs [-wps_asg, -wps_eff, wa2, we2, s7, hc71, s9, hre]
 have hth := l_there r1.h (by omega)
 rw [hlen] at hth
 refine hth.mono ?_
 rintro _ W2 ⟨bv, rfl, hbv, hE2⟩
 have r2 := r1.ext hE2
 have hbs := hbv.sl (enc := encI) (by omega)
 have hE02 := hE1.trans' hE2
 simp -implicitDefEqProofs [-wps_asg, -wps_eff, wa2, we2, hbs.is, hbs.len]
 refine law8_olds (bl := m.thereL) r2.h r2.b7 hbv (by omega) (by simp [s7]) (by simp) (by simp) (by simp) (by simp) ?_
 intro ρ2 W3 ov hkp s14 hov hE3
 have u7 : ρ2 7 = .pointer (some ⟨B7, 0, none⟩) := (hkp 7 (by simp)).trans (by simp [s7])
 have u9 : ρ2 9 = .int .i64 n0 := (hkp 9 (by simp)).trans (by simp [s9])
 have u10 : ρ2 10 = sv := (hkp 10 (by simp)).trans (by simp [s10])
 have u11 : ρ2 11 = wv := (hkp 11 (by simp)).trans (by simp)
 have u12 : ρ2 12 = .int .i64 0 := (hkp 12 (by simp)).trans (by simp)
 have u13 : ρ2 13 = bv := (hkp 13 (by simp)).trans (by simp)
 have u50 : ρ2 50 = .int .i64 i := (hkp 50 (by simp)).trans (by simp [s50])
 clear hkp
 have r3 := r2.ext hE3
 have hc73 := r3.b7.cell
 rw [ptr, ptr] at hc73
 have hsl3 := r3.so.sl (enc := encI) (by omega)
 have hb3 := hbs.ext hE3
 simp -implicitDefEqProofs [-wps_asg, -wps_eff, wa2, we2, ir8_k7, u7, hc73, u10]
 refine (t_Minor r3.h r3.bw hsl3 (by have := r3.told; omega)).mono ?_
 rintro _ W4 ⟨rfl, β', c', h4, hT4⟩
 have r4 := r3.next hn0 h4 hT4
 have z1 := hE1.size
 have z2 := hE2.size
 have z3 := hE3.size
 have z4 := hT4.1.size
 have hc74 := r4.b7.cell
 rw [ptr, ptr] at hc74
 obtain ⟨e1, e2, e3⟩ := minor_is r3.ok
 have stay : ∀ {bq : Nat} {x : Value} {xs : List Value} {W0 : World}, W.heap.size ≤ W0.heap.size → Own W0.heap.size 3 1 W3 x xs → Own W0.heap.size 3 1 W4 x xs ∧ ∀ b, x.ownBlock = some b → ¬ β'.has b := fun {bq x xs W0} hz hx => by
  refine ⟨Own.same' hx fun b hb => hT4.1.block b (Own.blk hx b hb).2 fun ⟨q, hq⟩ => ?_, fun b hb hh => ?_⟩
  ·have := r.h.hi q b hq
   have := (Own.blk hx b hb).1
   omega
  ·have h1 := Own.blk hx b hb
   rcases hT4.2 b hh with ⟨q, hq⟩ | e
   ·have := r.h.hi q b hq
    omega
   ·omega
 have hw4 := (stay (bq := 0) (Nat.le_refl _) ((hwv.ext hE2).ext hE3)).1
 have hb4 := ((stay (bq := 0) z1 (hbv.ext hE3)).1).sl (enc := encI) (by omega)
 have ho4 := (stay (bq := 0) (by omega) hov).1
 have hcnt := minor_count r3.ok
 have htl' := thereL_le (m.minor S).2.2
 have hlen' := r4.len
 simp -implicitDefEqProofs [-wps_asg, -wps_eff, wa2, we2, u7, hc74, u9]
 have hth2 := l_there r4.h (by omega)
 rw [hlen'] at hth2
 refine hth2.mono ?_
 rintro _ W5 ⟨av, rfl, hav, hE5⟩
 have r5 := r4.ext hE5
 have has := hav.sl (enc := encI) (by omega)
 have hb5 := hb4.ext hE5
 have hwd : IntKind.i64.wrap ((m.thereL.length : Int) - ((m.minor S).2.2.thereL.length : Int)) = (m.minor S).1 := by rw [i64w (by omega)]; omega
 simp -implicitDefEqProofs [-wps_asg, -wps_eff, wa2, we2, u12, e2, u13, hb5.is, hb5.len, has.is, has.len, hwd, ir8_k6, s14, u11]
 have hol := List.length_filter_le (fun n => !m.young n) m.thereL
 have hcells := own_cells (hw4.ext hE5)
 refine eff_appendG ri35 (base := W2.heap.size) (by have := hE5.size; omega) (by simp [s14]) (by simp) (ho4.ext hE5) hcells (by simp; intro x _; rfl) (by simp; omega) (by simp; omega) fun lv W6 hlv hg hf => ?_
 have hovb := (stay (bq := 0) (by omega) hov).2
 have hF := Fr.grown hg
 have zE := r.E.size
 have hB7 := r.b7.lt
 have r6 : Rnd w base bs Hb Rb B7 sv S n0 (i + 1) β' (m.minor S).2.2 c' W6 := r5.keepF hF fun b hb => by
  have h1 := Own.blk hov b hb
  exact ⟨hovb b hb, by omega, fun e => by have := (Own.blk r.so b e).2; omega, by omega⟩
 have hav6 : Own W4.heap.size 3 1 W6 av ((m.minor S).2.2.thereL.map encI) := Own.same' hav fun b hb => hF.block b (Own.blk hav b hb).2 fun e => by
  have h1 := Own.blk hov b e
  have h2 := Own.blk hav b hb
  omega
 have has6 := hav6.sl (enc := encI) (by omega)
 rw [← List.map_append] at hlv
 have hlvs := hlv.sl (enc := encI) (by rw [List.length_append]; omega)
 simp -implicitDefEqProofs [-wps_asg, -wps_eff, wa2, we2, hlvs.is, hlvs.len, -wpi_block]
 have hnx : ∀ n ∈ (m.thereL.filter fun n => !m.young n) ++ (m.reached S).1, n ∈ (m.minor S).2.2.thereL := fun n hn => by
  rcases List.mem_append.1 hn with h | h
  ·exact minor_mem_old r3.ok h
  ·exact minor_mem_want r3.h.wf r3.ok h
 refine law8_in has6 hlvs hnx (by simp) (by simp) (by simp) (by simp) fun ρ3 hk3 => ?_
 have v7 : ρ3 7 = ρ 7 := (hk3 7 (by simp)).trans (by simp [u7, s7])
 have v9 : ρ3 9 = ρ 9 := (hk3 9 (by simp)).trans (by simp [u9, s9])
 have v10 : ρ3 10 = ρ 10 := (hk3 10 (by simp)).trans (by simp [u10, s10])
 have v50 : ρ3 50 = .int .i64 i := (hk3 50 (by simp)).trans (by simp [u50])
 clear hk3
 simp -implicitDefEqProofs [-wps_asg, -wps_eff, wa2, we2, ir8_k8, v50, hwk]
 exact hK _ W6 β' _ c' (by simp [v7]) (by simp [v9]) (by simp [v10]) (by simp) r6
theorem law8_end {w : World} {bs n0 : Nat} {sv : Value} {S : List Int} (hn0 : n0 ≤ 100) (r : Rnd w base bs Hb Rb B7 sv S n0 3 β m c W) (s7 : ρ 7 = .pointer (some ⟨B7, 0, none⟩)) (s9 : ρ 9 = .int .i64 n0) {R : Ending → World → Prop} (hR : R = okR w) :
  ir8_k12.wp ⟨Tryz.prog, 131, ir8_V, []⟩ (retK [.tmp 6] R) (ksOf [.tmp 6] R) ρ W := by
 obtain ⟨X, hX⟩ : ∃ X : World → Prop, X = fun W' => Blk W' B7 #[ptr Hb, ptr Rb] 31 := ⟨_, rfl⟩
 have c0 : ∀ W', X W' → W'.cell? ⟨B7, 0, none⟩ = some (.pointer (some ⟨Hb, 0, none⟩)) := fun W' h => by rw [hX] at h; rw [h.cell]; rfl
 have hlen := r.len
 have hany : m.thereL.any m.young = false := by
  rw [List.any_eq_false]
  intro n hn
  have := r.age n (mem_thereL.1 hn)
  simp [MS.young]
  intro _; omega
 simp -implicitDefEqProofs [-wps_asg, -wps_eff, wa2, we2, ir8_k12, ir8_k11]
 refine raw_ord ir8_o30_ok X fun W1 hE1 _ => ?_
 have hX1 : X W1 := by rw [hX]; exact r.b7.ext hE1
 refine ⟨hX1, ?_⟩
 rw [ir8_o30]
 simp +contextual -implicitDefEqProofs
 refine (l_kept W1).mono ?_
 rintro _ W2 ⟨rfl, hE2⟩
 have hE02 := hE1.trans' hE2
 have r2 := r.ext hE02
 have hX2 : X W2 := by rw [hX]; exact r2.b7
 have hth := l_there r2.h (by omega)
 rw [hlen] at hth
 simp +contextual -implicitDefEqProofs [s7, s9, c0, hX2]
 constructor
 ·refine hth.mono ?_
  rintro _ W3 ⟨x, rfl, hx, hE3⟩
  have r3 := r2.ext hE3
  have hX3 : X W3 := by rw [hX]; exact r3.b7
  have hxs := hx.sl (enc := encI) (by have := thereL_le m; omega)
  simp +contextual -implicitDefEqProofs [hX3]
  refine (t_containsI (gf := 44) (fs := #[ptr Hb]) (caps := #[]) (p := m.young) hxs (by kernel_rfl) fun n _ => t_Young r3.h n).mono ?_
  rintro _ _ ⟨rfl, rfl⟩
  simp -implicitDefEqProofs [hany]
  rw [hR]
  exact ⟨rfl, r3.E⟩
 ·refine hth.mono ?_
  rintro _ W3 ⟨x, rfl, hx, hE3⟩
  have r3 := r2.ext hE3
  have hX3 : X W3 := by rw [hX]; exact r3.b7
  have hxs := hx.sl (enc := encI) (by have := thereL_le m; omega)
  simp +contextual -implicitDefEqProofs [hX3]
  refine (t_containsI (gf := 44) (fs := #[ptr Hb]) (caps := #[]) (p := m.young) hxs (by kernel_rfl) fun n _ => t_Young r3.h n).mono ?_
  rintro _ _ ⟨rfl, rfl⟩
  simp -implicitDefEqProofs [hany]
  rw [hR]
  exact ⟨rfl, r3.E⟩
end
theorem law8 {w : World} {v rv : Value} {l : List OpD} {roots : List Int} (hs : Scr w v l) (hr : SlW encI w rv roots) (words : Int) : Calls Tryz.prog 8 #[.int .i64 words, v, rv] w (okR w) := by
 obtain ⟨R, hR⟩ : ∃ R, R = okR w := ⟨_, rfl⟩
 rw [← hR]
 refine ir8_calls fun ρ r0 r1 r2 => ?_
 simp -implicitDefEqProofs [-wps_asg, -wps_eff, wa2, we2, ir8, r1]
 refine (l_short hs).mono ?_
 rintro _ W0 ⟨rfl, hE0⟩
 have hkept : ∀ ρ2 : Env, Calls Tryz.prog 11 #[] W0 (okR W0) := fun _ => l_kept W0
 have hrI : ((10 : Int) < (roots.length : Int)) ↔ 10 < roots.length := by omega
 cases hsh : shortB l with
 | false =>
  simp -implicitDefEqProofs [-wps_asg, -wps_eff, wa2, we2]
  refine (l_kept W0).mono ?_
  rintro _ W5 ⟨rfl, hE5⟩
  simp -implicitDefEqProofs [-wps_asg, -wps_eff, wa2, we2]
  rw [hR]
  exact ⟨rfl, hE0.trans' hE5⟩
 | true =>
 by_cases hrl : 10 < roots.length
 ·simp -implicitDefEqProofs [-wps_asg, -wps_eff, wa2, we2, r2, hr.is, hr.len, hrl, hrI]
  refine (l_kept W0).mono ?_
  rintro _ W5 ⟨rfl, hE5⟩
  simp -implicitDefEqProofs [-wps_asg, -wps_eff, wa2, we2]
  rw [hR]
  exact ⟨rfl, hE0.trans' hE5⟩
 obtain ⟨hl70, _⟩ := short_few hsh
 have hrs := hr.sl (by omega)
 simp -implicitDefEqProofs [-wps_asg, -wps_eff, wa2, we2, r2, hr.is, hr.len, hrl, hrI, ir8_k14, r0, r1]
 refine (l_built (hs.ext hE0) hsh words).mono ?_
 rintro _ W1 ⟨base, Hb, Rb, β, γ, c, rfl, hbase, j, hE1⟩
 obtain ⟨m, hm⟩ : ∃ m, m = builtM (wordsOf words) l := ⟨_, rfl⟩
 rw [← hm] at j
 have hon : m.on = false := by rw [hm]; exact (builtM_on _ _).1
 simp -implicitDefEqProofs [-wps_asg, -wps_eff, wa2, we2]
 refine eff_alloc z31 fun B7 W2 hB7 hE2 hb7 _ => ?_
 simp -implicitDefEqProofs [-wps_asg, -wps_eff, wa2, we2]
 refine eff_storeN (B := B7) (cs := #[.pointer none, .pointer none]) (by simp) hb7 (by simp [Value.cells]) (by simp [Value.cells, ptr]) sz31 fun W3 hO3 hb7' => ?_
 simp [Value.cells] at hb7'
 have hE13 : Ext W1 W3 := hO3.ext hE2 hB7
 have hE03 : Ext w W3 := (hE0.trans' hE1).trans' hE13
 have z0 := hE0.size
 have z1 := hE1.size
 have z13 := hE13.size
 have z3 := hE03.size
 have j3 := j.ext hE13
 have hn7 := j.newBlk (b := B7) hB7
 have l7 := hb7'.lt
 have hml := j.hlen (by omega)
 obtain ⟨ov, dv, tv, kv', vv', hb, hobj, _⟩ := j3.r.hd
 have hro := RowO.of hobj
 have hc7 := hb7'.cell
 rw [ptr, ptr] at hc7
 simp -implicitDefEqProofs [-wps_asg, -wps_eff, wa2, we2, ir8_k13, hc7, hb.cell, hro.is, hro.len, r2]
 refine (l_refs (hrs.ext hE03) (by omega) m.objs.length (by omega)).mono ?_
 rintro _ W4 ⟨x, rfl, hx, hE4⟩
 have j4 := j3.ext hE4
 have hb74 := hb7'.ext hE4
 simp -implicitDefEqProofs [-wps_asg, -wps_eff, wa2, we2]
 have hxn : ∀ b, x.ownBlock = some b → ¬ β.has b ∧ ¬ γ.has b ∧ b ≠ B7 := fun b hb => by
  have h1 := (Own.blk hx b hb).1
  have h2 := j3.newBlk (b := b) h1
  exact ⟨h2.1, h2.2, by omega⟩
 refine (t_some j4 hb74 (b0 := W3.heap.size) hE4.size hx (by omega) hxn (gf := 53) (.inl rfl)).mono ?_
 rintro _ W5 ⟨sv, rfl, hsv, hsb, j5, hb75, hD⟩
 have hE45 : Ext W3 W5 := DelF.ext hE4 hD fun b hb => (Own.blk hx b hb).1
 obtain ⟨S, hS⟩ : ∃ S, S = someL m roots := ⟨_, rfl⟩
 rw [← hS] at hsv
 have hSl : S.length ≤ 10 := by rw [hS]; have := some_len m roots; omega
 have hSE : m.rootE S = 0 := by rw [hS]; exact some_rootE (by omega)
 simp -implicitDefEqProofs [-wps_asg, -wps_eff, wa2, we2]
 have r5 : Rnd w base W3.heap.size Hb Rb B7 sv S m.objs.length 0 β m c W5 := by
  refine ⟨j5.h, hb75, hn7.1, hsv, fun b hb => (hxn b (by rw [← hsb]; exact hb)).1, hE03.trans' hE45, by omega, j5.bw, by unfold MS.minorE; rw [hon, if_neg (by simp)]; exact hSE, rfl, by have := j.htl (by omega); omega, fun n _ => Nat.zero_le _⟩
 obtain ⟨I, hI⟩ : ∃ I : Nat → Env → World → Prop, ∀ i ρ' W, I i ρ' W ↔ (ρ' 7 = .pointer (some ⟨B7, 0, none⟩) ∧ ρ' 9 = .int .i64 m.objs.length ∧ ρ' 10 = sv ∧ ∃ β' m' c', Rnd w base W3.heap.size Hb Rb B7 sv S m.objs.length i β' m' c' W) := ⟨_, fun _ _ _ => Iff.rfl⟩
 refine loopC 50 3 I (by rfl) ((hI _ _ _).2 ⟨by simp, by simp, by simp, β, m, c, r5⟩) ?_
 intro i ρ' W hi3 h50 hi
 obtain ⟨s7, s9, s10, β', m', c', rr⟩ := (hI _ _ _).1 hi
 by_cases hlt : i < 3
 ·have hI3 : (i : Int) < 3 := by omega
  simp -implicitDefEqProofs [-wps_asg, -wps_eff, wa2, we2, ir8_l10, h50, hlt, hI3]
  refine law8_round (by omega) hSl hlt rr (by simp [s7]) (by simp [s9]) (by simp [s10]) (by simp [h50]) fun ρ2 W2' β2 m2 c2 a7 a9 a10 a50 r2' => ?_
  refine ⟨a50, (hI _ _ _).2 ⟨by rw [a7]; simp [s7], by rw [a9]; simp [s9], by rw [a10]; simp [s10], β2, m2, c2, r2'⟩⟩
 ·have hi : i = 3 := by omega
  subst hi
  simp -implicitDefEqProofs [-wps_asg, -wps_eff, wa2, we2, ir8_l10, h50]
  exact law8_end (by omega) rr (by simp [s7]) (by simp [s9]) hR
end Go.L17
