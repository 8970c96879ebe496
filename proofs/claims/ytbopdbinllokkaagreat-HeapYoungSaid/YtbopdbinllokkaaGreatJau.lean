/- Texts of mine for the claims about layer 17 (heap), joined: L17Ia, L17Ib, L17Ic, L17Id, L17A, L17B, L17C, L17D, L17E, L17F, L17G, L17H, L17J, L17K, L17L, L17M. -/
import Derived.Test.YtbopdbinllokkaaGreatJat
import Derived.Test.YtbopdbinllokkaaGreatProg
import Derived.KernelRfl
set_option linter.all false
set_option linter.unusedSimpArgs false
set_option linter.unusedVariables false
namespace Go.L17
open Go Go.Eng Go.Proofs
set_option maxRecDepth 100000
set_option maxHeartbeats 2000000
variable {v0 v1 v2 v3 v4 : Value} {w : World} {R : Ending → World → Prop}
noncomputable def ir58 : IR := .seq (.reg [.asg none 6 (.const (.bool false)), .asg none 6 (.ite (.op2 (.ibin .geq .i64) (.var 0) (.var 1)) (.op2 (.ibin .leq .i64) (.var 0) (.var 2)) (.const (.bool false)))]) <| .ret
def ir58_V : List Nat := [0, 1, 2, 6]
theorem ir58_calls (h : ∀ ρ : Env, ρ 0 = v0 → ρ 1 = v1 → ρ 2 = v2 → ir58.wp ⟨Tryz.prog, 15, ir58_V, []⟩ (retK [.tmp 6] R) (ksOf [.tmp 6] R) ρ w) : Calls Tryz.prog 58 #[v0, v1, v2] w R :=
 calls_irX (raws := []) (ir := ir58) Tryz.func58 rfl (by kernel_rfl) (by kernel_rfl) (by kernel_rfl) (Nat.le_of_ble_eq_true rfl) (h _ rfl rfl rfl)
noncomputable def ir12_k0 : IR := .seq (.reg [.asg none 7 (.var 0), .eff none (some 8) (.makeMap 91 none) 91, .eff none (some 9) (.build 93 #[(0, (.tmp 7)), (3, (.tmp 8))]) 93, .eff none (some 10) (.build 96 #[(0, (.tmp 9))]) 96, .eff none (some 11) (.box 96 (.tmp 10)) 25, .asg none 2 (.var 11), .asg none 3 (.const (.int .i64 0))]) <| .ret
noncomputable def ir12 : IR := .seq (.reg [.asg none 2 (.const (.pointer none)), .asg none 3 (.const (.int .i64 0)), .asg none 4 (.var 0), .eff none (some 5) (.call { callee := .value (.func 58), args := #[(.tmp 4), (.const (.int .i64 64)), (.const (.int .i64 1000000))], argTypes := #[3, 3, 3] }) 4, .asg none 6 (.op1 .not (.var 5))]) <| .seq (.cond (.var 6) (.seq (.reg [.asg none 2 (.const (.pointer none)), .asg none 3 (.const (.int .i64 1))]) <| .ret) (.skip)) (ir12_k0)
def ir12_V : List Nat := [0, 2, 3, 4, 5, 6, 7, 8, 9, 10, 11]
theorem ir12_calls (h : ∀ ρ : Env, ρ 0 = v0 → ir12.wp ⟨Tryz.prog, 12, ir12_V, []⟩ (retK [.tmp 2, .tmp 3] R) (ksOf [.tmp 2, .tmp 3] R) ρ w) : Calls Tryz.prog 12 #[v0] w R :=
 calls_irX (raws := []) (ir := ir12) Tryz.func12 rfl (by kernel_rfl) (by kernel_rfl) (by kernel_rfl) (Nat.le_of_ble_eq_true rfl) (h _ rfl)
noncomputable def ir96 : IR := .seq (.reg [.asg none 2 (.const (.bool false)), .asg none 2 (.ite (.op2 (.ibin .eql .u8) (.var 0) (.const (.int .u8 1))) (.const (.bool true)) (.op2 (.ibin .eql .u8) (.var 0) (.const (.int .u8 2))))]) <| .ret
def ir96_V : List Nat := [0, 2]
theorem ir96_calls (h : ∀ ρ : Env, ρ 0 = v0 → ir96.wp ⟨Tryz.prog, 9, ir96_V, []⟩ (retK [.tmp 2] R) (ksOf [.tmp 2] R) ρ w) : Calls Tryz.prog 96 #[v0] w R :=
 calls_irX (raws := []) (ir := ir96) Tryz.func96 rfl (by kernel_rfl) (by kernel_rfl) (by kernel_rfl) (Nat.le_of_ble_eq_true rfl) (h _ rfl)
noncomputable def ir84 : IR := .seq (.reg [.asg none 4 (.const (.bool false)), .asg none 8 (.op1 .load1 (.op1 (.fadr 3) (.op1 .nilc (.var 0)))), .asg none 9 (.var 1), .eff none (some 10) (.lookup 91 (.tmp 8) (.tmp 9) false) 129, .eff none (some 11) (.binOp .neq 129 (.tmp 10) (.const (.pointer none)) 129) 4, .asg none 4 (.var 11)]) <| .ret
def ir84_V : List Nat := [0, 1, 4, 8, 9, 10, 11]
theorem ir84_calls (h : ∀ ρ : Env, ρ 0 = v0 → ρ 1 = v1 → ir84.wp ⟨Tryz.prog, 12, ir84_V, []⟩ (retK [.tmp 4] R) (ksOf [.tmp 4] R) ρ w) : Calls Tryz.prog 84 #[v0, v1] w R :=
 calls_irX (raws := []) (ir := ir84) Tryz.func84 rfl (by kernel_rfl) (by kernel_rfl) (by kernel_rfl) (Nat.le_of_ble_eq_true rfl) (h _ rfl rfl)
noncomputable def ir20 : IR := .seq (.reg [.asg none 4 (.const (.bool false)), .asg none 5 (.var 0), .eff none (some 6) (.binOp .neq 25 (.tmp 5) (.const (.pointer none)) 25) 4, .asg none 7 (.var 6), .asg (some (7, true)) 10 (.op1 (.fadr 0) (.op1 .nilc (.var 0))), .asg (some (7, true)) 11 (.var 1), .eff (some (7, true)) (some 12) (.call { callee := .value (.func 84), args := #[(.tmp 10), (.tmp 11)], argTypes := #[93, 3] }) 4, .asg none 4 (.ite (.var 7) (.var 12) (.const (.bool false)))]) <| .ret
def ir20_V : List Nat := [0, 1, 4, 5, 6, 7, 10, 11, 12]
theorem ir20_calls (h : ∀ ρ : Env, ρ 0 = v0 → ρ 1 = v1 → ir20.wp ⟨Tryz.prog, 14, ir20_V, []⟩ (retK [.tmp 4] R) (ksOf [.tmp 4] R) ρ w) : Calls Tryz.prog 20 #[v0, v1] w R :=
 calls_irX (raws := []) (ir := ir20) Tryz.func20 rfl (by kernel_rfl) (by kernel_rfl) (by kernel_rfl) (Nat.le_of_ble_eq_true rfl) (h _ rfl rfl)
noncomputable def ir97_k0 : IR := .seq (.reg [.asg none 6 (.const (.int .i64 0))]) <| .ret
noncomputable def ir97 : IR := .seq (.reg [.asg none 6 (.const (.int .i64 0))]) <| .seq (.block 0 (.seq (.reg [.asg none 10 (.op2 (.ibin .eql .u8) (.var 1) (.const (.int .u8 1))), .asg (some (10, true)) 11 (.var 2), .eff (some (10, true)) (some 12) (.call { callee := .value (.func 58), args := #[(.tmp 11), (.const (.int .i64 (-1000000000))), (.const (.int .i64 1000000000))], argTypes := #[3, 3, 3] }) 4, .asg none 7 (.ite (.var 10) (.op1 .not (.var 12)) (.const (.bool false)))]) <| .cond (.var 7) (.seq (.reg [.asg none 6 (.const (.int .i64 1))]) <| .ret) (.seq (.reg [.asg none 22 (.ite (.op2 (.ibin .eql .u8) (.var 1) (.const (.int .u8 2))) (.op2 (.ibin .neq .i64) (.var 2) (.const (.int .i64 0))) (.const (.bool false))), .asg (some (22, true)) 25 (.op1 (.fadr 0) (.op1 .nilc (.var 0))), .asg (some (22, true)) 26 (.var 2), .eff (some (22, true)) (some 27) (.call { callee := .value (.func 84), args := #[(.tmp 25), (.tmp 26)], argTypes := #[93, 3] }) 4, .asg none 15 (.ite (.var 22) (.op1 .not (.var 27)) (.const (.bool false)))]) <| .cond (.var 15) (.seq (.reg [.asg none 6 (.const (.int .i64 171))]) <| .ret) (.skip)))) (ir97_k0)
def ir97_V : List Nat := [0, 1, 2, 6, 7, 10, 11, 12, 15, 22, 25, 26, 27]
theorem ir97_calls (h : ∀ ρ : Env, ρ 0 = v0 → ρ 1 = v1 → ρ 2 = v2 → ir97.wp ⟨Tryz.prog, 30, ir97_V, []⟩ (retK [.tmp 6] R) (ksOf [.tmp 6] R) ρ w) : Calls Tryz.prog 97 #[v0, v1, v2] w R :=
 calls_irX (raws := []) (ir := ir97) Tryz.func97 rfl (by kernel_rfl) (by kernel_rfl) (by kernel_rfl) (Nat.le_of_ble_eq_true rfl) (h _ rfl rfl rfl)
noncomputable def ir106_k0 : IR := .seq (.reg [.asg none 18 (.op1 .load1 (.op1 (.fadr 3) (.op1 (.fadr 0) (.op1 .nilc (.var 0))))), .asg none 19 (.var 1), .eff none (some 20) (.lookup 91 (.tmp 18) (.tmp 19) false) 129, .asg none 4 (.var 20), .asg none 5 (.const (.int .i64 0))]) <| .ret
noncomputable def ir106_k1 : IR := .seq (.reg [.asg none 10 (.op1 (.fadr 0) (.op1 .nilc (.var 0))), .asg none 11 (.var 1), .eff none (some 12) (.call { callee := .value (.func 84), args := #[(.tmp 10), (.tmp 11)], argTypes := #[93, 3] }) 4, .asg none 13 (.op1 .not (.var 12))]) <| .seq (.cond (.var 13) (.seq (.reg [.asg none 4 (.const (.pointer none)), .asg none 5 (.const (.int .i64 171))]) <| .ret) (.skip)) (ir106_k0)
noncomputable def ir106 : IR := .seq (.reg [.asg none 4 (.const (.pointer none)), .asg none 5 (.const (.int .i64 0)), .asg none 6 (.var 0), .eff none (some 7) (.binOp .eql 25 (.tmp 6) (.const (.pointer none)) 25) 4]) <| .seq (.cond (.var 7) (.seq (.reg [.asg none 4 (.const (.pointer none)), .asg none 5 (.const (.int .i64 3))]) <| .ret) (.skip)) (ir106_k1)
def ir106_V : List Nat := [0, 1, 4, 5, 6, 7, 10, 11, 12, 13, 18, 19, 20]
theorem ir106_calls (h : ∀ ρ : Env, ρ 0 = v0 → ρ 1 = v1 → ir106.wp ⟨Tryz.prog, 21, ir106_V, []⟩ (retK [.tmp 4, .tmp 5] R) (ksOf [.tmp 4, .tmp 5] R) ρ w) : Calls Tryz.prog 106 #[v0, v1] w R :=
 calls_irX (raws := []) (ir := ir106) Tryz.func106 rfl (by kernel_rfl) (by kernel_rfl) (by kernel_rfl) (Nat.le_of_ble_eq_true rfl) (h _ rfl rfl)
noncomputable def ir91_k0 : IR := .seq (.reg [.asg none 4 (.const (.pointer none)), .asg none 5 (.const (.int .i64 1))]) <| .ret
noncomputable def ir91_k1 : IR := .seq (.reg [.asg none 21 (.op1 .load1 (.op1 (.fadr 0) (.op1 .nilc (.var 6))))]) <| .seq (.block 0 (.seq (.reg [.eff none (some 22) (.typeAssert (.tmp 21) 131 113 true) 0, .asg none 23 (.op1 (.ext 1) (.var 22)), .asg none 24 (.op1 (.ext 0) (.var 22))]) <| .cond (.var 23) (.seq (.reg [.asg none 8 (.var 24), .asg none 4 (.var 8), .asg none 5 (.const (.int .i64 0))]) <| .ret) (.skip))) (ir91_k0)
noncomputable def ir91 : IR := .seq (.reg [.asg none 4 (.const (.pointer none)), .asg none 5 (.const (.int .i64 0)), .asg none 10 (.var 0), .asg none 11 (.var 1), .eff none (some 12) (.call { callee := .value (.func 106), args := #[(.tmp 10), (.tmp 11)], argTypes := #[25, 3] }) 136, .asg none 9 (.var 12), .asg none 13 (.op1 (.ext 0) (.var 9)), .asg none 14 (.op1 (.ext 1) (.var 9)), .asg none 6 (.var 13), .asg none 7 (.var 14), .asg none 16 (.op2 (.ibin .neq .i64) (.var 7) (.const (.int .i64 0)))]) <| .seq (.cond (.var 16) (.seq (.reg [.asg none 17 (.var 7), .asg none 4 (.const (.pointer none)), .asg none 5 (.var 17)]) <| .ret) (.skip)) (ir91_k1)
def ir91_V : List Nat := [0, 1, 4, 5, 6, 7, 8, 9, 10, 11, 12, 13, 14, 16, 17, 21, 22, 23, 24]
theorem ir91_calls (h : ∀ ρ : Env, ρ 0 = v0 → ρ 1 = v1 → ir91.wp ⟨Tryz.prog, 26, ir91_V, []⟩ (retK [.tmp 4, .tmp 5] R) (ksOf [.tmp 4, .tmp 5] R) ρ w) : Calls Tryz.prog 91 #[v0, v1] w R :=
 calls_irX (raws := []) (ir := ir91) Tryz.func91 rfl (by kernel_rfl) (by kernel_rfl) (by kernel_rfl) (Nat.le_of_ble_eq_true rfl) (h _ rfl rfl)
noncomputable def ir90_k0 : IR := .seq (.reg [.asg none 4 (.const (.pointer none)), .asg none 5 (.const (.int .i64 1))]) <| .ret
noncomputable def ir90_k1 : IR := .seq (.reg [.asg none 21 (.op1 .load1 (.op1 (.fadr 0) (.op1 .nilc (.var 6))))]) <| .seq (.block 0 (.seq (.reg [.eff none (some 22) (.typeAssert (.tmp 21) 131 108 true) 0, .asg none 23 (.op1 (.ext 1) (.var 22)), .asg none 24 (.op1 (.ext 0) (.var 22))]) <| .cond (.var 23) (.seq (.reg [.asg none 8 (.var 24), .asg none 4 (.var 8), .asg none 5 (.const (.int .i64 0))]) <| .ret) (.skip))) (ir90_k0)
noncomputable def ir90 : IR := .seq (.reg [.asg none 4 (.const (.pointer none)), .asg none 5 (.const (.int .i64 0)), .asg none 10 (.var 0), .asg none 11 (.var 1), .eff none (some 12) (.call { callee := .value (.func 106), args := #[(.tmp 10), (.tmp 11)], argTypes := #[25, 3] }) 136, .asg none 9 (.var 12), .asg none 13 (.op1 (.ext 0) (.var 9)), .asg none 14 (.op1 (.ext 1) (.var 9)), .asg none 6 (.var 13), .asg none 7 (.var 14), .asg none 16 (.op2 (.ibin .neq .i64) (.var 7) (.const (.int .i64 0)))]) <| .seq (.cond (.var 16) (.seq (.reg [.asg none 17 (.var 7), .asg none 4 (.const (.pointer none)), .asg none 5 (.var 17)]) <| .ret) (.skip)) (ir90_k1)
def ir90_V : List Nat := [0, 1, 4, 5, 6, 7, 8, 9, 10, 11, 12, 13, 14, 16, 17, 21, 22, 23, 24]
theorem ir90_calls (h : ∀ ρ : Env, ρ 0 = v0 → ρ 1 = v1 → ir90.wp ⟨Tryz.prog, 26, ir90_V, []⟩ (retK [.tmp 4, .tmp 5] R) (ksOf [.tmp 4, .tmp 5] R) ρ w) : Calls Tryz.prog 90 #[v0, v1] w R :=
 calls_irX (raws := []) (ir := ir90) Tryz.func90 rfl (by kernel_rfl) (by kernel_rfl) (by kernel_rfl) (Nat.le_of_ble_eq_true rfl) (h _ rfl rfl)
noncomputable def ir92_k0 : IR := .seq (.reg [.asg none 29 (.var 8), .asg none 30 (.var 9), .asg none 6 (.var 29), .asg none 7 (.var 30)]) <| .ret
noncomputable def ir92 : IR := .seq (.reg [.asg none 6 (.const (.pointer none)), .asg none 7 (.const (.int .i64 0)), .asg none 11 (.var 0), .asg none 12 (.var 1), .eff none (some 13) (.call { callee := .value (.func 91), args := #[(.tmp 11), (.tmp 12)], argTypes := #[25, 3] }) 114, .asg none 10 (.var 13), .asg none 14 (.op1 (.ext 0) (.var 10)), .asg none 15 (.op1 (.ext 1) (.var 10)), .asg none 8 (.var 14), .asg none 9 (.var 15), .asg none 18 (.op2 (.ibin .eql .i64) (.var 9) (.const (.int .i64 0))), .asg (some (18, true)) 19 (.var 2), .asg (some (18, true)) 25 (.op2 (.ibin .sub .i64) (.op1 .lenS (.op1 .load1 (.op1 (.fadr 2) (.op1 .nilc (.var 8))))) (.const (.int .i64 1))), .eff (some (18, true)) (some 26) (.call { callee := .value (.func 58), args := #[(.tmp 19), (.const (.int .i64 0)), (.tmp 25)], argTypes := #[3, 3, 3] }) 4, .asg none 28 (.ite (.var 18) (.op1 .not (.var 26)) (.const (.bool false)))]) <| .seq (.cond (.var 28) (.reg [.asg none 9 (.const (.int .i64 1))]) (.skip)) (ir92_k0)
def ir92_V : List Nat := [0, 1, 2, 6, 7, 8, 9, 10, 11, 12, 13, 14, 15, 18, 19, 25, 26, 28, 29, 30]
theorem ir92_calls (h : ∀ ρ : Env, ρ 0 = v0 → ρ 1 = v1 → ρ 2 = v2 → ir92.wp ⟨Tryz.prog, 31, ir92_V, []⟩ (retK [.tmp 6, .tmp 7] R) (ksOf [.tmp 6, .tmp 7] R) ρ w) : Calls Tryz.prog 92 #[v0, v1, v2] w R :=
 calls_irX (raws := []) (ir := ir92) Tryz.func92 rfl (by kernel_rfl) (by kernel_rfl) (by kernel_rfl) (Nat.le_of_ble_eq_true rfl) (h _ rfl rfl rfl)
noncomputable def ir93_k0 : IR := .seq (.reg [.asg none 28 (.var 8), .asg none 29 (.var 9), .asg none 6 (.var 28), .asg none 7 (.var 29)]) <| .ret
noncomputable def ir93 : IR := .seq (.reg [.asg none 6 (.const (.pointer none)), .asg none 7 (.const (.int .i64 0)), .asg none 11 (.var 0), .asg none 12 (.var 1), .eff none (some 13) (.call { callee := .value (.func 90), args := #[(.tmp 11), (.tmp 12)], argTypes := #[25, 3] }) 109, .asg none 10 (.var 13), .asg none 14 (.op1 (.ext 0) (.var 10)), .asg none 15 (.op1 (.ext 1) (.var 10)), .asg none 8 (.var 14), .asg none 9 (.var 15), .asg none 18 (.op2 (.ibin .eql .i64) (.var 9) (.const (.int .i64 0))), .asg (some (18, true)) 19 (.var 2), .asg (some (18, true)) 24 (.op1 .lenS (.op1 .load1 (.op1 (.fadr 1) (.op1 .nilc (.var 8))))), .eff (some (18, true)) (some 25) (.call { callee := .value (.func 58), args := #[(.tmp 19), (.const (.int .i64 1)), (.tmp 24)], argTypes := #[3, 3, 3] }) 4, .asg none 27 (.ite (.var 18) (.op1 .not (.var 25)) (.const (.bool false)))]) <| .seq (.cond (.var 27) (.reg [.asg none 9 (.const (.int .i64 5))]) (.skip)) (ir93_k0)
def ir93_V : List Nat := [0, 1, 2, 6, 7, 8, 9, 10, 11, 12, 13, 14, 15, 18, 19, 24, 25, 27, 28, 29]
theorem ir93_calls (h : ∀ ρ : Env, ρ 0 = v0 → ρ 1 = v1 → ρ 2 = v2 → ir93.wp ⟨Tryz.prog, 30, ir93_V, []⟩ (retK [.tmp 6, .tmp 7] R) (ksOf [.tmp 6, .tmp 7] R) ρ w) : Calls Tryz.prog 93 #[v0, v1, v2] w R :=
 calls_irX (raws := []) (ir := ir93) Tryz.func93 rfl (by kernel_rfl) (by kernel_rfl) (by kernel_rfl) (Nat.le_of_ble_eq_true rfl) (h _ rfl rfl rfl)
noncomputable def ir26_k0 : IR := .ret
noncomputable def ir26_k1 : IR := .seq (.drw [.asg none 27 (.op1 .load1 (.op2 (.ixa 1) (.op1 .load1 (.op1 (.fadr 1) (.op1 .nilc (.var 9)))) (.var 2))), .asg none 34 (.op1 .load1 (.op2 (.ixa 1) (.op1 .load1 (.op1 (.fadr 2) (.op1 .nilc (.var 9)))) (.var 2))), .asg none 6 (.var 27), .asg none 7 (.var 34), .asg none 8 (.const (.int .i64 0))]) (ir26_k0)
noncomputable def ir26 : IR := .seq (.reg [.asg none 6 (.const (.int .u8 0)), .asg none 7 (.const (.int .i64 0)), .asg none 8 (.const (.int .i64 0)), .asg none 12 (.var 0), .asg none 13 (.var 1), .asg none 14 (.var 2), .eff none (some 15) (.call { callee := .value (.func 92), args := #[(.tmp 12), (.tmp 13), (.tmp 14)], argTypes := #[25, 3, 3] }) 114, .asg none 11 (.var 15), .asg none 16 (.op1 (.ext 0) (.var 11)), .asg none 17 (.op1 (.ext 1) (.var 11)), .asg none 9 (.var 16), .asg none 10 (.var 17), .asg none 19 (.op2 (.ibin .neq .i64) (.var 10) (.const (.int .i64 0)))]) <| .seq (.cond (.var 19) (.seq (.reg [.asg none 20 (.var 10), .asg none 6 (.const (.int .u8 0)), .asg none 7 (.const (.int .i64 0)), .asg none 8 (.var 20)]) <| .ret) (.skip)) (ir26_k1)
def ir26_V : List Nat := [0, 1, 2, 6, 7, 8, 9, 10, 11, 12, 13, 14, 15, 16, 17, 19, 20, 27, 34]
theorem ir26_calls (h : ∀ ρ : Env, ρ 0 = v0 → ρ 1 = v1 → ρ 2 = v2 → ir26.wp ⟨Tryz.prog, 35, ir26_V, []⟩ (retK [.tmp 6, .tmp 7, .tmp 8] R) (ksOf [.tmp 6, .tmp 7, .tmp 8] R) ρ w) : Calls Tryz.prog 26 #[v0, v1, v2] w R :=
 calls_irX (raws := []) (ir := ir26) Tryz.func26 rfl (by kernel_rfl) (by kernel_rfl) (by kernel_rfl) (Nat.le_of_ble_eq_true rfl) (h _ rfl rfl rfl)
noncomputable def ir23_k0 : IR := .seq (.reg [.asg none 23 (.var 7), .asg none 4 (.const (.int .u8 0)), .asg none 5 (.var 23)]) <| .ret
noncomputable def ir23 : IR := .seq (.reg [.asg none 4 (.const (.int .u8 0)), .asg none 5 (.const (.int .i64 0)), .asg none 9 (.var 0), .asg none 10 (.var 1), .eff none (some 11) (.call { callee := .value (.func 90), args := #[(.tmp 9), (.tmp 10)], argTypes := #[25, 3] }) 109, .asg none 8 (.var 11), .asg none 12 (.op1 (.ext 0) (.var 8)), .asg none 13 (.op1 (.ext 1) (.var 8)), .asg none 6 (.var 12), .asg none 7 (.var 13), .asg none 14 (.var 7)]) <| .seq (.block 0 (.seq (.reg [.asg none 15 (.op2 (.ibin .eql .i64) (.var 14) (.const (.int .i64 0)))]) <| .cond (.var 15) (.seq (.reg [.asg none 4 (.op1 .load1 (.op1 (.fadr 0) (.op1 .nilc (.var 6)))), .asg none 5 (.const (.int .i64 0))]) <| .ret) (.seq (.reg [.asg none 21 (.op2 (.ibin .eql .i64) (.var 14) (.const (.int .i64 1)))]) <| .cond (.var 21) (.seq (.reg [.asg none 4 (.const (.int .u8 0)), .asg none 5 (.const (.int .i64 0))]) <| .ret) (.skip)))) (ir23_k0)
def ir23_V : List Nat := [0, 1, 4, 5, 6, 7, 8, 9, 10, 11, 12, 13, 14, 15, 21, 23]
theorem ir23_calls (h : ∀ ρ : Env, ρ 0 = v0 → ρ 1 = v1 → ir23.wp ⟨Tryz.prog, 24, ir23_V, []⟩ (retK [.tmp 4, .tmp 5] R) (ksOf [.tmp 4, .tmp 5] R) ρ w) : Calls Tryz.prog 23 #[v0, v1] w R :=
 calls_irX (raws := []) (ir := ir23) Tryz.func23 rfl (by kernel_rfl) (by kernel_rfl) (by kernel_rfl) (Nat.le_of_ble_eq_true rfl) (h _ rfl rfl)
noncomputable def ir24_k0 : IR := .seq (.reg [.asg none 4 (.op1 .load1 (.op1 (.fadr 0) (.op1 .nilc (.var 6)))), .asg none 5 (.const (.int .i64 0))]) <| .ret
noncomputable def ir24 : IR := .seq (.reg [.asg none 4 (.const (.int .i64 0)), .asg none 5 (.const (.int .i64 0)), .asg none 9 (.var 0), .asg none 10 (.var 1), .eff none (some 11) (.call { callee := .value (.func 91), args := #[(.tmp 9), (.tmp 10)], argTypes := #[25, 3] }) 114, .asg none 8 (.var 11), .asg none 12 (.op1 (.ext 0) (.var 8)), .asg none 13 (.op1 (.ext 1) (.var 8)), .asg none 6 (.var 12), .asg none 7 (.var 13), .asg none 15 (.op2 (.ibin .neq .i64) (.var 7) (.const (.int .i64 0)))]) <| .seq (.cond (.var 15) (.seq (.reg [.asg none 16 (.var 7), .asg none 4 (.const (.int .i64 0)), .asg none 5 (.var 16)]) <| .ret) (.skip)) (ir24_k0)
def ir24_V : List Nat := [0, 1, 4, 5, 6, 7, 8, 9, 10, 11, 12, 13, 15, 16]
theorem ir24_calls (h : ∀ ρ : Env, ρ 0 = v0 → ρ 1 = v1 → ir24.wp ⟨Tryz.prog, 21, ir24_V, []⟩ (retK [.tmp 4, .tmp 5] R) (ksOf [.tmp 4, .tmp 5] R) ρ w) : Calls Tryz.prog 24 #[v0, v1] w R :=
 calls_irX (raws := []) (ir := ir24) Tryz.func24 rfl (by kernel_rfl) (by kernel_rfl) (by kernel_rfl) (Nat.le_of_ble_eq_true rfl) (h _ rfl rfl)
noncomputable def ir25_k0 : IR := .seq (.reg [.asg none 4 (.op1 .lenS (.op1 .load1 (.op1 (.fadr 1) (.op1 .nilc (.var 6))))), .asg none 5 (.const (.int .i64 0))]) <| .ret
noncomputable def ir25 : IR := .seq (.reg [.asg none 4 (.const (.int .i64 0)), .asg none 5 (.const (.int .i64 0)), .asg none 9 (.var 0), .asg none 10 (.var 1), .eff none (some 11) (.call { callee := .value (.func 90), args := #[(.tmp 9), (.tmp 10)], argTypes := #[25, 3] }) 109, .asg none 8 (.var 11), .asg none 12 (.op1 (.ext 0) (.var 8)), .asg none 13 (.op1 (.ext 1) (.var 8)), .asg none 6 (.var 12), .asg none 7 (.var 13), .asg none 15 (.op2 (.ibin .neq .i64) (.var 7) (.const (.int .i64 0)))]) <| .seq (.cond (.var 15) (.seq (.reg [.asg none 16 (.var 7), .asg none 4 (.const (.int .i64 0)), .asg none 5 (.var 16)]) <| .ret) (.skip)) (ir25_k0)
def ir25_V : List Nat := [0, 1, 4, 5, 6, 7, 8, 9, 10, 11, 12, 13, 15, 16]
theorem ir25_calls (h : ∀ ρ : Env, ρ 0 = v0 → ρ 1 = v1 → ir25.wp ⟨Tryz.prog, 22, ir25_V, []⟩ (retK [.tmp 4, .tmp 5] R) (ksOf [.tmp 4, .tmp 5] R) ρ w) : Calls Tryz.prog 25 #[v0, v1] w R :=
 calls_irX (raws := []) (ir := ir25) Tryz.func25 rfl (by kernel_rfl) (by kernel_rfl) (by kernel_rfl) (Nat.le_of_ble_eq_true rfl) (h _ rfl rfl)
noncomputable def ir27_k0 : IR := .seq (.reg [.asg none 6 (.op1 .load1 (.op2 (.ixa 1) (.op1 .load1 (.op1 (.fadr 1) (.op1 .nilc (.var 8)))) (.op2 (.ibin .sub .i64) (.var 2) (.const (.int .i64 1))))), .asg none 7 (.const (.int .i64 0))]) <| .ret
noncomputable def ir27 : IR := .seq (.reg [.asg none 6 (.const (.int .i64 0)), .asg none 7 (.const (.int .i64 0)), .asg none 11 (.var 0), .asg none 12 (.var 1), .asg none 13 (.var 2), .eff none (some 14) (.call { callee := .value (.func 93), args := #[(.tmp 11), (.tmp 12), (.tmp 13)], argTypes := #[25, 3, 3] }) 109, .asg none 10 (.var 14), .asg none 15 (.op1 (.ext 0) (.var 10)), .asg none 16 (.op1 (.ext 1) (.var 10)), .asg none 8 (.var 15), .asg none 9 (.var 16), .asg none 18 (.op2 (.ibin .neq .i64) (.var 9) (.const (.int .i64 0)))]) <| .seq (.cond (.var 18) (.seq (.reg [.asg none 19 (.var 9), .asg none 6 (.const (.int .i64 0)), .asg none 7 (.var 19)]) <| .ret) (.skip)) (ir27_k0)
def ir27_V : List Nat := [0, 1, 2, 6, 7, 8, 9, 10, 11, 12, 13, 14, 15, 16, 18, 19]
theorem ir27_calls (h : ∀ ρ : Env, ρ 0 = v0 → ρ 1 = v1 → ρ 2 = v2 → ir27.wp ⟨Tryz.prog, 28, ir27_V, []⟩ (retK [.tmp 6, .tmp 7] R) (ksOf [.tmp 6, .tmp 7] R) ρ w) : Calls Tryz.prog 27 #[v0, v1, v2] w R :=
 calls_irX (raws := []) (ir := ir27) Tryz.func27 rfl (by kernel_rfl) (by kernel_rfl) (by kernel_rfl) (Nat.le_of_ble_eq_true rfl) (h _ rfl rfl rfl)
noncomputable def ir45_k0 : IR := .seq (.reg [.asg none 9 (.op1 .load1 (.op1 (.fadr 3) (.op1 (.fadr 0) (.op1 .nilc (.var 0))))), .eff none (some 10) (.call { callee := .builtin .len, args := #[(.tmp 9)], argTypes := #[91] }) 3, .asg none 2 (.var 10)]) <| .ret
noncomputable def ir45 : IR := .seq (.reg [.asg none 2 (.const (.int .i64 0)), .asg none 3 (.var 0), .eff none (some 4) (.binOp .eql 25 (.tmp 3) (.const (.pointer none)) 25) 4]) <| .seq (.cond (.var 4) (.seq (.reg [.asg none 2 (.const (.int .i64 0))]) <| .ret) (.skip)) (ir45_k0)
def ir45_V : List Nat := [0, 2, 3, 4, 9, 10]
theorem ir45_calls (h : ∀ ρ : Env, ρ 0 = v0 → ir45.wp ⟨Tryz.prog, 11, ir45_V, []⟩ (retK [.tmp 2] R) (ksOf [.tmp 2] R) ρ w) : Calls Tryz.prog 45 #[v0] w R :=
 calls_irX (raws := []) (ir := ir45) Tryz.func45 rfl (by kernel_rfl) (by kernel_rfl) (by kernel_rfl) (Nat.le_of_ble_eq_true rfl) (h _ rfl)
noncomputable def ir46_k0 : IR := .seq (.reg [.asg none 2 (.op1 .load1 (.op1 (.fadr 1) (.op1 (.fadr 0) (.op1 .nilc (.var 0)))))]) <| .ret
noncomputable def ir46 : IR := .seq (.reg [.asg none 2 (.const (.int .i64 0)), .asg none 3 (.var 0), .eff none (some 4) (.binOp .eql 25 (.tmp 3) (.const (.pointer none)) 25) 4]) <| .seq (.cond (.var 4) (.seq (.reg [.asg none 2 (.const (.int .i64 0))]) <| .ret) (.skip)) (ir46_k0)
def ir46_V : List Nat := [0, 2, 3, 4]
theorem ir46_calls (h : ∀ ρ : Env, ρ 0 = v0 → ir46.wp ⟨Tryz.prog, 10, ir46_V, []⟩ (retK [.tmp 2] R) (ksOf [.tmp 2] R) ρ w) : Calls Tryz.prog 46 #[v0] w R :=
 calls_irX (raws := []) (ir := ir46) Tryz.func46 rfl (by kernel_rfl) (by kernel_rfl) (by kernel_rfl) (Nat.le_of_ble_eq_true rfl) (h _ rfl)
noncomputable def ir47 : IR := .seq (.reg [.asg none 2 (.const (.bool false)), .asg none 3 (.var 0), .eff none (some 4) (.binOp .neq 25 (.tmp 3) (.const (.pointer none)) 25) 4, .asg none 5 (.var 4), .asg (some (5, true)) 9 (.op1 .load1 (.op1 (.fadr 4) (.op1 .nilc (.var 0)))), .eff (some (5, true)) (some 10) (.binOp .neq 94 (.tmp 9) (.const (.pointer none)) 94) 4, .asg none 2 (.ite (.var 5) (.var 10) (.const (.bool false)))]) <| .ret
def ir47_V : List Nat := [0, 2, 3, 4, 5, 9, 10]
theorem ir47_calls (h : ∀ ρ : Env, ρ 0 = v0 → ir47.wp ⟨Tryz.prog, 12, ir47_V, []⟩ (retK [.tmp 2] R) (ksOf [.tmp 2] R) ρ w) : Calls Tryz.prog 47 #[v0] w R :=
 calls_irX (raws := []) (ir := ir47) Tryz.func47 rfl (by kernel_rfl) (by kernel_rfl) (by kernel_rfl) (Nat.le_of_ble_eq_true rfl) (h _ rfl)
noncomputable def ir44 : IR := .seq (.reg [.asg none 4 (.const (.bool false)), .asg none 5 (.var 0), .asg none 6 (.var 1), .eff none (some 7) (.call { callee := .value (.func 20), args := #[(.tmp 5), (.tmp 6)], argTypes := #[25, 3] }) 4, .asg none 8 (.var 7), .asg (some (8, true)) 13 (.op1 .load1 (.op1 (.fadr 3) (.op1 (.fadr 0) (.op1 .nilc (.var 0))))), .asg (some (8, true)) 14 (.var 1), .eff (some (8, true)) (some 15) (.lookup 91 (.tmp 13) (.tmp 14) false) 129, .asg none 4 (.ite (.var 8) (.op1 .not (.op1 .load1 (.op1 (.fadr 2) (.op1 .nilc (.var 15))))) (.const (.bool false)))]) <| .ret
def ir44_V : List Nat := [0, 1, 4, 5, 6, 7, 8, 13, 14, 15]
theorem ir44_calls (h : ∀ ρ : Env, ρ 0 = v0 → ρ 1 = v1 → ir44.wp ⟨Tryz.prog, 21, ir44_V, []⟩ (retK [.tmp 4] R) (ksOf [.tmp 4] R) ρ w) : Calls Tryz.prog 44 #[v0, v1] w R :=
 calls_irX (raws := []) (ir := ir44) Tryz.func44 rfl (by kernel_rfl) (by kernel_rfl) (by kernel_rfl) (Nat.le_of_ble_eq_true rfl) (h _ rfl rfl)
noncomputable def ir189_k0 : IR := .reg [.asg none 11 (.op2 (.ibin .add .i64) (.var 11) (.const (.int .i64 1)))]
noncomputable def ir189_k1 : IR := .seq (.block 1 (.seq (.reg [.asg none 5 (.op1 .load1 (.op2 (.ixa 1) (.var 9) (.var 11))), .asg none 24 (.ite (.op2 (.ibin .eql .u8) (.op1 .load1 (.op1 (.fadr 0) (.op1 .nilc (.var 0)))) (.const (.int .u8 2))) (.op2 (.ibin .neq .i64) (.var 5) (.const (.int .i64 0))) (.const (.bool false))), .asg (some (24, true)) 25 (.var 1), .asg (some (24, true)) 26 (.var 5), .eff (some (24, true)) (some 27) (.call { callee := .value (.tmp 25), args := #[(.tmp 26)], argTypes := #[3] }) 4, .asg none 29 (.ite (.var 24) (.op1 .not (.var 27)) (.const (.bool false)))]) <| .cond (.var 29) (.ret) (.skip))) (ir189_k0)
noncomputable def ir189_l2 : IR := .seq (.reg [.asg none 12 (.op2 (.ibin .lss .i64) (.var 11) (.var 10))]) <| .seq (.cond (.var 12) (.skip) (.exit 0)) (ir189_k1)
noncomputable def ir189 : IR := .seq (.reg [.asg none 9 (.op1 .load1 (.op1 (.fadr 1) (.op1 .nilc (.var 0)))), .asg none 10 (.op1 .lenS (.var 9)), .asg none 11 (.const (.int .i64 0))]) <| .block 0 (.loop ir189_l2)
def ir189_V : List Nat := [0, 1, 5, 9, 10, 11, 12, 24, 25, 26, 27, 29]
theorem ir189_calls (h : ∀ ρ : Env, ρ 0 = v0 → ρ 1 = v1 → ir189.wp ⟨Tryz.prog, 31, ir189_V, []⟩ (retK [] R) (ksOf [] R) ρ w) : Calls Tryz.prog 189 #[v0, v1] w R :=
 calls_irX (raws := []) (ir := ir189) Tryz.func189 rfl (by kernel_rfl) (by kernel_rfl) (by kernel_rfl) (Nat.le_of_ble_eq_true rfl) (h _ rfl rfl)
noncomputable def ir190 : IR := .seq (.reg [.asg none 2 (.const (.int .i64 0)), .asg none 2 (.op2 (.ibin .add .i64) (.const (.int .i64 2)) (.op1 .lenS (.op1 .load1 (.op1 (.fadr 1) (.op1 .nilc (.var 0))))))]) <| .ret
def ir190_V : List Nat := [0, 2]
theorem ir190_calls (h : ∀ ρ : Env, ρ 0 = v0 → ir190.wp ⟨Tryz.prog, 9, ir190_V, []⟩ (retK [.tmp 2] R) (ksOf [.tmp 2] R) ρ w) : Calls Tryz.prog 190 #[v0] w R :=
 calls_irX (raws := []) (ir := ir190) Tryz.func190 rfl (by kernel_rfl) (by kernel_rfl) (by kernel_rfl) (Nat.le_of_ble_eq_true rfl) (h _ rfl)
noncomputable def ir191_k0 : IR := .reg [.asg none 11 (.op2 (.ibin .add .i64) (.var 11) (.const (.int .i64 1)))]
noncomputable def ir191_k1 : IR := .seq (.block 1 (.seq (.reg [.asg none 13 (.var 11), .asg none 15 (.op1 .load1 (.op2 (.ixa 1) (.var 9) (.var 11))), .asg none 4 (.var 13), .asg none 5 (.var 15), .asg none 28 (.ite (.op2 (.ibin .eql .u8) (.op1 .load1 (.op2 (.ixa 1) (.op1 .load1 (.op1 (.fadr 1) (.op1 .nilc (.var 0)))) (.var 4))) (.const (.int .u8 2))) (.op2 (.ibin .neq .i64) (.var 5) (.const (.int .i64 0))) (.const (.bool false))), .asg (some (28, true)) 29 (.var 1), .asg (some (28, true)) 30 (.var 5), .eff (some (28, true)) (some 31) (.call { callee := .value (.tmp 29), args := #[(.tmp 30)], argTypes := #[3] }) 4, .asg none 33 (.ite (.var 28) (.op1 .not (.var 31)) (.const (.bool false)))]) <| .cond (.var 33) (.ret) (.skip))) (ir191_k0)
noncomputable def ir191_l2 : IR := .seq (.reg [.asg none 12 (.op2 (.ibin .lss .i64) (.var 11) (.var 10))]) <| .seq (.cond (.var 12) (.skip) (.exit 0)) (ir191_k1)
noncomputable def ir191 : IR := .seq (.reg [.asg none 9 (.op1 .load1 (.op1 (.fadr 2) (.op1 .nilc (.var 0)))), .asg none 10 (.op1 .lenS (.var 9)), .asg none 11 (.const (.int .i64 0))]) <| .block 0 (.loop ir191_l2)
def ir191_V : List Nat := [0, 1, 4, 5, 9, 10, 11, 12, 13, 15, 28, 29, 30, 31, 33]
theorem ir191_calls (h : ∀ ρ : Env, ρ 0 = v0 → ρ 1 = v1 → ir191.wp ⟨Tryz.prog, 35, ir191_V, []⟩ (retK [] R) (ksOf [] R) ρ w) : Calls Tryz.prog 191 #[v0, v1] w R :=
 calls_irX (raws := []) (ir := ir191) Tryz.func191 rfl (by kernel_rfl) (by kernel_rfl) (by kernel_rfl) (Nat.le_of_ble_eq_true rfl) (h _ rfl rfl)
noncomputable def ir192 : IR := .seq (.reg [.asg none 2 (.const (.int .i64 0)), .asg none 2 (.op2 (.ibin .add .i64) (.const (.int .i64 2)) (.op1 .lenS (.op1 .load1 (.op1 (.fadr 2) (.op1 .nilc (.var 0))))))]) <| .ret
def ir192_V : List Nat := [0, 2]
theorem ir192_calls (h : ∀ ρ : Env, ρ 0 = v0 → ir192.wp ⟨Tryz.prog, 9, ir192_V, []⟩ (retK [.tmp 2] R) (ksOf [.tmp 2] R) ρ w) : Calls Tryz.prog 192 #[v0] w R :=
 calls_irX (raws := []) (ir := ir192) Tryz.func192 rfl (by kernel_rfl) (by kernel_rfl) (by kernel_rfl) (Nat.le_of_ble_eq_true rfl) (h _ rfl)
end Go.L17
namespace Go.L17
open Go Go.Eng Go.Proofs
set_option maxRecDepth 100000
set_option maxHeartbeats 2000000
variable {v0 v1 v2 v3 v4 : Value} {w : World} {R : Ending → World → Prop}
noncomputable def ir110_k0 : IR := .reg [.asg none 17 (.var 0), .asg none 22 (.op2 (.ibin .add .i64) (.op1 .load1 (.op1 (.fadr 1) (.op1 .nilc (.var 17)))) (.var 1)), .asg none 24 (.op1 (.fadr 1) (.op1 .nilc (.var 17))), .eff none none (.store 3 (.tmp 24) (.tmp 22)) 0]
noncomputable def ir110_k1 : IR := .seq (.cond (.var 14) (.reg [.eff none (some 15) (.build 156 #[]) 156, .asg none 16 (.op1 (.mkif 156) (.var 15)), .eff none none (.panic (.tmp 16)) 0]) (.skip)) (ir110_k0)
noncomputable def ir110 : IR := .seq (.drw [.asg none 14 (.op2 (.ibin .gtr .i64) (.op2 (.ibin .add .i64) (.op1 .load1 (.op1 (.fadr 1) (.op1 .nilc (.var 0)))) (.var 1)) (.op1 .load1 (.op1 (.fadr 0) (.op1 .nilc (.var 0)))))]) (ir110_k1)
def ir110_V : List Nat := [0, 1, 14, 15, 16, 17, 22, 24]
theorem ir110_calls (h : ∀ ρ : Env, ρ 0 = v0 → ρ 1 = v1 → ir110.wp ⟨Tryz.prog, 25, ir110_V, []⟩ (retK [] R) (ksOf [] R) ρ w) : Calls Tryz.prog 110 #[v0, v1] w R :=
 calls_irX (raws := []) (ir := ir110) Tryz.func110 rfl (by kernel_rfl) (by kernel_rfl) (by kernel_rfl) (Nat.le_of_ble_eq_true rfl) (h _ rfl rfl)
noncomputable def ir131_body : Code := ((Tryz.f131.body).getD .skip)
noncomputable def ir131 : IR := .raw (rawReg ir131_body 0)
def ir131_V : List Nat := [0, 1, 2, 3, 4, 5, 6]
theorem ir131_calls (h : ∀ ρ : Env, ρ 0 = v0 → ρ 1 = v1 → ir131.wp ⟨Tryz.prog, 7, ir131_V, []⟩ (retK [] R) (ksOf [] R) ρ w) : Calls Tryz.prog 131 #[v0, v1] w R :=
 calls_irX (raws := [0]) (ir := ir131) Tryz.func131 rfl (by kernel_rfl) (by kernel_rfl) (by kernel_rfl) (Nat.le_of_ble_eq_true rfl) (h _ rfl rfl)
noncomputable def ir131_o0 : OT := .take none 2 (.op1 .load1 (.var 0)) <| .take none 3 (.op1 .nilc (.var 2)) <| .take none 4 (.op1 (.fadr 0) (.var 3)) <| .take none 5 (.op1 .load1 (.var 1)) <| .step (.eff none (some 6) (.call { callee := .value (.func 132), args := #[(.tmp 4), (.tmp 5)], argTypes := #[93, 131] }) 0) false <| .done
theorem ir131_o0_ok : ordOf Tryz.prog 7 ir131_V 4 (rawReg ir131_body 0) = some ir131_o0 := by kernel_rfl
noncomputable def ir132_body : Code := ((Tryz.f132.body).getD .skip)
noncomputable def ir132 : IR := .seq (.reg [.asg none 4 (.var 0), .asg none 5 (.var 1), .eff none (some 6) (.call { callee := .invoke (.tmp 5) "argus/heap.words", args := #[], argTypes := #[] }) 3, .eff none (some 7) (.call { callee := .value (.func 110), args := #[(.tmp 4), (.tmp 6)], argTypes := #[149, 3] }) 0, .asg none 8 (.var 0), .asg none 12 (.op2 (.ibin .add .i64) (.op1 .load1 (.op1 (.fadr 2) (.op1 .nilc (.var 8)))) (.const (.int .i64 1))), .asg none 14 (.op1 (.fadr 2) (.op1 .nilc (.var 8))), .eff none none (.store 3 (.tmp 14) (.tmp 12)) 0]) <| .raw (rawReg ir132_body 2)
def ir132_V : List Nat := [0, 1, 4, 5, 6, 7, 8, 12, 14, 15, 16, 17, 18, 19, 20, 21, 22, 23, 24, 25]
theorem ir132_calls (h : ∀ ρ : Env, ρ 0 = v0 → ρ 1 = v1 → ir132.wp ⟨Tryz.prog, 26, ir132_V, []⟩ (retK [] R) (ksOf [] R) ρ w) : Calls Tryz.prog 132 #[v0, v1] w R :=
 calls_irX (raws := [2]) (ir := ir132) Tryz.func132 rfl (by kernel_rfl) (by kernel_rfl) (by kernel_rfl) (Nat.le_of_ble_eq_true rfl) (h _ rfl rfl)
noncomputable def ir132_o2 : OT := .take none 15 (.var 0) <| .take none 16 (.op1 .nilc (.var 15)) <| .take none 17 (.op1 (.fadr 3) (.var 16)) <| .take none 18 (.op1 .load1 (.var 17)) <| .take none 19 (.var 0) <| .take none 20 (.op1 .nilc (.var 19)) <| .take none 21 (.op1 (.fadr 2) (.var 20)) <| .take none 22 (.op1 .load1 (.var 21)) <| .take none 23 (.var 1) <| .step (.eff none (some 24) (.build 133 #[(0, (.tmp 23))]) 133) true <| .step (.eff none (some 25) (.box 133 (.tmp 24)) 129) true <| .step (.eff none none (.mapUpdate 91 (.tmp 18) (.tmp 22) (.tmp 25)) 0) false <| .done
theorem ir132_o2_ok : ordOf Tryz.prog 26 ir132_V 11 (rawReg ir132_body 2) = some ir132_o2 := by kernel_rfl
noncomputable def ir108 : IR := .seq (.reg [.eff none (some 4) (.alloc 4) 0, .eff none (some 5) (.makeFunc (.func 137) #[] #[(.tmp 4)]) 1, .eff none none (.defer { callee := .value (.tmp 5), args := #[], argTypes := #[] }) 0, .asg none 6 (.var 1), .eff none (some 7) (.call { callee := .value (.tmp 6), args := #[], argTypes := #[] }) 0, .eff none none (.store 4 (.tmp 4) (.const (.bool true))) 0]) <| .ret
def ir108_V : List Nat := [0, 1, 4, 5, 6, 7]
theorem ir108_ok : (comp Tryz.prog Tryz.f108.ntmps ir108_V [] (Tryz.f108.body.getD .skip)).map IR.norm = some ir108 := by kernel_rfl
theorem ir108_calls {v0 v1 : Value} {w : World} {R : Ending → World → Prop} (h : ∀ ρ : Env, ρ 0 = v0 → ρ 1 = v1 → ρ gS = .tuple #[] → ir108.wp ⟨Tryz.prog, 8, ir108_V, dAny⟩ (endK Tryz.prog [.cell1 4] R .returning) (ksD Tryz.prog [.cell1 4] R) ρ w) :
  Calls Tryz.prog 108 #[v0, v1] w R := by
 obtain ⟨ir0, h1, h2⟩ := Option.map_eq_some_iff.1 ir108_ok
 exact calls_irD (args := #[v0, v1]) Tryz.func108 (c := (Tryz.f108.body.getD .skip)) rfl h1 h2 (by kernel_rfl) (show rvsOf Tryz.prog ir108_V Tryz.f108.results.toList = some [.cell1 4] by kernel_rfl) (Nat.le_of_ble_eq_true rfl) (h _ rfl rfl rfl)
noncomputable def ir98_k0 : IR := .seq (.reg [.asg none 4 (.op1 .load1 (.op1 (.fadr 2) (.op1 (.fadr 0) (.op1 .nilc (.op1 .load1 (.var 2)))))), .asg none 5 (.const (.int .i64 0))]) <| .ret
noncomputable def ir98 : IR := .seq (.reg [.eff none (some 2) (.box 25 (.tmp 0)) 0, .eff none (some 3) (.box 131 (.tmp 1)) 0, .asg none 4 (.const (.int .i64 0)), .asg none 5 (.const (.int .i64 0)), .asg none 8 (.op1 (.fadr 0) (.op1 .nilc (.op1 .load1 (.var 2)))), .eff none (some 9) (.makeFunc (.func 131) #[] #[(.tmp 2), (.tmp 3)]) 1, .eff none (some 10) (.call { callee := .value (.func 108), args := #[(.tmp 8), (.tmp 9)], argTypes := #[93, 1] }) 4, .asg none 11 (.op1 .not (.var 10))]) <| .seq (.cond (.var 11) (.seq (.reg [.asg none 4 (.const (.int .i64 0)), .asg none 5 (.const (.int .i64 170))]) <| .ret) (.skip)) (ir98_k0)
def ir98_V : List Nat := [0, 1, 2, 3, 4, 5, 8, 9, 10, 11]
theorem ir98_calls (h : ∀ ρ : Env, ρ 0 = v0 → ρ 1 = v1 → ir98.wp ⟨Tryz.prog, 17, ir98_V, []⟩ (retK [.tmp 4, .tmp 5] R) (ksOf [.tmp 4, .tmp 5] R) ρ w) : Calls Tryz.prog 98 #[v0, v1] w R :=
 calls_irX (raws := []) (ir := ir98) Tryz.func98 rfl (by kernel_rfl) (by kernel_rfl) (by kernel_rfl) (Nat.le_of_ble_eq_true rfl) (h _ rfl rfl)
noncomputable def ir32_k0 : IR := .seq (.reg [.asg none 58 (.op2 (.ibin .eql .i64) (.var 10) (.const (.int .i64 1)))]) <| .cond (.var 58) (.seq (.reg [.asg none 59 (.var 10), .asg none 8 (.const (.int .i64 0)), .asg none 9 (.var 59)]) <| .ret) (.skip)
noncomputable def ir32_k1 : IR := .reg [.asg none 38 (.op2 (.ibin .add .i64) (.var 38) (.const (.int .i64 1)))]
noncomputable def ir32_k2 : IR := .seq (.block 1 (.seq (.reg [.asg none 40 (.var 38), .asg none 42 (.op1 .load1 (.op2 (.ixa 1) (.var 36) (.var 38))), .asg none 11 (.var 40), .asg none 12 (.var 42), .asg none 43 (.var 0), .asg none 47 (.op1 .load1 (.op2 (.ixa 1) (.var 2) (.var 11))), .asg none 48 (.var 12), .eff none (some 49) (.call { callee := .value (.func 97), args := #[(.tmp 43), (.tmp 47), (.tmp 48)], argTypes := #[25, 5, 3] }) 26, .asg none 13 (.var 49), .asg none 55 (.ite (.op2 (.ibin .eql .i64) (.var 13) (.const (.int .i64 1))) (.const (.bool true)) (.op2 (.ibin .eql .i64) (.var 10) (.const (.int .i64 0))))]) <| .seq (.cond (.var 55) (.reg [.asg none 10 (.var 13)]) (.skip)) (ir32_k0))) (ir32_k1)
noncomputable def ir32_l3 : IR := .seq (.reg [.asg none 39 (.op2 (.ibin .lss .i64) (.var 38) (.var 37))]) <| .seq (.cond (.var 39) (.skip) (.exit 0)) (ir32_k2)
noncomputable def ir32_k4 : IR := .seq (.reg [.asg none 64 (.var 0), .asg none 65 (.var 1), .asg none 66 (.var 2), .eff none (some 67) (.call { callee := .value (.func 99), args := #[(.tmp 66)], argTypes := #[34] }) 34, .asg none 68 (.var 3), .eff none (some 69) (.call { callee := .value (.func 33), args := #[(.tmp 68)], argTypes := #[35] }) 35, .eff none (some 70) (.build 117 #[(0, (.tmp 65)), (1, (.tmp 67)), (2, (.tmp 69))]) 117, .eff none (some 71) (.box 117 (.tmp 70)) 113, .asg none 72 (.op1 (.mkif 113) (.var 71)), .eff none (some 73) (.call { callee := .value (.func 98), args := #[(.tmp 64), (.tmp 72)], argTypes := #[25, 131] }) 55, .asg none 74 (.op1 (.ext 0) (.var 73)), .asg none 75 (.op1 (.ext 1) (.var 73)), .asg none 8 (.var 74), .asg none 9 (.var 75)]) <| .ret
noncomputable def ir32_k5 : IR := .seq (.reg [.asg none 62 (.op2 (.ibin .neq .i64) (.var 10) (.const (.int .i64 0)))]) <| .seq (.cond (.var 62) (.seq (.reg [.asg none 63 (.var 10), .asg none 8 (.const (.int .i64 0)), .asg none 9 (.var 63)]) <| .ret) (.skip)) (ir32_k4)
noncomputable def ir32_k6 : IR := .seq (.reg [.asg none 10 (.const (.int .i64 0)), .asg none 36 (.var 3), .asg none 37 (.op1 .lenS (.var 36)), .asg none 38 (.const (.int .i64 0))]) <| .seq (.block 0 (.loop ir32_l3)) (ir32_k5)
noncomputable def ir32_k7 : IR := .seq (.reg [.asg none 16 (.var 1), .eff none (some 17) (.call { callee := .value (.func 58), args := #[(.tmp 16), (.const (.int .i64 0)), (.const (.int .i64 5))], argTypes := #[3, 3, 3] }) 4, .asg none 19 (.op1 .not (.var 17)), .asg (some (19, false)) 21 (.op1 .lenS (.var 2)), .eff (some (19, false)) (some 22) (.call { callee := .value (.func 58), args := #[(.tmp 21), (.const (.int .i64 1)), (.const (.int .i64 6))], argTypes := #[3, 3, 3] }) 4, .asg none 32 (.ite (.ite (.var 19) (.const (.bool true)) (.op1 .not (.var 22))) (.const (.bool true)) (.op2 (.ibin .neq .i64) (.op1 .lenS (.var 3)) (.op1 .lenS (.var 2)))), .asg (some (32, false)) 33 (.var 2), .eff (some (32, false)) (some 34) (.call { callee := .value (.func 94), args := #[(.tmp 33), (.func 95)], argTypes := #[34, 121] }) 4, .asg none 35 (.ite (.var 32) (.const (.bool true)) (.var 34))]) <| .seq (.cond (.var 35) (.seq (.reg [.asg none 8 (.const (.int .i64 0)), .asg none 9 (.const (.int .i64 1))]) <| .ret) (.skip)) (ir32_k6)
noncomputable def ir32 : IR := .seq (.reg [.asg none 8 (.const (.int .i64 0)), .asg none 9 (.const (.int .i64 0)), .asg none 14 (.var 0), .eff none (some 15) (.binOp .eql 25 (.tmp 14) (.const (.pointer none)) 25) 4]) <| .seq (.cond (.var 15) (.seq (.reg [.asg none 8 (.const (.int .i64 0)), .asg none 9 (.const (.int .i64 3))]) <| .ret) (.skip)) (ir32_k7)
def ir32_V : List Nat := [0, 1, 2, 3, 8, 9, 10, 11, 12, 13, 14, 15, 16, 17, 19, 21, 22, 32, 33, 34, 35, 36, 37, 38, 39, 40, 42, 43, 47, 48, 49, 55, 58, 59, 62, 63, 64, 65, 66, 67, 68, 69, 70, 71, 72, 73, 74, 75]
theorem ir32_calls (h : ∀ ρ : Env, ρ 0 = v0 → ρ 1 = v1 → ρ 2 = v2 → ρ 3 = v3 → ir32.wp ⟨Tryz.prog, 76, ir32_V, []⟩ (retK [.tmp 8, .tmp 9] R) (ksOf [.tmp 8, .tmp 9] R) ρ w) : Calls Tryz.prog 32 #[v0, v1, v2, v3] w R :=
 calls_irX (raws := []) (ir := ir32) Tryz.func32 rfl (by kernel_rfl) (by kernel_rfl) (by kernel_rfl) (Nat.le_of_ble_eq_true rfl) (h _ rfl rfl rfl rfl)
noncomputable def ir36_k0 : IR := .seq (.reg [.asg none 11 (.var 0), .asg none 12 (.var 1), .eff none (some 13) (.build 112 #[(0, (.tmp 12))]) 112, .eff none (some 14) (.box 112 (.tmp 13)) 108, .asg none 15 (.op1 (.mkif 108) (.var 14)), .eff none (some 16) (.call { callee := .value (.func 98), args := #[(.tmp 11), (.tmp 15)], argTypes := #[25, 131] }) 55, .asg none 17 (.op1 (.ext 0) (.var 16)), .asg none 18 (.op1 (.ext 1) (.var 16)), .asg none 4 (.var 17), .asg none 5 (.var 18)]) <| .ret
noncomputable def ir36_k1 : IR := .seq (.reg [.asg none 8 (.var 1), .eff none (some 9) (.call { callee := .value (.func 96), args := #[(.tmp 8)], argTypes := #[5] }) 4, .asg none 10 (.op1 .not (.var 9))]) <| .seq (.cond (.var 10) (.seq (.reg [.asg none 4 (.const (.int .i64 0)), .asg none 5 (.const (.int .i64 1))]) <| .ret) (.skip)) (ir36_k0)
noncomputable def ir36 : IR := .seq (.reg [.asg none 4 (.const (.int .i64 0)), .asg none 5 (.const (.int .i64 0)), .asg none 6 (.var 0), .eff none (some 7) (.binOp .eql 25 (.tmp 6) (.const (.pointer none)) 25) 4]) <| .seq (.cond (.var 7) (.seq (.reg [.asg none 4 (.const (.int .i64 0)), .asg none 5 (.const (.int .i64 3))]) <| .ret) (.skip)) (ir36_k1)
def ir36_V : List Nat := [0, 1, 4, 5, 6, 7, 8, 9, 10, 11, 12, 13, 14, 15, 16, 17, 18]
theorem ir36_calls (h : ∀ ρ : Env, ρ 0 = v0 → ρ 1 = v1 → ir36.wp ⟨Tryz.prog, 19, ir36_V, []⟩ (retK [.tmp 4, .tmp 5] R) (ksOf [.tmp 4, .tmp 5] R) ρ w) : Calls Tryz.prog 36 #[v0, v1] w R :=
 calls_irX (raws := []) (ir := ir36) Tryz.func36 rfl (by kernel_rfl) (by kernel_rfl) (by kernel_rfl) (Nat.le_of_ble_eq_true rfl) (h _ rfl rfl)
noncomputable def ir103_body : Code := ((Tryz.f103.body).getD .skip)
noncomputable def ir103_k0 : IR := .seq (.reg [.asg none 29 (.op1 .load1 (.op1 (.fadr 3) (.op1 .nilc (.op1 .load1 (.op1 (.fadr 4) (.op1 .nilc (.var 0))))))), .asg none 30 (.var 1), .eff none (some 31) (.lookup 125 (.tmp 29) (.tmp 30) true) 153, .asg none 22 (.var 31), .asg none 32 (.op1 (.ext 0) (.var 22)), .asg none 33 (.op1 (.ext 1) (.var 22)), .asg none 4 (.var 32), .asg none 5 (.var 33), .asg none 35 (.op1 .not (.var 5))]) <| .cond (.var 35) (.raw (rawReg ir103_body 3)) (.skip)
noncomputable def ir103 : IR := .seq (.reg [.asg none 9 (.op1 .load1 (.op1 (.fadr 4) (.op1 .nilc (.var 0)))), .eff none (some 10) (.binOp .eql 94 (.tmp 9) (.const (.pointer none)) 94) 4, .asg none 21 (.ite (.var 10) (.const (.bool true)) (.op2 (.ibin .gtr .i64) (.var 1) (.op1 .load1 (.op1 (.fadr 0) (.op1 .nilc (.op1 .load1 (.op1 (.fadr 4) (.op1 .nilc (.var 0)))))))))]) <| .seq (.cond (.var 21) (.ret) (.skip)) (ir103_k0)
def ir103_V : List Nat := [0, 1, 4, 5, 9, 10, 21, 22, 29, 30, 31, 32, 33, 35, 36, 37, 38, 39, 40, 41, 42, 43, 44, 45, 46, 47, 48, 49, 50, 51, 52, 53, 54, 55, 56]
theorem ir103_calls (h : ∀ ρ : Env, ρ 0 = v0 → ρ 1 = v1 → ir103.wp ⟨Tryz.prog, 57, ir103_V, []⟩ (retK [] R) (ksOf [] R) ρ w) : Calls Tryz.prog 103 #[v0, v1] w R :=
 calls_irX (raws := [3]) (ir := ir103) Tryz.func103 rfl (by kernel_rfl) (by kernel_rfl) (by kernel_rfl) (Nat.le_of_ble_eq_true rfl) (h _ rfl rfl)
noncomputable def ir103_o3 : OT := .take none 36 (.var 0) <| .take none 37 (.op1 .nilc (.var 36)) <| .take none 38 (.op1 (.fadr 4) (.var 37)) <| .take none 39 (.op1 .load1 (.var 38)) <| .take none 40 (.op1 .nilc (.var 39)) <| .take none 41 (.op1 (.fadr 3) (.var 40)) <| .take none 42 (.op1 .load1 (.var 41)) <| .take none 43 (.var 1) <| .take none 44 (.var 0) <| .take none 45 (.op1 .nilc (.var 44)) <| .take none 46 (.op1 (.fadr 0) (.var 45)) <| .take none 47 (.op1 (.fadr 3) (.var 46)) <| .take none 48 (.op1 .load1 (.var 47)) <| .take none 49 (.var 1) <| .step (.eff none (some 50) (.lookup 91 (.tmp 48) (.tmp 49) false) 129) true <| .take none 51 (.op1 .nilc (.var 50)) <| .take none 52 (.op1 (.fadr 0) (.var 51)) <| .take none 53 (.op1 .load1 (.var 52)) <| .take none 54 (.op1 .nilc (.var 53)) <| .step (.eff none (some 55) (.makeFunc (.method "argus/heap.refs") #[(.tmp 54)] #[]) 103) true <| .step (.eff none (some 56) (.call { callee := .value (.func 133), args := #[(.tmp 55)], argTypes := #[104] }) 35) true <| .step (.eff none none (.mapUpdate 125 (.tmp 42) (.tmp 43) (.tmp 56)) 0) false <| .done
theorem ir103_o3_ok : ordOf Tryz.prog 57 ir103_V 21 (rawReg ir103_body 3) = some ir103_o3 := by kernel_rfl
noncomputable def ir40_k0 : IR := .seq (.reg [.asg none 33 (.var 0), .asg none 34 (.var 1), .eff none (some 35) (.call { callee := .value (.func 103), args := #[(.tmp 33), (.tmp 34)], argTypes := #[25, 3] }) 0, .asg none 39 (.op1 .load1 (.op1 (.fadr 2) (.op1 .nilc (.var 9)))), .asg none 40 (.var 2), .asg none 41 (.var 3), .asg none 42 (.op2 (.ixa 1) (.var 39) (.var 40)), .eff none none (.store 3 (.tmp 42) (.tmp 41)) 0, .asg none 8 (.const (.int .i64 0))]) <| .ret
noncomputable def ir40_k1 : IR := .seq (.reg [.asg none 31 (.op2 (.ibin .neq .i64) (.var 10) (.const (.int .i64 0)))]) <| .seq (.cond (.var 31) (.seq (.reg [.asg none 8 (.var 10)]) <| .ret) (.skip)) (ir40_k0)
noncomputable def ir40 : IR := .seq (.reg [.asg none 8 (.const (.int .i64 0)), .asg none 12 (.var 0), .asg none 13 (.var 1), .asg none 14 (.var 2), .eff none (some 15) (.call { callee := .value (.func 92), args := #[(.tmp 12), (.tmp 13), (.tmp 14)], argTypes := #[25, 3, 3] }) 114, .asg none 11 (.var 15), .asg none 16 (.op1 (.ext 0) (.var 11)), .asg none 17 (.op1 (.ext 1) (.var 11)), .asg none 9 (.var 16), .asg none 10 (.var 17), .asg none 19 (.op2 (.ibin .eql .i64) (.var 10) (.const (.int .i64 0)))]) <| .seq (.cond (.var 19) (.reg [.asg none 20 (.var 0), .asg none 27 (.op1 .load1 (.op2 (.ixa 1) (.op1 .load1 (.op1 (.fadr 1) (.op1 .nilc (.var 9)))) (.var 2))), .asg none 28 (.var 3), .eff none (some 29) (.call { callee := .value (.func 97), args := #[(.tmp 20), (.tmp 27), (.tmp 28)], argTypes := #[25, 5, 3] }) 26, .asg none 10 (.var 29)]) (.skip)) (ir40_k1)
def ir40_V : List Nat := [0, 1, 2, 3, 8, 9, 10, 11, 12, 13, 14, 15, 16, 17, 19, 20, 27, 28, 29, 31, 33, 34, 35, 39, 40, 41, 42]
theorem ir40_calls (h : ∀ ρ : Env, ρ 0 = v0 → ρ 1 = v1 → ρ 2 = v2 → ρ 3 = v3 → ir40.wp ⟨Tryz.prog, 43, ir40_V, []⟩ (retK [.tmp 8] R) (ksOf [.tmp 8] R) ρ w) : Calls Tryz.prog 40 #[v0, v1, v2, v3] w R :=
 calls_irX (raws := []) (ir := ir40) Tryz.func40 rfl (by kernel_rfl) (by kernel_rfl) (by kernel_rfl) (Nat.le_of_ble_eq_true rfl) (h _ rfl rfl rfl rfl)
noncomputable def ir41_body : Code := ((Tryz.f41.body).getD .skip)
noncomputable def ir41_k0 : IR := .seq (.reg [.asg none 39 (.op1 .load1 (.var 3)), .asg none 40 (.var 1), .eff none (some 41) (.call { callee := .value (.func 103), args := #[(.tmp 39), (.tmp 40)], argTypes := #[25, 3] }) 0, .asg none 42 (.var 7), .asg none 46 (.op1 .load1 (.op1 (.fadr 1) (.op1 .nilc (.var 7)))), .asg none 47 (.var 2), .eff none (some 48) (.buildSlice 35 1 #[(0, (.tmp 47))]) 35, .eff none (some 49) (.call { callee := .builtin .append, args := #[(.tmp 46), (.tmp 48)], argTypes := #[35, 35] }) 35, .asg none 51 (.op1 (.fadr 1) (.op1 .nilc (.var 42))), .eff none none (.store 35 (.tmp 51) (.tmp 49)) 0, .asg none 6 (.const (.int .i64 0))]) <| .ret
noncomputable def ir41_k1 : IR := .seq (.reg [.asg none 35 (.op1 (.fadr 0) (.op1 .nilc (.op1 .load1 (.var 3)))), .eff none (some 36) (.makeFunc (.func 109) #[] #[(.tmp 3)]) 1, .eff none (some 37) (.call { callee := .value (.func 108), args := #[(.tmp 35), (.tmp 36)], argTypes := #[93, 1] }) 4, .asg none 38 (.op1 .not (.var 37))]) <| .seq (.cond (.var 38) (.seq (.reg [.asg none 6 (.const (.int .i64 170))]) <| .ret) (.skip)) (ir41_k0)
noncomputable def ir41_k2 : IR := .seq (.reg [.asg none 32 (.op2 (.ibin .geq .i64) (.op1 .lenS (.op1 .load1 (.op1 (.fadr 1) (.op1 .nilc (.var 7))))) (.const (.int .i64 200)))]) <| .seq (.cond (.var 32) (.seq (.reg [.asg none 6 (.const (.int .i64 2))]) <| .ret) (.skip)) (ir41_k1)
noncomputable def ir41_k3 : IR := .seq (.reg [.asg none 25 (.op2 (.ibin .neq .i64) (.var 8) (.const (.int .i64 0)))]) <| .seq (.cond (.var 25) (.seq (.reg [.asg none 6 (.var 8)]) <| .ret) (.skip)) (ir41_k2)
noncomputable def ir41 : IR := .seq (.reg [.eff none (some 3) (.box 25 (.tmp 0)) 0, .asg none 6 (.const (.int .i64 0)), .asg none 10 (.op1 .load1 (.var 3)), .asg none 11 (.var 1), .eff none (some 12) (.call { callee := .value (.func 90), args := #[(.tmp 10), (.tmp 11)], argTypes := #[25, 3] }) 109, .asg none 9 (.var 12), .asg none 13 (.op1 (.ext 0) (.var 9)), .asg none 14 (.op1 (.ext 1) (.var 9)), .asg none 7 (.var 13), .asg none 8 (.var 14), .asg none 16 (.op2 (.ibin .eql .i64) (.var 8) (.const (.int .i64 0)))]) <| .seq (.cond (.var 16) (.raw (rawReg ir41_body 3)) (.skip)) (ir41_k3)
def ir41_V : List Nat := [0, 1, 2, 3, 6, 7, 8, 9, 10, 11, 12, 13, 14, 16, 17, 18, 19, 20, 21, 22, 23, 25, 32, 35, 36, 37, 38, 39, 40, 41, 42, 46, 47, 48, 49, 51]
theorem ir41_calls (h : ∀ ρ : Env, ρ 0 = v0 → ρ 1 = v1 → ρ 2 = v2 → ir41.wp ⟨Tryz.prog, 52, ir41_V, []⟩ (retK [.tmp 6] R) (ksOf [.tmp 6] R) ρ w) : Calls Tryz.prog 41 #[v0, v1, v2] w R :=
 calls_irX (raws := [3]) (ir := ir41) Tryz.func41 rfl (by kernel_rfl) (by kernel_rfl) (by kernel_rfl) (Nat.le_of_ble_eq_true rfl) (h _ rfl rfl rfl)
noncomputable def ir41_o3 : OT := .take none 17 (.op1 .load1 (.var 3)) <| .take none 18 (.var 7) <| .take none 19 (.op1 .nilc (.var 18)) <| .take none 20 (.op1 (.fadr 0) (.var 19)) <| .take none 21 (.op1 .load1 (.var 20)) <| .take none 22 (.var 2) <| .step (.eff none (some 23) (.call { callee := .value (.func 97), args := #[(.tmp 17), (.tmp 21), (.tmp 22)], argTypes := #[25, 5, 3] }) 26) false <| .step (.asg none 8 (.var 23)) false <| .done
theorem ir41_o3_ok : ordOf Tryz.prog 52 ir41_V 6 (rawReg ir41_body 3) = some ir41_o3 := by kernel_rfl
noncomputable def ir109 : IR := .reg [.asg none 3 (.op1 (.fadr 0) (.op1 .nilc (.op1 .load1 (.var 0)))), .eff none (some 4) (.call { callee := .value (.func 110), args := #[(.tmp 3), (.const (.int .i64 1))], argTypes := #[93, 3] }) 0]
def ir109_V : List Nat := [0, 3, 4]
theorem ir109_calls (h : ∀ ρ : Env, ρ 0 = v0 → ir109.wp ⟨Tryz.prog, 5, ir109_V, []⟩ (retK [] R) (ksOf [] R) ρ w) : Calls Tryz.prog 109 #[v0] w R :=
 calls_irX (raws := []) (ir := ir109) Tryz.func109 rfl (by kernel_rfl) (by kernel_rfl) (by kernel_rfl) (Nat.le_of_ble_eq_true rfl) (h _ rfl)
noncomputable def ir42_k0 : IR := .seq (.reg [.asg none 30 (.var 0), .asg none 31 (.var 1), .eff none (some 32) (.call { callee := .value (.func 103), args := #[(.tmp 30), (.tmp 31)], argTypes := #[25, 3] }) 0, .asg none 36 (.op1 .load1 (.op1 (.fadr 1) (.op1 .nilc (.var 9)))), .asg none 38 (.op2 (.ibin .sub .i64) (.var 2) (.const (.int .i64 1))), .asg none 39 (.var 3), .asg none 40 (.op2 (.ixa 1) (.var 36) (.var 38)), .eff none none (.store 3 (.tmp 40) (.tmp 39)) 0, .asg none 8 (.const (.int .i64 0))]) <| .ret
noncomputable def ir42_k1 : IR := .seq (.reg [.asg none 28 (.op2 (.ibin .neq .i64) (.var 10) (.const (.int .i64 0)))]) <| .seq (.cond (.var 28) (.seq (.reg [.asg none 8 (.var 10)]) <| .ret) (.skip)) (ir42_k0)
noncomputable def ir42 : IR := .seq (.reg [.asg none 8 (.const (.int .i64 0)), .asg none 12 (.var 0), .asg none 13 (.var 1), .asg none 14 (.var 2), .eff none (some 15) (.call { callee := .value (.func 93), args := #[(.tmp 12), (.tmp 13), (.tmp 14)], argTypes := #[25, 3, 3] }) 109, .asg none 11 (.var 15), .asg none 16 (.op1 (.ext 0) (.var 11)), .asg none 17 (.op1 (.ext 1) (.var 11)), .asg none 9 (.var 16), .asg none 10 (.var 17), .asg none 19 (.op2 (.ibin .eql .i64) (.var 10) (.const (.int .i64 0)))]) <| .seq (.cond (.var 19) (.reg [.asg none 20 (.var 0), .asg none 24 (.op1 .load1 (.op1 (.fadr 0) (.op1 .nilc (.var 9)))), .asg none 25 (.var 3), .eff none (some 26) (.call { callee := .value (.func 97), args := #[(.tmp 20), (.tmp 24), (.tmp 25)], argTypes := #[25, 5, 3] }) 26, .asg none 10 (.var 26)]) (.skip)) (ir42_k1)
def ir42_V : List Nat := [0, 1, 2, 3, 8, 9, 10, 11, 12, 13, 14, 15, 16, 17, 19, 20, 24, 25, 26, 28, 30, 31, 32, 36, 38, 39, 40]
theorem ir42_calls (h : ∀ ρ : Env, ρ 0 = v0 → ρ 1 = v1 → ρ 2 = v2 → ρ 3 = v3 → ir42.wp ⟨Tryz.prog, 41, ir42_V, []⟩ (retK [.tmp 8] R) (ksOf [.tmp 8] R) ρ w) : Calls Tryz.prog 42 #[v0, v1, v2, v3] w R :=
 calls_irX (raws := []) (ir := ir42) Tryz.func42 rfl (by kernel_rfl) (by kernel_rfl) (by kernel_rfl) (Nat.le_of_ble_eq_true rfl) (h _ rfl rfl rfl rfl)
noncomputable def ir37_k0 : IR := .seq (.reg [.asg none 9 (.op1 .load1 (.op2 (.ixa 1) (.op1 .load1 (.op1 (.fadr 1) (.op1 .nilc (.var 6)))) (.var 8))), .asg none 34 (.var 0), .asg none 35 (.var 1), .eff none (some 36) (.call { callee := .value (.func 103), args := #[(.tmp 34), (.tmp 35)], argTypes := #[25, 3] }) 0, .asg none 37 (.var 6), .asg none 44 (.op4 (.slMax 1) (.op1 .load1 (.op1 (.fadr 1) (.op1 .nilc (.var 6)))) (.const (.int .i64 0)) (.var 8) (.var 8)), .asg none 46 (.op1 (.fadr 1) (.op1 .nilc (.var 37))), .eff none none (.store 35 (.tmp 46) (.tmp 44)) 0, .asg none 47 (.var 0), .asg none 52 (.op2 (.ibin .sub .i64) (.op1 .load1 (.op1 (.fadr 1) (.op1 (.fadr 0) (.op1 .nilc (.var 47))))) (.const (.int .i64 1))), .asg none 55 (.op1 (.fadr 1) (.op1 (.fadr 0) (.op1 .nilc (.var 47)))), .eff none none (.store 3 (.tmp 55) (.tmp 52)) 0, .asg none 4 (.var 9), .asg none 5 (.const (.int .i64 0))]) <| .ret
noncomputable def ir37_k1 : IR := .seq (.reg [.asg none 8 (.op2 (.ibin .sub .i64) (.op1 .lenS (.op1 .load1 (.op1 (.fadr 1) (.op1 .nilc (.var 6))))) (.const (.int .i64 1))), .asg none 26 (.op2 (.ibin .lss .i64) (.var 8) (.const (.int .i64 0)))]) <| .seq (.cond (.var 26) (.seq (.reg [.asg none 4 (.const (.int .i64 0)), .asg none 5 (.const (.int .i64 5))]) <| .ret) (.skip)) (ir37_k0)
noncomputable def ir37 : IR := .seq (.reg [.asg none 4 (.const (.int .i64 0)), .asg none 5 (.const (.int .i64 0)), .asg none 11 (.var 0), .asg none 12 (.var 1), .eff none (some 13) (.call { callee := .value (.func 90), args := #[(.tmp 11), (.tmp 12)], argTypes := #[25, 3] }) 109, .asg none 10 (.var 13), .asg none 14 (.op1 (.ext 0) (.var 10)), .asg none 15 (.op1 (.ext 1) (.var 10)), .asg none 6 (.var 14), .asg none 7 (.var 15), .asg none 17 (.op2 (.ibin .neq .i64) (.var 7) (.const (.int .i64 0)))]) <| .seq (.cond (.var 17) (.seq (.reg [.asg none 18 (.var 7), .asg none 4 (.const (.int .i64 0)), .asg none 5 (.var 18)]) <| .ret) (.skip)) (ir37_k1)
def ir37_V : List Nat := [0, 1, 4, 5, 6, 7, 8, 9, 10, 11, 12, 13, 14, 15, 17, 18, 26, 34, 35, 36, 37, 44, 46, 47, 52, 55]
theorem ir37_calls (h : ∀ ρ : Env, ρ 0 = v0 → ρ 1 = v1 → ir37.wp ⟨Tryz.prog, 57, ir37_V, []⟩ (retK [.tmp 4, .tmp 5] R) (ksOf [.tmp 4, .tmp 5] R) ρ w) : Calls Tryz.prog 37 #[v0, v1] w R :=
 calls_irX (raws := []) (ir := ir37) Tryz.func37 rfl (by kernel_rfl) (by kernel_rfl) (by kernel_rfl) (Nat.le_of_ble_eq_true rfl) (h _ rfl rfl)
noncomputable def ir43_k0 : IR := .seq (.reg [.asg none 24 (.op1 (.fadr 3) (.op1 .nilc (.var 5))), .eff none none (.store 4 (.tmp 24) (.const (.bool true))) 0, .asg none 4 (.const (.int .i64 0))]) <| .ret
noncomputable def ir43 : IR := .seq (.reg [.asg none 4 (.const (.int .i64 0)), .asg none 8 (.var 0), .asg none 9 (.var 1), .eff none (some 10) (.call { callee := .value (.func 106), args := #[(.tmp 8), (.tmp 9)], argTypes := #[25, 3] }) 136, .asg none 7 (.var 10), .asg none 11 (.op1 (.ext 0) (.var 7)), .asg none 12 (.op1 (.ext 1) (.var 7)), .asg none 5 (.var 11), .asg none 6 (.var 12)]) <| .seq (.block 0 (.seq (.reg [.asg none 13 (.op2 (.ibin .neq .i64) (.var 6) (.const (.int .i64 0)))]) <| .cond (.var 13) (.seq (.reg [.asg none 4 (.var 6)]) <| .ret) (.seq (.reg [.asg none 17 (.op1 .load1 (.op1 (.fadr 3) (.op1 .nilc (.var 5))))]) <| .cond (.var 17) (.seq (.reg [.asg none 4 (.const (.int .i64 6))]) <| .ret) (.skip)))) (ir43_k0)
def ir43_V : List Nat := [0, 1, 4, 5, 6, 7, 8, 9, 10, 11, 12, 13, 17, 24]
theorem ir43_calls (h : ∀ ρ : Env, ρ 0 = v0 → ρ 1 = v1 → ir43.wp ⟨Tryz.prog, 25, ir43_V, []⟩ (retK [.tmp 4] R) (ksOf [.tmp 4] R) ρ w) : Calls Tryz.prog 43 #[v0, v1] w R :=
 calls_irX (raws := []) (ir := ir43) Tryz.func43 rfl (by kernel_rfl) (by kernel_rfl) (by kernel_rfl) (Nat.le_of_ble_eq_true rfl) (h _ rfl rfl)
noncomputable def ir48_k0 : IR := .seq (.reg [.asg none 3 (.op1 .load1 (.op1 (.fadr 5) (.op1 .nilc (.var 0)))), .asg none 12 (.op1 (.fadr 5) (.op1 .nilc (.var 0))), .eff none none (.store 35 (.tmp 12) (.const (.slice none 0 0))) 0, .asg none 13 (.var 3), .eff none (some 14) (.call { callee := .value (.func 111), args := #[(.tmp 13)], argTypes := #[35] }) 0, .asg none 2 (.var 3)]) <| .ret
noncomputable def ir48 : IR := .seq (.reg [.asg none 2 (.const (.slice none 0 0)), .asg none 4 (.var 0), .eff none (some 5) (.binOp .eql 25 (.tmp 4) (.const (.pointer none)) 25) 4]) <| .seq (.cond (.var 5) (.seq (.reg [.asg none 2 (.const (.slice none 0 0))]) <| .ret) (.skip)) (ir48_k0)
def ir48_V : List Nat := [0, 2, 3, 4, 5, 12, 13, 14]
theorem ir48_calls (h : ∀ ρ : Env, ρ 0 = v0 → ir48.wp ⟨Tryz.prog, 16, ir48_V, []⟩ (retK [.tmp 2] R) (ksOf [.tmp 2] R) ρ w) : Calls Tryz.prog 48 #[v0] w R :=
 calls_irX (raws := []) (ir := ir48) Tryz.func48 rfl (by kernel_rfl) (by kernel_rfl) (by kernel_rfl) (Nat.le_of_ble_eq_true rfl) (h _ rfl)
noncomputable def ir100 : IR := .seq (.reg [.asg none 14 (.ite (.op2 (.ibin .neq .i64) (.var 1) (.const (.int .i64 0))) (.op2 (.ibin .leq .i64) (.var 1) (.op1 .load1 (.op1 (.fadr 0) (.op1 .nilc (.var 0))))) (.const (.bool false))), .asg (some (14, true)) 18 (.op1 .load1 (.op1 (.fadr 1) (.op1 .nilc (.var 0)))), .asg (some (14, true)) 19 (.var 1), .eff (some (14, true)) (some 20) (.lookup 106 (.tmp 18) (.tmp 19) false) 4, .asg none 22 (.ite (.var 14) (.op1 .not (.var 20)) (.const (.bool false)))]) <| .cond (.var 22) (.reg [.asg none 26 (.op1 .load1 (.op1 (.fadr 1) (.op1 .nilc (.var 0)))), .asg none 27 (.var 1), .eff none none (.mapUpdate 106 (.tmp 26) (.tmp 27) (.const (.bool true))) 0, .asg none 28 (.var 0), .asg none 32 (.op1 .load1 (.op1 (.fadr 2) (.op1 .nilc (.var 0)))), .asg none 33 (.var 1), .eff none (some 34) (.buildSlice 35 1 #[(0, (.tmp 33))]) 35, .eff none (some 35) (.call { callee := .builtin .append, args := #[(.tmp 32), (.tmp 34)], argTypes := #[35, 35] }) 35, .asg none 37 (.op1 (.fadr 2) (.op1 .nilc (.var 28))), .eff none none (.store 35 (.tmp 37) (.tmp 35)) 0]) (.skip)
def ir100_V : List Nat := [0, 1, 14, 18, 19, 20, 22, 26, 27, 28, 32, 33, 34, 35, 37]
theorem ir100_calls (h : ∀ ρ : Env, ρ 0 = v0 → ρ 1 = v1 → ir100.wp ⟨Tryz.prog, 38, ir100_V, []⟩ (retK [] R) (ksOf [] R) ρ w) : Calls Tryz.prog 100 #[v0, v1] w R :=
 calls_irX (raws := []) (ir := ir100) Tryz.func100 rfl (by kernel_rfl) (by kernel_rfl) (by kernel_rfl) (Nat.le_of_ble_eq_true rfl) (h _ rfl rfl)
noncomputable def ir101_body : Code := ((Tryz.f101.body).getD .skip)
noncomputable def ir101_k0 : IR := .reg [.asg none 95 (.op2 (.ibin .add .i64) (.var 95) (.const (.int .i64 1)))]
noncomputable def ir101_k1 : IR := .seq (.block 1 (.reg [.asg none 9 (.op1 .load1 (.op2 (.ixa 1) (.var 93) (.var 95))), .asg none 99 (.var 7), .asg none 100 (.var 9), .eff none (some 101) (.call { callee := .value (.tmp 99), args := #[(.tmp 100)], argTypes := #[3] }) 0])) (ir101_k0)
noncomputable def ir101_l2 : IR := .seq (.reg [.asg none 96 (.op2 (.ibin .lss .i64) (.var 95) (.var 94))]) <| .seq (.cond (.var 96) (.skip) (.exit 0)) (ir101_k1)
noncomputable def ir101_k3 : IR := .seq (.reg [.asg none 91 (.op1 .load1 (.op1 (.fadr 4) (.op1 .nilc (.var 0)))), .eff none (some 92) (.makeFunc (.func 100) #[(.tmp 91)] #[]) 128, .asg none 7 (.var 92), .asg none 93 (.var 5), .asg none 94 (.op1 .lenS (.var 93)), .asg none 95 (.const (.int .i64 0))]) <| .block 0 (.loop ir101_l2)
noncomputable def ir101_k4 : IR := .seq (.reg [.asg none 74 (.op1 .load1 (.op1 (.fadr 3) (.op1 .nilc (.op1 .load1 (.op1 (.fadr 4) (.op1 .nilc (.var 0))))))), .asg none 75 (.var 3), .eff none (some 76) (.lookup 125 (.tmp 74) (.tmp 75) true) 153, .asg none 67 (.var 76), .asg none 77 (.op1 (.ext 0) (.var 67)), .asg none 78 (.op1 (.ext 1) (.var 67)), .asg none 5 (.var 77), .asg none 6 (.var 78), .asg none 80 (.op1 .not (.var 6))]) <| .seq (.cond (.var 80) (.reg [.asg none 85 (.op1 .nilc (.op1 .load1 (.op1 (.fadr 0) (.op1 .nilc (.var 4))))), .eff none (some 86) (.makeFunc (.method "argus/heap.refs") #[(.tmp 85)] #[]) 103, .eff none (some 87) (.call { callee := .value (.func 133), args := #[(.tmp 86)], argTypes := #[104] }) 35, .asg none 5 (.var 87)]) (.skip)) (ir101_k3)
noncomputable def ir101_k5 : IR := .seq (.raw (rawReg ir101_body 4)) (ir101_k4)
noncomputable def ir101 : IR := .seq (.reg [.asg none 2 (.op2 (.ibin .sub .i64) (.op1 .lenS (.op1 .load1 (.op1 (.fadr 2) (.op1 .nilc (.op1 .load1 (.op1 (.fadr 4) (.op1 .nilc (.var 0)))))))) (.const (.int .i64 1))), .asg none 3 (.op1 .load1 (.op2 (.ixa 1) (.op1 .load1 (.op1 (.fadr 2) (.op1 .nilc (.op1 .load1 (.op1 (.fadr 4) (.op1 .nilc (.var 0))))))) (.var 2))), .asg none 33 (.op1 .load1 (.op1 (.fadr 3) (.op1 (.fadr 0) (.op1 .nilc (.var 0))))), .asg none 34 (.var 3), .eff none (some 35) (.lookup 91 (.tmp 33) (.tmp 34) false) 129, .asg none 4 (.var 35)]) <| .seq (.raw (rawReg ir101_body 3)) (ir101_k5)
def ir101_V : List Nat := [0, 2, 3, 4, 5, 6, 7, 9, 33, 34, 35, 36, 37, 38, 39, 40, 41, 42, 43, 44, 45, 46, 47, 48, 49, 50, 51, 52, 53, 54, 55, 56, 57, 58, 59, 60, 61, 62, 63, 64, 65, 66, 67, 74, 75, 76, 77, 78, 80, 85, 86, 87, 91, 92, 93, 94, 95, 96, 99, 100, 101]
theorem ir101_calls (h : ∀ ρ : Env, ρ 0 = v0 → ir101.wp ⟨Tryz.prog, 103, ir101_V, []⟩ (retK [] R) (ksOf [] R) ρ w) : Calls Tryz.prog 101 #[v0] w R :=
 calls_irX (raws := [4, 3]) (ir := ir101) Tryz.func101 rfl (by kernel_rfl) (by kernel_rfl) (by kernel_rfl) (Nat.le_of_ble_eq_true rfl) (h _ rfl)
noncomputable def ir101_o3 : OT := .take none 36 (.var 0) <| .take none 37 (.op1 .nilc (.var 36)) <| .take none 38 (.op1 (.fadr 4) (.var 37)) <| .take none 39 (.op1 .load1 (.var 38)) <| .take none 40 (.var 0) <| .take none 41 (.op1 .nilc (.var 40)) <| .take none 42 (.op1 (.fadr 4) (.var 41)) <| .take none 43 (.op1 .load1 (.var 42)) <| .take none 44 (.op1 .nilc (.var 43)) <| .take none 45 (.op1 (.fadr 2) (.var 44)) <| .take none 46 (.op1 .load1 (.var 45)) <| .take none 47 (.var 2) <| .take none 48 (.var 2) <| .take none 49 (.op4 (.slMax 1) (.var 46) (.const (.int .i64 0)) (.var 47) (.var 48)) <| .step (.asg none 50 (.op1 .nilc (.var 39))) false <| .step (.asg none 51 (.op1 (.fadr 2) (.var 50))) false <| .step (.eff none none (.store 35 (.tmp 51) (.tmp 49)) 0) false <| .done
theorem ir101_o3_ok : ordOf Tryz.prog 103 ir101_V 14 (rawReg ir101_body 3) = some ir101_o3 := by kernel_rfl
noncomputable def ir101_o4 : OT := .take none 52 (.var 0) <| .take none 53 (.op1 .nilc (.var 52)) <| .take none 54 (.op1 (.fadr 4) (.var 53)) <| .take none 55 (.op1 .load1 (.var 54)) <| .take none 56 (.op1 .nilc (.var 55)) <| .take none 57 (.op1 (.fadr 4) (.var 56)) <| .take none 58 (.op1 .load1 (.var 57)) <| .take none 59 (.var 4) <| .take none 60 (.op1 .nilc (.var 59)) <| .take none 61 (.op1 (.fadr 0) (.var 60)) <| .take none 62 (.op1 .load1 (.var 61)) <| .step (.eff none (some 63) (.call { callee := .invoke (.tmp 62) "argus/heap.words", args := #[], argTypes := #[] }) 3) true <| .step (.asg none 64 (.op2 (.ibin .sub .i64) (.var 58) (.var 63))) false <| .step (.asg none 65 (.op1 .nilc (.var 55))) false <| .step (.asg none 66 (.op1 (.fadr 4) (.var 65))) false <| .step (.eff none none (.store 3 (.tmp 66) (.tmp 64)) 0) false <| .done
theorem ir101_o4_ok : ordOf Tryz.prog 103 ir101_V 12 (rawReg ir101_body 4) = some ir101_o4 := by kernel_rfl
noncomputable def ir34_k0 : IR := .reg [.asg none 35 (.op2 (.ibin .add .i64) (.var 35) (.const (.int .i64 1)))]
noncomputable def ir34_k1 : IR := .seq (.block 1 (.reg [.asg none 7 (.op1 .load1 (.op2 (.ixa 1) (.var 33) (.var 35))), .asg none 42 (.op1 .load1 (.op1 (.fadr 4) (.op1 .nilc (.var 0)))), .asg none 43 (.var 7), .eff none (some 44) (.call { callee := .value (.func 100), args := #[(.tmp 42), (.tmp 43)], argTypes := #[94, 3] }) 0])) (ir34_k0)
noncomputable def ir34_l2 : IR := .seq (.reg [.asg none 36 (.op2 (.ibin .lss .i64) (.var 35) (.var 34))]) <| .seq (.cond (.var 36) (.skip) (.exit 0)) (ir34_k1)
noncomputable def ir34_k3 : IR := .seq (.reg [.asg none 4 (.const (.int .i64 0))]) <| .ret
noncomputable def ir34_k4 : IR := .seq (.reg [.asg none 21 (.var 0), .asg none 26 (.op1 .load1 (.op1 (.fadr 2) (.op1 (.fadr 0) (.op1 .nilc (.var 0))))), .eff none (some 27) (.makeMap 106 none) 106, .eff none (some 28) (.makeMap 125 none) 125, .eff none (some 29) (.build 127 #[(0, (.tmp 26)), (1, (.tmp 27)), (3, (.tmp 28))]) 127, .eff none (some 30) (.box 127 (.tmp 29)) 94, .asg none 32 (.op1 (.fadr 4) (.op1 .nilc (.var 21))), .eff none none (.store 94 (.tmp 32) (.tmp 30)) 0, .asg none 33 (.var 1), .asg none 34 (.op1 .lenS (.var 33)), .asg none 35 (.const (.int .i64 0))]) <| .seq (.block 0 (.loop ir34_l2)) (ir34_k3)
noncomputable def ir34_k5 : IR := .seq (.reg [.asg none 15 (.var 0), .asg none 16 (.var 1), .eff none (some 17) (.call { callee := .value (.func 85), args := #[(.tmp 15), (.tmp 16)], argTypes := #[25, 35] }) 26, .asg none 5 (.var 17), .asg none 19 (.op2 (.ibin .neq .i64) (.var 5) (.const (.int .i64 0)))]) <| .seq (.cond (.var 19) (.seq (.reg [.asg none 4 (.var 5)]) <| .ret) (.skip)) (ir34_k4)
noncomputable def ir34_k6 : IR := .seq (.reg [.asg none 13 (.op1 .load1 (.op1 (.fadr 4) (.op1 .nilc (.var 0)))), .eff none (some 14) (.binOp .neq 94 (.tmp 13) (.const (.pointer none)) 94) 4]) <| .seq (.cond (.var 14) (.seq (.reg [.asg none 4 (.const (.int .i64 8))]) <| .ret) (.skip)) (ir34_k5)
noncomputable def ir34 : IR := .seq (.reg [.asg none 4 (.const (.int .i64 0)), .asg none 8 (.var 0), .eff none (some 9) (.binOp .eql 25 (.tmp 8) (.const (.pointer none)) 25) 4]) <| .seq (.cond (.var 9) (.seq (.reg [.asg none 4 (.const (.int .i64 3))]) <| .ret) (.skip)) (ir34_k6)
def ir34_V : List Nat := [0, 1, 4, 5, 7, 8, 9, 13, 14, 15, 16, 17, 19, 21, 26, 27, 28, 29, 30, 32, 33, 34, 35, 36, 42, 43, 44]
theorem ir34_calls (h : ∀ ρ : Env, ρ 0 = v0 → ρ 1 = v1 → ir34.wp ⟨Tryz.prog, 46, ir34_V, []⟩ (retK [.tmp 4] R) (ksOf [.tmp 4] R) ρ w) : Calls Tryz.prog 34 #[v0, v1] w R :=
 calls_irX (raws := []) (ir := ir34) Tryz.func34 rfl (by kernel_rfl) (by kernel_rfl) (by kernel_rfl) (Nat.le_of_ble_eq_true rfl) (h _ rfl rfl)
noncomputable def ir35_k0 : IR := .block 2 (.reg [.asg none 49 (.var 0), .eff none (some 50) (.call { callee := .value (.func 101), args := #[(.tmp 49)], argTypes := #[25] }) 0])
noncomputable def ir35_l1 : IR := .seq (.reg [.asg none 48 (.ite (.op2 (.ibin .gtr .i64) (.op1 .lenS (.op1 .load1 (.op1 (.fadr 2) (.op1 .nilc (.op1 .load1 (.op1 (.fadr 4) (.op1 .nilc (.var 0)))))))) (.const (.int .i64 0))) (.op2 (.ibin .gtr .i64) (.op1 .load1 (.op1 (.fadr 4) (.op1 .nilc (.op1 .load1 (.op1 (.fadr 4) (.op1 .nilc (.var 0))))))) (.const (.int .i64 0))) (.const (.bool false)))]) <| .seq (.cond (.var 48) (.skip) (.exit 1)) (ir35_k0)
noncomputable def ir35_k2 : IR := .seq (.reg [.asg none 70 (.var 0), .eff none (some 71) (.call { callee := .value (.func 102), args := #[(.tmp 70)], argTypes := #[25] }) 0, .asg none 4 (.const (.bool true)), .asg none 5 (.const (.int .i64 0))]) <| .ret
noncomputable def ir35_k3 : IR := .seq (.reg [.asg none 69 (.ite (.op2 (.ibin .gtr .i64) (.op1 .lenS (.op1 .load1 (.op1 (.fadr 2) (.op1 .nilc (.op1 .load1 (.op1 (.fadr 4) (.op1 .nilc (.var 0)))))))) (.const (.int .i64 0))) (.const (.bool true)) (.op2 (.ibin .leq .i64) (.op1 .load1 (.op1 (.fadr 4) (.op1 .nilc (.op1 .load1 (.op1 (.fadr 4) (.op1 .nilc (.var 0))))))) (.const (.int .i64 0))))]) <| .seq (.cond (.var 69) (.seq (.reg [.asg none 4 (.const (.bool false)), .asg none 5 (.const (.int .i64 0))]) <| .ret) (.skip)) (ir35_k2)
noncomputable def ir35_k4 : IR := .seq (.reg [.asg none 22 (.op1 .load1 (.op1 (.fadr 4) (.op1 .nilc (.var 0)))), .asg none 27 (.op2 (.ibin .add .i64) (.op1 .load1 (.op1 (.fadr 4) (.op1 .nilc (.var 22)))) (.var 1)), .asg none 29 (.op1 (.fadr 4) (.op1 .nilc (.var 22))), .eff none none (.store 3 (.tmp 29) (.tmp 27)) 0]) <| .seq (.block 1 (.loop ir35_l1)) (ir35_k3)
noncomputable def ir35 : IR := .seq (.reg [.asg none 4 (.const (.bool false)), .asg none 5 (.const (.int .i64 0))]) <| .seq (.block 0 (.seq (.reg [.asg none 7 (.var 0), .eff none (some 8) (.binOp .eql 25 (.tmp 7) (.const (.pointer none)) 25) 4, .asg none 6 (.var 8)]) <| .cond (.var 6) (.seq (.reg [.asg none 4 (.const (.bool false)), .asg none 5 (.const (.int .i64 3))]) <| .ret) (.seq (.reg [.asg none 10 (.var 1), .eff none (some 11) (.call { callee := .value (.func 58), args := #[(.tmp 10), (.const (.int .i64 1)), (.const (.int .i64 100000))], argTypes := #[3, 3, 3] }) 4, .asg none 9 (.op1 .not (.var 11))]) <| .cond (.var 9) (.seq (.reg [.asg none 4 (.const (.bool false)), .asg none 5 (.const (.int .i64 1))]) <| .ret) (.seq (.reg [.asg none 17 (.op1 .load1 (.op1 (.fadr 4) (.op1 .nilc (.var 0)))), .eff none (some 18) (.binOp .eql 94 (.tmp 17) (.const (.pointer none)) 94) 4, .asg none 13 (.var 18)]) <| .cond (.var 13) (.seq (.reg [.asg none 4 (.const (.bool false)), .asg none 5 (.const (.int .i64 8))]) <| .ret) (.skip))))) (ir35_k4)
def ir35_V : List Nat := [0, 1, 4, 5, 6, 7, 8, 9, 10, 11, 13, 17, 18, 22, 27, 29, 48, 49, 50, 69, 70, 71]
theorem ir35_calls (h : ∀ ρ : Env, ρ 0 = v0 → ρ 1 = v1 → ir35.wp ⟨Tryz.prog, 72, ir35_V, []⟩ (retK [.tmp 4, .tmp 5] R) (ksOf [.tmp 4, .tmp 5] R) ρ w) : Calls Tryz.prog 35 #[v0, v1] w R :=
 calls_irX (raws := []) (ir := ir35) Tryz.func35 rfl (by kernel_rfl) (by kernel_rfl) (by kernel_rfl) (Nat.le_of_ble_eq_true rfl) (h _ rfl rfl)
noncomputable def ir102_k0 : IR := .block 1 (.seq (.reg [.eff none (some 21) (.entry (.tmp 18)) 0, .asg none 4 (.op1 (.ext 0) (.var 21)), .asg none 29 (.op2 (.ibin .gtr .i64) (.var 4) (.op1 .load1 (.op1 (.fadr 0) (.op1 .nilc (.var 2))))), .asg (some (29, false)) 33 (.op1 .load1 (.op1 (.fadr 1) (.op1 .nilc (.var 2)))), .asg (some (29, false)) 34 (.var 4), .eff (some (29, false)) (some 35) (.lookup 106 (.tmp 33) (.tmp 34) false) 4, .asg none 36 (.ite (.var 29) (.const (.bool true)) (.var 35))]) <| .cond (.var 36) (.reg [.asg none 37 (.var 3), .asg none 38 (.var 4), .eff none (some 39) (.buildSlice 35 1 #[(0, (.tmp 38))]) 35, .eff none (some 40) (.call { callee := .builtin .append, args := #[(.tmp 37), (.tmp 39)], argTypes := #[35, 35] }) 35, .asg none 3 (.var 40)]) (.skip))
noncomputable def ir102_l1 : IR := .seq (.reg [.eff none (some 19) (.next (.tmp 18) false) 0, .asg none 20 (.op1 (.ext 0) (.var 19))]) <| .seq (.cond (.var 20) (.skip) (.exit 0)) (ir102_k0)
noncomputable def ir102_k2 : IR := .reg [.asg none 43 (.op1 (.fadr 0) (.op1 .nilc (.var 0))), .asg none 44 (.var 3), .eff none (some 45) (.call { callee := .value (.func 88), args := #[(.tmp 43), (.tmp 44)], argTypes := #[93, 35] }) 106, .eff none (some 5) (.alloc 106) 0, .eff none none (.store 106 (.tmp 5) (.tmp 45)) 0, .asg none 46 (.var 0), .eff none (some 47) (.makeFunc (.func 134) #[] #[(.tmp 5)]) 135, .eff none (some 48) (.call { callee := .value (.func 104), args := #[(.tmp 46), (.tmp 47)], argTypes := #[25, 135] }) 3]
noncomputable def ir102 : IR := .seq (.reg [.asg none 2 (.op1 .load1 (.op1 (.fadr 4) (.op1 .nilc (.var 0)))), .asg none 12 (.op1 (.fadr 4) (.op1 .nilc (.var 0))), .eff none none (.store 94 (.tmp 12) (.const (.pointer none))) 0, .asg none 3 (.const (.slice none 0 0)), .asg none 17 (.op1 .load1 (.op1 (.fadr 3) (.op1 (.fadr 0) (.op1 .nilc (.var 0))))), .eff none (some 18) (.range 91 (.tmp 17)) 0]) <| .seq (.block 0 (.loop ir102_l1)) (ir102_k2)
def ir102_V : List Nat := [0, 2, 3, 4, 5, 12, 17, 18, 19, 20, 21, 29, 33, 34, 35, 36, 37, 38, 39, 40, 43, 44, 45, 46, 47, 48]
theorem ir102_calls (h : ∀ ρ : Env, ρ 0 = v0 → ir102.wp ⟨Tryz.prog, 49, ir102_V, []⟩ (retK [] R) (ksOf [] R) ρ w) : Calls Tryz.prog 102 #[v0] w R :=
 calls_irX (raws := []) (ir := ir102) Tryz.func102 rfl (by kernel_rfl) (by kernel_rfl) (by kernel_rfl) (Nat.le_of_ble_eq_true rfl) (h _ rfl)
noncomputable def ir104_k0 : IR := .reg [.asg none 45 (.op1 (.fadr 0) (.op1 .nilc (.var 0))), .asg none 46 (.var 7), .eff none (some 47) (.call { callee := .value (.func 136), args := #[(.tmp 45), (.tmp 46)], argTypes := #[93, 3] }) 0, .asg none 5 (.op2 (.ibin .add .i64) (.var 5) (.const (.int .i64 1)))]
noncomputable def ir104_k1 : IR := .seq (.reg [.asg none 32 (.op1 .load1 (.op1 (.fadr 3) (.op1 .nilc (.var 8))))]) <| .seq (.cond (.var 32) (.reg [.asg none 33 (.var 0), .asg none 37 (.op1 .load1 (.op1 (.fadr 5) (.op1 .nilc (.var 0)))), .asg none 38 (.var 7), .eff none (some 39) (.buildSlice 35 1 #[(0, (.tmp 38))]) 35, .eff none (some 40) (.call { callee := .builtin .append, args := #[(.tmp 37), (.tmp 39)], argTypes := #[35, 35] }) 35, .asg none 42 (.op1 (.fadr 5) (.op1 .nilc (.var 33))), .eff none none (.store 35 (.tmp 42) (.tmp 40)) 0]) (.skip)) (ir104_k0)
noncomputable def ir104_k2 : IR := .reg [.asg none 14 (.op2 (.ibin .add .i64) (.var 14) (.const (.int .i64 1)))]
noncomputable def ir104_k3 : IR := .seq (.block 1 (.seq (.reg [.asg none 7 (.op1 .load1 (.op2 (.ixa 1) (.var 12) (.var 14))), .asg none 22 (.op1 .load1 (.op1 (.fadr 3) (.op1 (.fadr 0) (.op1 .nilc (.var 0))))), .asg none 23 (.var 7), .eff none (some 24) (.lookup 91 (.tmp 22) (.tmp 23) false) 129, .asg none 8 (.var 24), .asg none 25 (.var 1), .asg none 26 (.var 7), .asg none 27 (.var 8), .eff none (some 28) (.call { callee := .value (.tmp 25), args := #[(.tmp 26), (.tmp 27)], argTypes := #[3, 129] }) 4]) <| .seq (.cond (.var 28) (.exit 1) (.skip)) (ir104_k1))) (ir104_k2)
noncomputable def ir104_l4 : IR := .seq (.reg [.asg none 15 (.op2 (.ibin .lss .i64) (.var 14) (.var 13))]) <| .seq (.cond (.var 15) (.skip) (.exit 0)) (ir104_k3)
noncomputable def ir104_k5 : IR := .seq (.reg [.asg none 4 (.var 5)]) <| .ret
noncomputable def ir104 : IR := .seq (.reg [.asg none 4 (.const (.int .i64 0)), .asg none 5 (.const (.int .i64 0)), .asg none 11 (.op1 (.fadr 0) (.op1 .nilc (.var 0))), .eff none (some 12) (.call { callee := .value (.func 135), args := #[(.tmp 11)], argTypes := #[93] }) 35, .asg none 13 (.op1 .lenS (.var 12)), .asg none 14 (.const (.int .i64 0))]) <| .seq (.block 0 (.loop ir104_l4)) (ir104_k5)
def ir104_V : List Nat := [0, 1, 4, 5, 7, 8, 11, 12, 13, 14, 15, 22, 23, 24, 25, 26, 27, 28, 32, 33, 37, 38, 39, 40, 42, 45, 46, 47]
theorem ir104_calls (h : ∀ ρ : Env, ρ 0 = v0 → ρ 1 = v1 → ir104.wp ⟨Tryz.prog, 52, ir104_V, []⟩ (retK [.tmp 4] R) (ksOf [.tmp 4] R) ρ w) : Calls Tryz.prog 104 #[v0, v1] w R :=
 calls_irX (raws := []) (ir := ir104) Tryz.func104 rfl (by kernel_rfl) (by kernel_rfl) (by kernel_rfl) (Nat.le_of_ble_eq_true rfl) (h _ rfl rfl)
noncomputable def ir136_body : Code := ((Tryz.f136.body).getD .skip)
noncomputable def ir136_k0 : IR := .reg [.asg none 24 (.op1 .load1 (.op1 (.fadr 3) (.op1 .nilc (.var 0)))), .asg none 25 (.var 1), .eff none none (.call { callee := .builtin .delete, args := #[(.tmp 24), (.tmp 25)], argTypes := #[91, 3] }) 0]
noncomputable def ir136 : IR := .seq (.raw (rawReg ir136_body 0)) (ir136_k0)
def ir136_V : List Nat := [0, 1, 4, 5, 6, 7, 8, 9, 10, 11, 12, 13, 14, 15, 16, 17, 18, 19, 20, 24, 25]
theorem ir136_calls (h : ∀ ρ : Env, ρ 0 = v0 → ρ 1 = v1 → ir136.wp ⟨Tryz.prog, 26, ir136_V, []⟩ (retK [] R) (ksOf [] R) ρ w) : Calls Tryz.prog 136 #[v0, v1] w R :=
 calls_irX (raws := [0]) (ir := ir136) Tryz.func136 rfl (by kernel_rfl) (by kernel_rfl) (by kernel_rfl) (Nat.le_of_ble_eq_true rfl) (h _ rfl rfl)
noncomputable def ir136_o0 : OT := .take none 4 (.var 0) <| .take none 5 (.op1 .nilc (.var 4)) <| .take none 6 (.op1 (.fadr 1) (.var 5)) <| .take none 7 (.op1 .load1 (.var 6)) <| .take none 8 (.var 0) <| .take none 9 (.op1 .nilc (.var 8)) <| .take none 10 (.op1 (.fadr 3) (.var 9)) <| .take none 11 (.op1 .load1 (.var 10)) <| .take none 12 (.var 1) <| .step (.eff none (some 13) (.lookup 91 (.tmp 11) (.tmp 12) false) 129) true <| .take none 14 (.op1 .nilc (.var 13)) <| .take none 15 (.op1 (.fadr 0) (.var 14)) <| .take none 16 (.op1 .load1 (.var 15)) <| .step (.eff none (some 17) (.call { callee := .invoke (.tmp 16) "argus/heap.words", args := #[], argTypes := #[] }) 3) true <| .step (.asg none 18 (.op2 (.ibin .sub .i64) (.var 7) (.var 17))) false <| .step (.asg none 19 (.op1 .nilc (.var 4))) false <| .step (.asg none 20 (.op1 (.fadr 1) (.var 19))) false <| .step (.eff none none (.store 3 (.tmp 20) (.tmp 18)) 0) false <| .done
theorem ir136_o0_ok : ordOf Tryz.prog 26 ir136_V 14 (rawReg ir136_body 0) = some ir136_o0 := by kernel_rfl
end Go.L17
namespace Go.L17
open Go Go.Eng Go.Proofs
set_option maxRecDepth 100000
variable {v0 v1 v2 v3 v4 : Value} {w : World} {R : Ending → World → Prop}
noncomputable def jr137_k0 : IR :=
 .reg [.eff none none (.store 4 (.tmp 0) (.const (.bool false))) 0]
noncomputable def jr137 (v : Value) : IR :=
 .seq (.reg [.asg none 4 (.const v),
   .asg none 1 (.var 4),
   .asg none 5 (.var 1),
   .eff none (some 6) (.binOp .neq 20 (.tmp 5) (.const .nilIface) 20) 4]) <|
 .cond (.var 6)
  (.seq (.reg [.asg none 8 (.var 1),
    .eff none (some 9) (.typeAssert (.tmp 8) 20 156 true) 157,
    .asg none 7 (.var 9),
    .asg none 10 (.op1 (.ext 0) (.var 7)),
    .asg none 11 (.op1 (.ext 1) (.var 7)),
    .eff none (some 2) (.alloc 156) 0,
    .eff none none (.store 156 (.tmp 2) (.tmp 10)) 0,
    .asg none 3 (.var 11),
    .asg none 13 (.op1 .not (.var 3))]) <|
  .seq (.cond (.var 13)
   (.reg [.asg none 14 (.var 1),
     .eff none none (.panic (.tmp 14)) 0])
   (.skip))
  (jr137_k0))
  (.skip)
def jr137_V : List Nat := [0, 1, 2, 3, 4, 5, 6, 7, 8, 9, 10, 11, 13, 14]
theorem jr137_ok (v : Value) : (comp Tryz.prog Tryz.f137.ntmps jr137_V [] (swapRec v (Tryz.f137.body.getD .skip))).map IR.norm = some (jr137 v) := by kernel_rfl
theorem jr137_calls {v0 : Value} {u : FrameMode} {w : World} {R : Ending → FrameMode → World → Prop} (h : ∀ ρ : Env, ρ 0 = v0 → (jr137 (recV u)).wp ⟨Tryz.prog, 15, jr137_V, []⟩ (recK [] (recU u) R) (recKs [] (recU u) R) ρ w) :
  CallsDIn Fence.wide 0 Tryz.prog 137 #[v0] u w R := by
 obtain ⟨ir0, h1, h2⟩ := Option.map_eq_some_iff.1 (jr137_ok (recV u))
 exact callsD_recR (args := #[v0]) Tryz.func137 (c := Tryz.f137.body.getD .skip) rfl (by kernel_rfl) h1 h2 (by kernel_rfl) (show rvsOf Tryz.prog jr137_V Tryz.f137.results.toList = some [] by kernel_rfl) (Nat.le_of_ble_eq_true rfl) (h _ rfl)
end Go.L17
namespace Go.L17
open Go Go.Eng Go.Proofs
set_option maxRecDepth 100000
set_option maxHeartbeats 2000000
variable {v0 v1 v2 v3 v4 : Value} {w : World} {R : Ending → World → Prop}
noncomputable def ir33_k0 : IR := .seq (.reg [.eff none (some 5) (.buildSlice 35 0 #[]) 35, .asg none 6 (.var 0), .eff none (some 7) (.call { callee := .builtin .append, args := #[(.tmp 5), (.tmp 6)], argTypes := #[35, 35] }) 35, .asg none 2 (.var 7)]) <| .ret
noncomputable def ir33 : IR := .seq (.reg [.asg none 2 (.const (.slice none 0 0)), .asg none 3 (.var 0), .eff none (some 4) (.binOp .eql 35 (.tmp 3) (.const (.slice none 0 0)) 35) 4]) <| .seq (.cond (.var 4) (.seq (.reg [.asg none 2 (.const (.slice none 0 0))]) <| .ret) (.skip)) (ir33_k0)
def ir33_V : List Nat := [0, 2, 3, 4, 5, 6, 7]
theorem ir33_calls (h : ∀ ρ : Env, ρ 0 = v0 → ir33.wp ⟨Tryz.prog, 8, ir33_V, []⟩ (retK [.tmp 2] R) (ksOf [.tmp 2] R) ρ w) : Calls Tryz.prog 33 #[v0] w R :=
 calls_irX (raws := []) (ir := ir33) Tryz.func33 rfl (by kernel_rfl) (by kernel_rfl) (by kernel_rfl) (Nat.le_of_ble_eq_true rfl) (h _ rfl)
noncomputable def ir99_k0 : IR := .seq (.reg [.eff none (some 5) (.buildSlice 34 0 #[]) 34, .asg none 6 (.var 0), .eff none (some 7) (.call { callee := .builtin .append, args := #[(.tmp 5), (.tmp 6)], argTypes := #[34, 34] }) 34, .asg none 2 (.var 7)]) <| .ret
noncomputable def ir99 : IR := .seq (.reg [.asg none 2 (.const (.slice none 0 0)), .asg none 3 (.var 0), .eff none (some 4) (.binOp .eql 34 (.tmp 3) (.const (.slice none 0 0)) 34) 4]) <| .seq (.cond (.var 4) (.seq (.reg [.asg none 2 (.const (.slice none 0 0))]) <| .ret) (.skip)) (ir99_k0)
def ir99_V : List Nat := [0, 2, 3, 4, 5, 6, 7]
theorem ir99_calls (h : ∀ ρ : Env, ρ 0 = v0 → ir99.wp ⟨Tryz.prog, 8, ir99_V, []⟩ (retK [.tmp 2] R) (ksOf [.tmp 2] R) ρ w) : Calls Tryz.prog 99 #[v0] w R :=
 calls_irX (raws := []) (ir := ir99) Tryz.func99 rfl (by kernel_rfl) (by kernel_rfl) (by kernel_rfl) (Nat.le_of_ble_eq_true rfl) (h _ rfl)
noncomputable def ir94 : IR := .seq (.reg [.asg none 4 (.const (.bool false)), .asg none 5 (.var 0), .asg none 6 (.var 1), .eff none (some 7) (.call { callee := .value (.func 130), args := #[(.tmp 5), (.tmp 6)], argTypes := #[34, 121] }) 3, .asg none 4 (.op2 (.ibin .geq .i64) (.var 7) (.const (.int .i64 0)))]) <| .ret
def ir94_V : List Nat := [0, 1, 4, 5, 6, 7]
theorem ir94_calls (h : ∀ ρ : Env, ρ 0 = v0 → ρ 1 = v1 → ir94.wp ⟨Tryz.prog, 9, ir94_V, []⟩ (retK [.tmp 4] R) (ksOf [.tmp 4] R) ρ w) : Calls Tryz.prog 94 #[v0, v1] w R :=
 calls_irX (raws := []) (ir := ir94) Tryz.func94 rfl (by kernel_rfl) (by kernel_rfl) (by kernel_rfl) (Nat.le_of_ble_eq_true rfl) (h _ rfl rfl)
noncomputable def ir130_k0 : IR := .reg [.asg none 8 (.op2 (.ibin .add .i64) (.var 8) (.const (.int .i64 1)))]
noncomputable def ir130_k1 : IR := .seq (.block 1 (.seq (.reg [.asg none 5 (.var 8), .asg none 11 (.var 1), .asg none 15 (.op1 .load1 (.op2 (.ixa 1) (.var 0) (.var 5))), .eff none (some 16) (.call { callee := .value (.tmp 11), args := #[(.tmp 15)], argTypes := #[5] }) 4]) <| .cond (.var 16) (.seq (.reg [.asg none 4 (.var 5)]) <| .ret) (.skip))) (ir130_k0)
noncomputable def ir130_l2 : IR := .seq (.reg [.asg none 9 (.op2 (.ibin .lss .i64) (.var 8) (.var 7))]) <| .seq (.cond (.var 9) (.skip) (.exit 0)) (ir130_k1)
noncomputable def ir130_k3 : IR := .seq (.reg [.asg none 4 (.const (.int .i64 (-1)))]) <| .ret
noncomputable def ir130 : IR := .seq (.reg [.asg none 4 (.const (.int .i64 0)), .asg none 7 (.op1 .lenS (.var 0)), .asg none 8 (.const (.int .i64 0))]) <| .seq (.block 0 (.loop ir130_l2)) (ir130_k3)
def ir130_V : List Nat := [0, 1, 4, 5, 7, 8, 9, 11, 15, 16]
theorem ir130_calls (h : ∀ ρ : Env, ρ 0 = v0 → ρ 1 = v1 → ir130.wp ⟨Tryz.prog, 19, ir130_V, []⟩ (retK [.tmp 4] R) (ksOf [.tmp 4] R) ρ w) : Calls Tryz.prog 130 #[v0, v1] w R :=
 calls_irX (raws := []) (ir := ir130) Tryz.func130 rfl (by kernel_rfl) (by kernel_rfl) (by kernel_rfl) (Nat.le_of_ble_eq_true rfl) (h _ rfl rfl)
noncomputable def ir95 : IR := .seq (.reg [.asg none 2 (.const (.bool false)), .asg none 3 (.var 0), .eff none (some 4) (.call { callee := .value (.func 96), args := #[(.tmp 3)], argTypes := #[5] }) 4, .asg none 2 (.op1 .not (.var 4))]) <| .ret
def ir95_V : List Nat := [0, 2, 3, 4]
theorem ir95_calls (h : ∀ ρ : Env, ρ 0 = v0 → ir95.wp ⟨Tryz.prog, 6, ir95_V, []⟩ (retK [.tmp 2] R) (ksOf [.tmp 2] R) ρ w) : Calls Tryz.prog 95 #[v0] w R :=
 calls_irX (raws := []) (ir := ir95) Tryz.func95 rfl (by kernel_rfl) (by kernel_rfl) (by kernel_rfl) (Nat.le_of_ble_eq_true rfl) (h _ rfl)
noncomputable def ir125 : IR := .seq (.reg [.asg none 3 (.const (.bool false)), .asg none 6 (.op2 (.ibin .neq .i64) (.var 0) (.const (.int .i64 0))), .asg (some (6, true)) 9 (.op1 (.fadr 0) (.op1 .nilc (.op1 .load1 (.var 1)))), .asg (some (6, true)) 10 (.var 0), .eff (some (6, true)) (some 11) (.call { callee := .value (.func 84), args := #[(.tmp 9), (.tmp 10)], argTypes := #[93, 3] }) 4, .asg none 3 (.ite (.var 6) (.op1 .not (.var 11)) (.const (.bool false)))]) <| .ret
def ir125_V : List Nat := [0, 1, 3, 6, 9, 10, 11]
theorem ir125_calls (h : ∀ ρ : Env, ρ 0 = v0 → ρ 1 = v1 → ir125.wp ⟨Tryz.prog, 14, ir125_V, []⟩ (retK [.tmp 3] R) (ksOf [.tmp 3] R) ρ w) : Calls Tryz.prog 125 #[v0, v1] w R :=
 calls_irX (raws := []) (ir := ir125) Tryz.func125 rfl (by kernel_rfl) (by kernel_rfl) (by kernel_rfl) (Nat.le_of_ble_eq_true rfl) (h _ rfl rfl)
noncomputable def ir83_k0 : IR := .reg [.asg none 8 (.op2 (.ibin .add .i64) (.var 8) (.const (.int .i64 1)))]
noncomputable def ir83_k1 : IR := .seq (.block 1 (.seq (.reg [.asg none 5 (.var 8), .asg none 11 (.var 1), .asg none 15 (.op1 .load1 (.op2 (.ixa 1) (.var 0) (.var 5))), .eff none (some 16) (.call { callee := .value (.tmp 11), args := #[(.tmp 15)], argTypes := #[3] }) 4]) <| .cond (.var 16) (.seq (.reg [.asg none 4 (.var 5)]) <| .ret) (.skip))) (ir83_k0)
noncomputable def ir83_l2 : IR := .seq (.reg [.asg none 9 (.op2 (.ibin .lss .i64) (.var 8) (.var 7))]) <| .seq (.cond (.var 9) (.skip) (.exit 0)) (ir83_k1)
noncomputable def ir83_k3 : IR := .seq (.reg [.asg none 4 (.const (.int .i64 (-1)))]) <| .ret
noncomputable def ir83 : IR := .seq (.reg [.asg none 4 (.const (.int .i64 0)), .asg none 7 (.op1 .lenS (.var 0)), .asg none 8 (.const (.int .i64 0))]) <| .seq (.block 0 (.loop ir83_l2)) (ir83_k3)
def ir83_V : List Nat := [0, 1, 4, 5, 7, 8, 9, 11, 15, 16]
theorem ir83_calls (h : ∀ ρ : Env, ρ 0 = v0 → ρ 1 = v1 → ir83.wp ⟨Tryz.prog, 19, ir83_V, []⟩ (retK [.tmp 4] R) (ksOf [.tmp 4] R) ρ w) : Calls Tryz.prog 83 #[v0, v1] w R :=
 calls_irX (raws := []) (ir := ir83) Tryz.func83 rfl (by kernel_rfl) (by kernel_rfl) (by kernel_rfl) (Nat.le_of_ble_eq_true rfl) (h _ rfl rfl)
noncomputable def ir54 : IR := .seq (.reg [.asg none 4 (.const (.bool false)), .asg none 5 (.var 0), .asg none 6 (.var 1), .eff none (some 7) (.call { callee := .value (.func 83), args := #[(.tmp 5), (.tmp 6)], argTypes := #[35, 46] }) 3, .asg none 4 (.op2 (.ibin .geq .i64) (.var 7) (.const (.int .i64 0)))]) <| .ret
def ir54_V : List Nat := [0, 1, 4, 5, 6, 7]
theorem ir54_calls (h : ∀ ρ : Env, ρ 0 = v0 → ρ 1 = v1 → ir54.wp ⟨Tryz.prog, 9, ir54_V, []⟩ (retK [.tmp 4] R) (ksOf [.tmp 4] R) ρ w) : Calls Tryz.prog 54 #[v0, v1] w R :=
 calls_irX (raws := []) (ir := ir54) Tryz.func54 rfl (by kernel_rfl) (by kernel_rfl) (by kernel_rfl) (Nat.le_of_ble_eq_true rfl) (h _ rfl rfl)
noncomputable def ir85_k0 : IR := .seq (.reg [.asg none 4 (.const (.int .i64 0))]) <| .ret
noncomputable def ir85 : IR := .seq (.reg [.eff none (some 2) (.box 25 (.tmp 0)) 0, .asg none 4 (.const (.int .i64 0))]) <| .seq (.block 0 (.seq (.reg [.asg none 5 (.op2 (.ibin .gtr .i64) (.op1 .lenS (.var 1)) (.const (.int .i64 10000)))]) <| .cond (.var 5) (.seq (.reg [.asg none 4 (.const (.int .i64 2))]) <| .ret) (.seq (.reg [.asg none 10 (.var 1), .eff none (some 11) (.makeFunc (.func 125) #[] #[(.tmp 2)]) 46, .eff none (some 12) (.call { callee := .value (.func 54), args := #[(.tmp 10), (.tmp 11)], argTypes := #[35, 46] }) 4, .asg none 9 (.var 12)]) <| .cond (.var 9) (.seq (.reg [.asg none 4 (.const (.int .i64 171))]) <| .ret) (.skip)))) (ir85_k0)
def ir85_V : List Nat := [0, 1, 2, 4, 5, 9, 10, 11, 12]
theorem ir85_calls (h : ∀ ρ : Env, ρ 0 = v0 → ρ 1 = v1 → ir85.wp ⟨Tryz.prog, 13, ir85_V, []⟩ (retK [.tmp 4] R) (ksOf [.tmp 4] R) ρ w) : Calls Tryz.prog 85 #[v0, v1] w R :=
 calls_irX (raws := []) (ir := ir85) Tryz.func85 rfl (by kernel_rfl) (by kernel_rfl) (by kernel_rfl) (Nat.le_of_ble_eq_true rfl) (h _ rfl rfl)
noncomputable def ir21_k0 : IR := .seq (.reg [.asg none 17 (.op1 (.fadr 0) (.op1 .nilc (.var 0))), .asg none 18 (.var 1), .eff none (some 19) (.call { callee := .value (.func 88), args := #[(.tmp 17), (.tmp 18)], argTypes := #[93, 35] }) 106, .eff none (some 20) (.call { callee := .value (.func 87), args := #[(.tmp 19)], argTypes := #[106] }) 104, .eff none (some 21) (.call { callee := .value (.func 86), args := #[(.tmp 20), (.func 89)], argTypes := #[103, 99] }) 35, .asg none 4 (.var 21), .asg none 5 (.const (.int .i64 0))]) <| .ret
noncomputable def ir21_k1 : IR := .seq (.reg [.asg none 9 (.var 0), .asg none 10 (.var 1), .eff none (some 11) (.call { callee := .value (.func 85), args := #[(.tmp 9), (.tmp 10)], argTypes := #[25, 35] }) 26, .asg none 6 (.var 11), .asg none 13 (.op2 (.ibin .neq .i64) (.var 6) (.const (.int .i64 0)))]) <| .seq (.cond (.var 13) (.seq (.reg [.asg none 14 (.var 6), .asg none 4 (.const (.slice none 0 0)), .asg none 5 (.var 14)]) <| .ret) (.skip)) (ir21_k0)
noncomputable def ir21 : IR := .seq (.reg [.asg none 4 (.const (.slice none 0 0)), .asg none 5 (.const (.int .i64 0)), .asg none 7 (.var 0), .eff none (some 8) (.binOp .eql 25 (.tmp 7) (.const (.pointer none)) 25) 4]) <| .seq (.cond (.var 8) (.seq (.reg [.asg none 4 (.const (.slice none 0 0)), .asg none 5 (.const (.int .i64 3))]) <| .ret) (.skip)) (ir21_k1)
def ir21_V : List Nat := [0, 1, 4, 5, 6, 7, 8, 9, 10, 11, 13, 14, 17, 18, 19, 20, 21]
theorem ir21_calls (h : ∀ ρ : Env, ρ 0 = v0 → ρ 1 = v1 → ir21.wp ⟨Tryz.prog, 22, ir21_V, []⟩ (retK [.tmp 4, .tmp 5] R) (ksOf [.tmp 4, .tmp 5] R) ρ w) : Calls Tryz.prog 21 #[v0, v1] w R :=
 calls_irX (raws := []) (ir := ir21) Tryz.func21 rfl (by kernel_rfl) (by kernel_rfl) (by kernel_rfl) (Nat.le_of_ble_eq_true rfl) (h _ rfl rfl)
noncomputable def ir86 : IR := .seq (.reg [.asg none 4 (.const (.slice none 0 0)), .asg none 5 (.var 0), .asg none 6 (.var 1), .eff none (some 7) (.call { callee := .value (.func 126), args := #[(.tmp 5), (.tmp 6)], argTypes := #[104, 99] }) 35, .asg none 4 (.var 7)]) <| .ret
def ir86_V : List Nat := [0, 1, 4, 5, 6, 7]
theorem ir86_calls (h : ∀ ρ : Env, ρ 0 = v0 → ρ 1 = v1 → ir86.wp ⟨Tryz.prog, 8, ir86_V, []⟩ (retK [.tmp 4] R) (ksOf [.tmp 4] R) ρ w) : Calls Tryz.prog 86 #[v0, v1] w R :=
 calls_irX (raws := []) (ir := ir86) Tryz.func86 rfl (by kernel_rfl) (by kernel_rfl) (by kernel_rfl) (Nat.le_of_ble_eq_true rfl) (h _ rfl rfl)
noncomputable def ir126 : IR := .seq (.reg [.asg none 4 (.const (.slice none 0 0)), .asg none 6 (.var 0), .eff none (some 7) (.call { callee := .value (.func 133), args := #[(.tmp 6)], argTypes := #[104] }) 35, .asg none 5 (.var 7), .asg none 8 (.var 5), .asg none 9 (.var 1), .eff none (some 10) (.call { callee := .value (.func 140), args := #[(.tmp 8), (.tmp 9)], argTypes := #[35, 99] }) 0, .asg none 4 (.var 5)]) <| .ret
def ir126_V : List Nat := [0, 1, 4, 5, 6, 7, 8, 9, 10]
theorem ir126_calls (h : ∀ ρ : Env, ρ 0 = v0 → ρ 1 = v1 → ir126.wp ⟨Tryz.prog, 12, ir126_V, []⟩ (retK [.tmp 4] R) (ksOf [.tmp 4] R) ρ w) : Calls Tryz.prog 126 #[v0, v1] w R :=
 calls_irX (raws := []) (ir := ir126) Tryz.func126 rfl (by kernel_rfl) (by kernel_rfl) (by kernel_rfl) (Nat.le_of_ble_eq_true rfl) (h _ rfl rfl)
noncomputable def ir87 : IR := .seq (.reg [.eff none (some 1) (.box 106 (.tmp 0)) 0, .asg none 2 (.const .nilFunc), .eff none (some 3) (.makeFunc (.func 127) #[] #[(.tmp 1)]) 103, .asg none 2 (.var 3)]) <| .ret
def ir87_V : List Nat := [0, 1, 2, 3]
theorem ir87_calls (h : ∀ ρ : Env, ρ 0 = v0 → ir87.wp ⟨Tryz.prog, 4, ir87_V, []⟩ (retK [.tmp 2] R) (ksOf [.tmp 2] R) ρ w) : Calls Tryz.prog 87 #[v0] w R :=
 calls_irX (raws := []) (ir := ir87) Tryz.func87 rfl (by kernel_rfl) (by kernel_rfl) (by kernel_rfl) (Nat.le_of_ble_eq_true rfl) (h _ rfl)
noncomputable def ir127_k0 : IR := .block 1 (.seq (.reg [.eff none (some 8) (.entry (.tmp 5)) 0, .asg none 3 (.op1 (.ext 0) (.var 8)), .asg none 10 (.var 0), .asg none 11 (.var 3), .eff none (some 12) (.call { callee := .value (.tmp 10), args := #[(.tmp 11)], argTypes := #[3] }) 4, .asg none 13 (.op1 .not (.var 12))]) <| .cond (.var 13) (.ret) (.skip))
noncomputable def ir127_l1 : IR := .seq (.reg [.eff none (some 6) (.next (.tmp 5) false) 0, .asg none 7 (.op1 (.ext 0) (.var 6))]) <| .seq (.cond (.var 7) (.skip) (.exit 0)) (ir127_k0)
noncomputable def ir127 : IR := .seq (.reg [.asg none 4 (.op1 .load1 (.var 1)), .eff none (some 5) (.range 106 (.tmp 4)) 0]) <| .block 0 (.loop ir127_l1)
def ir127_V : List Nat := [0, 1, 3, 4, 5, 6, 7, 8, 10, 11, 12, 13]
theorem ir127_calls (h : ∀ ρ : Env, ρ 0 = v0 → ρ 1 = v1 → ir127.wp ⟨Tryz.prog, 14, ir127_V, []⟩ (retK [] R) (ksOf [] R) ρ w) : Calls Tryz.prog 127 #[v0, v1] w R :=
 calls_irX (raws := []) (ir := ir127) Tryz.func127 rfl (by kernel_rfl) (by kernel_rfl) (by kernel_rfl) (Nat.le_of_ble_eq_true rfl) (h _ rfl rfl)
noncomputable def ir88_body : Code := ((Tryz.f88.body).getD .skip)
noncomputable def ir88_c0 : Code := (rfList ir88_body).getD 0 .skip
noncomputable def ir88_k0 : IR := .seq (.reg [.asg none 31 (.var 5), .asg none 32 (.var 8), .eff none none (.mapUpdate 106 (.tmp 31) (.tmp 32) (.const (.bool true))) 0, .asg none 36 (.op1 .load1 (.op1 (.fadr 3) (.op1 .nilc (.var 0)))), .asg none 37 (.var 8), .eff none (some 38) (.lookup 91 (.tmp 36) (.tmp 37) false) 129, .asg none 42 (.op1 .nilc (.op1 .load1 (.op1 (.fadr 0) (.op1 .nilc (.var 38))))), .eff none (some 43) (.makeFunc (.method "argus/heap.refs") #[(.tmp 42)] #[]) 103]) <| .block 2 (.raw ir88_c0)
noncomputable def ir88_k1 : IR := .block 1 (.seq (.reg [.asg none 7 (.op2 (.ibin .sub .i64) (.op1 .lenS (.op1 .load1 (.var 6))) (.const (.int .i64 1))), .asg none 8 (.op1 .load1 (.op2 (.ixa 1) (.op1 .load1 (.var 6)) (.var 7))), .asg none 27 (.op4 (.slMax 1) (.op1 .load1 (.var 6)) (.const (.int .i64 0)) (.var 7) (.var 7)), .eff none none (.store 35 (.tmp 6) (.tmp 27)) 0, .asg none 28 (.var 5), .asg none 29 (.var 8), .eff none (some 30) (.lookup 106 (.tmp 28) (.tmp 29) false) 4]) <| .seq (.cond (.var 30) (.exit 1) (.skip)) (ir88_k0))
noncomputable def ir88_l2 : IR := .seq (.reg [.asg none 16 (.op2 (.ibin .gtr .i64) (.op1 .lenS (.op1 .load1 (.var 6))) (.const (.int .i64 0)))]) <| .seq (.cond (.var 16) (.skip) (.exit 0)) (ir88_k1)
noncomputable def ir88_k3 : IR := .seq (.reg [.asg none 4 (.var 5)]) <| .ret
noncomputable def ir88 : IR := .seq (.reg [.asg none 4 (.const (.map none)), .eff none (some 10) (.makeMap 106 none) 106, .asg none 5 (.var 10), .asg none 11 (.var 1), .eff none (some 12) (.call { callee := .value (.func 33), args := #[(.tmp 11)], argTypes := #[35] }) 35, .eff none (some 13) (.call { callee := .value (.func 17), args := #[(.tmp 12), (.func 128)], argTypes := #[35, 46] }) 35, .eff none (some 6) (.alloc 35) 0, .eff none none (.store 35 (.tmp 6) (.tmp 13)) 0]) <| .seq (.block 0 (.loop ir88_l2)) (ir88_k3)
def ir88_V : List Nat := [0, 1, 4, 5, 6, 7, 8, 9, 10, 11, 12, 13, 16, 27, 28, 29, 30, 31, 32, 36, 37, 38, 42, 43, 44, 45, 46, 47, 48]
noncomputable def ir88_a0 : IR := .reg [.asg none 9 (.var 44)]
noncomputable def ir88_b0 : IR := .block 3 (.reg [.asg none 45 (.op1 .load1 (.var 6)), .asg none 46 (.var 9), .eff none (some 47) (.buildSlice 35 1 #[(0, (.tmp 46))]) 35, .eff none (some 48) (.call { callee := .builtin .append, args := #[(.tmp 45), (.tmp 47)], argTypes := #[35, 35] }) 35, .eff none none (.store 35 (.tmp 6) (.tmp 48)) 0])
theorem ir88_rf0 : ∃ A B, ir88_c0 = .rangeFunc (.tmp 43) #[44] A B ∧ Part Tryz.prog 50 ir88_V A ir88_a0 ∧ Part Tryz.prog 50 ir88_V B ir88_b0 :=
 ⟨rfA ir88_c0, rfB ir88_c0, by kernel_rfl, ⟨by kernel_rfl, by kernel_rfl⟩, ⟨by kernel_rfl, by kernel_rfl⟩⟩
theorem ir88_ok : (comp Tryz.prog Tryz.f88.ntmps ir88_V [] (Tryz.f88.body.getD .skip)).map IR.norm = some ir88 := by kernel_rfl
theorem ir88_calls {v0 v1 : Value} {w : World} {R : Ending → World → Prop} (h : ∀ ρ : Env, ρ 0 = v0 → ρ 1 = v1 → ρ gS = .tuple #[] → ir88.wp ⟨Tryz.prog, 50, ir88_V, dAny⟩ (endK Tryz.prog [.tmp 4] R .returning) (ksD Tryz.prog [.tmp 4] R) ρ w) :
  Calls Tryz.prog 88 #[v0, v1] w R := by
 obtain ⟨ir0, h1, h2⟩ := Option.map_eq_some_iff.1 ir88_ok
 exact calls_irD (args := #[v0, v1]) Tryz.func88 (c := (Tryz.f88.body.getD .skip)) rfl h1 h2 (by kernel_rfl) (show rvsOf Tryz.prog ir88_V Tryz.f88.results.toList = some [.tmp 4] by kernel_rfl) (Nat.le_of_ble_eq_true rfl) (h _ rfl rfl rfl)
noncomputable def ir128 : IR := .seq (.reg [.asg none 2 (.const (.bool false)), .asg none 2 (.op2 (.ibin .eql .i64) (.var 0) (.const (.int .i64 0)))]) <| .ret
def ir128_V : List Nat := [0, 2]
theorem ir128_calls (h : ∀ ρ : Env, ρ 0 = v0 → ir128.wp ⟨Tryz.prog, 5, ir128_V, []⟩ (retK [.tmp 2] R) (ksOf [.tmp 2] R) ρ w) : Calls Tryz.prog 128 #[v0] w R :=
 calls_irX (raws := []) (ir := ir128) Tryz.func128 rfl (by kernel_rfl) (by kernel_rfl) (by kernel_rfl) (Nat.le_of_ble_eq_true rfl) (h _ rfl)
noncomputable def ir133 : IR := .seq (.reg [.asg none 2 (.const (.slice none 0 0)), .asg none 3 (.var 0), .eff none (some 4) (.call { callee := .value (.func 141), args := #[(.const (.slice none 0 0)), (.tmp 3)], argTypes := #[35, 104] }) 35, .asg none 2 (.var 4)]) <| .ret
def ir133_V : List Nat := [0, 2, 3, 4]
theorem ir133_calls (h : ∀ ρ : Env, ρ 0 = v0 → ir133.wp ⟨Tryz.prog, 5, ir133_V, []⟩ (retK [.tmp 2] R) (ksOf [.tmp 2] R) ρ w) : Calls Tryz.prog 133 #[v0] w R :=
 calls_irX (raws := []) (ir := ir133) Tryz.func133 rfl (by kernel_rfl) (by kernel_rfl) (by kernel_rfl) (Nat.le_of_ble_eq_true rfl) (h _ rfl)
noncomputable def ir141_body : Code := ((Tryz.f141.body).getD .skip)
noncomputable def ir141_c0 : Code := (rfList ir141_body).getD 0 .skip
noncomputable def ir141_k0 : IR := .seq (.reg [.asg none 4 (.op1 .load1 (.var 2))]) <| .ret
noncomputable def ir141 : IR := .seq (.reg [.eff none (some 2) (.box 35 (.tmp 0)) 0, .asg none 4 (.const (.slice none 0 0)), .asg none 6 (.var 1)]) <| .seq (.block 0 (.raw ir141_c0)) (ir141_k0)
def ir141_V : List Nat := [0, 1, 2, 4, 5, 6, 7, 8, 9, 10, 11]
noncomputable def ir141_a0 : IR := .reg [.asg none 5 (.var 7)]
noncomputable def ir141_b0 : IR := .block 1 (.reg [.asg none 8 (.op1 .load1 (.var 2)), .asg none 9 (.var 5), .eff none (some 10) (.buildSlice 35 1 #[(0, (.tmp 9))]) 35, .eff none (some 11) (.call { callee := .builtin .append, args := #[(.tmp 8), (.tmp 10)], argTypes := #[35, 35] }) 35, .eff none none (.store 35 (.tmp 2) (.tmp 11)) 0])
theorem ir141_rf0 : ∃ A B, ir141_c0 = .rangeFunc (.tmp 6) #[7] A B ∧ Part Tryz.prog 13 ir141_V A ir141_a0 ∧ Part Tryz.prog 13 ir141_V B ir141_b0 :=
 ⟨rfA ir141_c0, rfB ir141_c0, by kernel_rfl, ⟨by kernel_rfl, by kernel_rfl⟩, ⟨by kernel_rfl, by kernel_rfl⟩⟩
theorem ir141_ok : (comp Tryz.prog Tryz.f141.ntmps ir141_V [] (Tryz.f141.body.getD .skip)).map IR.norm = some ir141 := by kernel_rfl
theorem ir141_calls {v0 v1 : Value} {w : World} {R : Ending → World → Prop} (h : ∀ ρ : Env, ρ 0 = v0 → ρ 1 = v1 → ρ gS = .tuple #[] → ir141.wp ⟨Tryz.prog, 13, ir141_V, dAny⟩ (endK Tryz.prog [.tmp 4] R .returning) (ksD Tryz.prog [.tmp 4] R) ρ w) :
  Calls Tryz.prog 141 #[v0, v1] w R := by
 obtain ⟨ir0, h1, h2⟩ := Option.map_eq_some_iff.1 ir141_ok
 exact calls_irD (args := #[v0, v1]) Tryz.func141 (c := (Tryz.f141.body.getD .skip)) rfl h1 h2 (by kernel_rfl) (show rvsOf Tryz.prog ir141_V Tryz.f141.results.toList = some [.tmp 4] by kernel_rfl) (Nat.le_of_ble_eq_true rfl) (h _ rfl rfl rfl)
noncomputable def ir135 : IR := .seq (.reg [.asg none 2 (.const (.slice none 0 0)), .asg none 6 (.op1 .load1 (.op1 (.fadr 3) (.op1 .nilc (.var 0)))), .eff none (some 7) (.call { callee := .value (.func 142), args := #[(.tmp 6)], argTypes := #[91] }) 104, .eff none (some 8) (.call { callee := .value (.func 86), args := #[(.tmp 7), (.func 89)], argTypes := #[103, 99] }) 35, .asg none 2 (.var 8)]) <| .ret
def ir135_V : List Nat := [0, 2, 6, 7, 8]
theorem ir135_calls (h : ∀ ρ : Env, ρ 0 = v0 → ir135.wp ⟨Tryz.prog, 9, ir135_V, []⟩ (retK [.tmp 2] R) (ksOf [.tmp 2] R) ρ w) : Calls Tryz.prog 135 #[v0] w R :=
 calls_irX (raws := []) (ir := ir135) Tryz.func135 rfl (by kernel_rfl) (by kernel_rfl) (by kernel_rfl) (Nat.le_of_ble_eq_true rfl) (h _ rfl)
noncomputable def ir142 : IR := .seq (.reg [.eff none (some 1) (.box 91 (.tmp 0)) 0, .asg none 2 (.const .nilFunc), .eff none (some 3) (.makeFunc (.func 155) #[] #[(.tmp 1)]) 103, .asg none 2 (.var 3)]) <| .ret
def ir142_V : List Nat := [0, 1, 2, 3]
theorem ir142_calls (h : ∀ ρ : Env, ρ 0 = v0 → ir142.wp ⟨Tryz.prog, 4, ir142_V, []⟩ (retK [.tmp 2] R) (ksOf [.tmp 2] R) ρ w) : Calls Tryz.prog 142 #[v0] w R :=
 calls_irX (raws := []) (ir := ir142) Tryz.func142 rfl (by kernel_rfl) (by kernel_rfl) (by kernel_rfl) (Nat.le_of_ble_eq_true rfl) (h _ rfl)
noncomputable def ir155_k0 : IR := .block 1 (.seq (.reg [.eff none (some 8) (.entry (.tmp 5)) 0, .asg none 3 (.op1 (.ext 0) (.var 8)), .asg none 10 (.var 0), .asg none 11 (.var 3), .eff none (some 12) (.call { callee := .value (.tmp 10), args := #[(.tmp 11)], argTypes := #[3] }) 4, .asg none 13 (.op1 .not (.var 12))]) <| .cond (.var 13) (.ret) (.skip))
noncomputable def ir155_l1 : IR := .seq (.reg [.eff none (some 6) (.next (.tmp 5) false) 0, .asg none 7 (.op1 (.ext 0) (.var 6))]) <| .seq (.cond (.var 7) (.skip) (.exit 0)) (ir155_k0)
noncomputable def ir155 : IR := .seq (.reg [.asg none 4 (.op1 .load1 (.var 1)), .eff none (some 5) (.range 91 (.tmp 4)) 0]) <| .block 0 (.loop ir155_l1)
def ir155_V : List Nat := [0, 1, 3, 4, 5, 6, 7, 8, 10, 11, 12, 13]
theorem ir155_calls (h : ∀ ρ : Env, ρ 0 = v0 → ρ 1 = v1 → ir155.wp ⟨Tryz.prog, 14, ir155_V, []⟩ (retK [] R) (ksOf [] R) ρ w) : Calls Tryz.prog 155 #[v0, v1] w R :=
 calls_irX (raws := []) (ir := ir155) Tryz.func155 rfl (by kernel_rfl) (by kernel_rfl) (by kernel_rfl) (Nat.le_of_ble_eq_true rfl) (h _ rfl rfl)
noncomputable def ir105_k0 : IR := .seq (.reg [.asg none 31 (.op1 .load1 (.var 2)), .asg none 32 (.var 0), .eff none (some 33) (.lookup 106 (.tmp 31) (.tmp 32) false) 4, .asg none 5 (.var 33)]) <| .ret
noncomputable def ir105 : IR := .seq (.reg [.asg none 5 (.const (.bool false)), .asg none 11 (.op1 .not (.op1 .load1 (.op1 (.fadr 2) (.op1 .nilc (.var 1))))), .asg (some (11, true)) 12 (.op1 .load1 (.var 2)), .asg (some (11, true)) 13 (.var 0), .eff (some (11, true)) (some 14) (.lookup 106 (.tmp 12) (.tmp 13) false) 4, .asg none 15 (.ite (.var 11) (.var 14) (.const (.bool false)))]) <| .seq (.cond (.var 15) (.reg [.asg none 16 (.var 1), .asg none 20 (.op2 (.ibin .add .i64) (.op1 .load1 (.op1 (.fadr 1) (.op1 .nilc (.var 16)))) (.const (.int .i64 1))), .asg none 22 (.op1 (.fadr 1) (.op1 .nilc (.var 16))), .eff none none (.store 3 (.tmp 22) (.tmp 20)) 0, .asg none 23 (.var 1), .asg none 28 (.op2 (.ibin .geq .i64) (.op1 .load1 (.op1 (.fadr 1) (.op1 .nilc (.var 1)))) (.const (.int .i64 2))), .asg none 30 (.op1 (.fadr 2) (.op1 .nilc (.var 23))), .eff none none (.store 4 (.tmp 30) (.tmp 28)) 0]) (.skip)) (ir105_k0)
def ir105_V : List Nat := [0, 1, 2, 5, 11, 12, 13, 14, 15, 16, 20, 22, 23, 28, 30, 31, 32, 33]
theorem ir105_calls (h : ∀ ρ : Env, ρ 0 = v0 → ρ 1 = v1 → ρ 2 = v2 → ir105.wp ⟨Tryz.prog, 34, ir105_V, []⟩ (retK [.tmp 5] R) (ksOf [.tmp 5] R) ρ w) : Calls Tryz.prog 105 #[v0, v1, v2] w R :=
 calls_irX (raws := []) (ir := ir105) Tryz.func105 rfl (by kernel_rfl) (by kernel_rfl) (by kernel_rfl) (Nat.le_of_ble_eq_true rfl) (h _ rfl rfl rfl)
noncomputable def ir134 : IR := .seq (.reg [.asg none 5 (.const (.bool false)), .asg none 6 (.var 1), .asg none 11 (.op1 .load1 (.op1 (.fadr 2) (.op1 .nilc (.var 1)))), .asg (some (11, false)) 12 (.op1 .load1 (.var 2)), .asg (some (11, false)) 13 (.var 0), .eff (some (11, false)) (some 14) (.lookup 106 (.tmp 12) (.tmp 13) false) 4, .asg none 15 (.ite (.var 11) (.const (.bool true)) (.var 14)), .asg none 17 (.op1 (.fadr 2) (.op1 .nilc (.var 6))), .eff none none (.store 4 (.tmp 17) (.tmp 15)) 0, .asg none 18 (.op1 .load1 (.var 2)), .asg none 19 (.var 0), .eff none (some 20) (.lookup 106 (.tmp 18) (.tmp 19) false) 4, .asg none 5 (.var 20)]) <| .ret
def ir134_V : List Nat := [0, 1, 2, 5, 6, 11, 12, 13, 14, 15, 17, 18, 19, 20]
theorem ir134_calls (h : ∀ ρ : Env, ρ 0 = v0 → ρ 1 = v1 → ρ 2 = v2 → ir134.wp ⟨Tryz.prog, 21, ir134_V, []⟩ (retK [.tmp 5] R) (ksOf [.tmp 5] R) ρ w) : Calls Tryz.prog 134 #[v0, v1, v2] w R :=
 calls_irX (raws := []) (ir := ir134) Tryz.func134 rfl (by kernel_rfl) (by kernel_rfl) (by kernel_rfl) (Nat.le_of_ble_eq_true rfl) (h _ rfl rfl rfl)
noncomputable def ir38_k0 : IR := .block 1 (.seq (.reg [.eff none (some 34) (.entry (.tmp 31)) 0, .asg none 35 (.op1 (.ext 0) (.var 34)), .asg none 36 (.op1 (.ext 1) (.var 34)), .asg none 8 (.var 35), .asg none 9 (.var 36), .asg none 40 (.op1 .load1 (.op1 (.fadr 2) (.op1 .nilc (.var 9))))]) <| .cond (.var 40) (.reg [.asg none 41 (.var 7), .asg none 42 (.var 8), .eff none (some 43) (.buildSlice 35 1 #[(0, (.tmp 42))]) 35, .eff none (some 44) (.call { callee := .builtin .append, args := #[(.tmp 41), (.tmp 43)], argTypes := #[35, 35] }) 35, .asg none 7 (.var 44)]) (.skip))
noncomputable def ir38_l1 : IR := .seq (.reg [.eff none (some 32) (.next (.tmp 31) false) 0, .asg none 33 (.op1 (.ext 0) (.var 32))]) <| .seq (.cond (.var 33) (.skip) (.exit 0)) (ir38_k0)
noncomputable def ir38_k2 : IR := .seq (.reg [.asg none 47 (.op1 (.fadr 0) (.op1 .nilc (.var 0))), .asg none 48 (.var 7), .eff none (some 49) (.call { callee := .value (.func 88), args := #[(.tmp 47), (.tmp 48)], argTypes := #[93, 35] }) 106, .eff none (some 10) (.alloc 106) 0, .eff none none (.store 106 (.tmp 10) (.tmp 49)) 0, .asg none 50 (.var 0), .eff none (some 51) (.makeFunc (.func 105) #[] #[(.tmp 10)]) 135, .eff none (some 52) (.call { callee := .value (.func 104), args := #[(.tmp 50), (.tmp 51)], argTypes := #[25, 135] }) 3, .asg none 4 (.var 52), .asg none 5 (.const (.int .i64 0))]) <| .ret
noncomputable def ir38_k3 : IR := .seq (.reg [.asg none 24 (.var 1), .eff none (some 25) (.call { callee := .value (.func 33), args := #[(.tmp 24)], argTypes := #[35] }) 35, .asg none 7 (.var 25), .asg none 30 (.op1 .load1 (.op1 (.fadr 3) (.op1 (.fadr 0) (.op1 .nilc (.var 0))))), .eff none (some 31) (.range 91 (.tmp 30)) 0]) <| .seq (.block 0 (.loop ir38_l1)) (ir38_k2)
noncomputable def ir38_k4 : IR := .seq (.reg [.asg none 18 (.var 0), .asg none 19 (.var 1), .eff none (some 20) (.call { callee := .value (.func 85), args := #[(.tmp 18), (.tmp 19)], argTypes := #[25, 35] }) 26, .asg none 6 (.var 20), .asg none 22 (.op2 (.ibin .neq .i64) (.var 6) (.const (.int .i64 0)))]) <| .seq (.cond (.var 22) (.seq (.reg [.asg none 23 (.var 6), .asg none 4 (.const (.int .i64 0)), .asg none 5 (.var 23)]) <| .ret) (.skip)) (ir38_k3)
noncomputable def ir38_k5 : IR := .seq (.reg [.asg none 16 (.op1 .load1 (.op1 (.fadr 4) (.op1 .nilc (.var 0)))), .eff none (some 17) (.binOp .neq 94 (.tmp 16) (.const (.pointer none)) 94) 4]) <| .seq (.cond (.var 17) (.seq (.reg [.asg none 4 (.const (.int .i64 0)), .asg none 5 (.const (.int .i64 8))]) <| .ret) (.skip)) (ir38_k4)
noncomputable def ir38 : IR := .seq (.reg [.asg none 4 (.const (.int .i64 0)), .asg none 5 (.const (.int .i64 0)), .asg none 11 (.var 0), .eff none (some 12) (.binOp .eql 25 (.tmp 11) (.const (.pointer none)) 25) 4]) <| .seq (.cond (.var 12) (.seq (.reg [.asg none 4 (.const (.int .i64 0)), .asg none 5 (.const (.int .i64 3))]) <| .ret) (.skip)) (ir38_k5)
def ir38_V : List Nat := [0, 1, 4, 5, 6, 7, 8, 9, 10, 11, 12, 16, 17, 18, 19, 20, 22, 23, 24, 25, 30, 31, 32, 33, 34, 35, 36, 40, 41, 42, 43, 44, 47, 48, 49, 50, 51, 52]
theorem ir38_calls (h : ∀ ρ : Env, ρ 0 = v0 → ρ 1 = v1 → ir38.wp ⟨Tryz.prog, 53, ir38_V, []⟩ (retK [.tmp 4, .tmp 5] R) (ksOf [.tmp 4, .tmp 5] R) ρ w) : Calls Tryz.prog 38 #[v0, v1] w R :=
 calls_irX (raws := []) (ir := ir38) Tryz.func38 rfl (by kernel_rfl) (by kernel_rfl) (by kernel_rfl) (Nat.le_of_ble_eq_true rfl) (h _ rfl rfl)
noncomputable def ir17_k0 : IR := .reg [.asg none 6 (.op2 (.ibin .add .i64) (.var 6) (.const (.int .i64 1)))]
noncomputable def ir17_k1 : IR := .seq (.block 1 (.seq (.reg [.asg none 7 (.op1 .load1 (.op2 (.ixa 1) (.var 0) (.var 6))), .asg none 26 (.var 1), .asg none 27 (.var 7), .eff none (some 28) (.call { callee := .value (.tmp 26), args := #[(.tmp 27)], argTypes := #[3] }) 4, .asg none 29 (.op1 .not (.var 28))]) <| .cond (.var 29) (.reg [.asg none 30 (.var 0), .asg none 31 (.var 5), .asg none 32 (.var 7), .asg none 33 (.op2 (.ixa 1) (.var 30) (.var 31)), .eff none none (.store 3 (.tmp 33) (.tmp 32)) 0, .asg none 5 (.op2 (.ibin .add .i64) (.var 5) (.const (.int .i64 1)))]) (.skip))) (ir17_k0)
noncomputable def ir17_l2 : IR := .seq (.reg [.asg none 19 (.op2 (.ibin .lss .i64) (.var 6) (.op1 .lenS (.var 0)))]) <| .seq (.cond (.var 19) (.skip) (.exit 0)) (ir17_k1)
noncomputable def ir17_k3 : IR := .seq (.reg [.asg none 38 (.op2 (.slLo 1) (.var 0) (.var 5)), .eff none none (.call { callee := .builtin .clear, args := #[(.tmp 38)], argTypes := #[35] }) 0, .asg none 4 (.op3 (.slLoHi 1) (.var 0) (.const (.int .i64 0)) (.var 5))]) <| .ret
noncomputable def ir17_k4 : IR := .seq (.reg [.asg none 6 (.op2 (.ibin .add .i64) (.var 5) (.const (.int .i64 1)))]) <| .seq (.block 0 (.loop ir17_l2)) (ir17_k3)
noncomputable def ir17 : IR := .seq (.reg [.asg none 4 (.const (.slice none 0 0)), .asg none 8 (.var 0), .asg none 9 (.var 1), .eff none (some 10) (.call { callee := .value (.func 83), args := #[(.tmp 8), (.tmp 9)], argTypes := #[35, 46] }) 3, .asg none 5 (.var 10), .asg none 12 (.op2 (.ibin .eql .i64) (.var 5) (.const (.int .i64 (-1))))]) <| .seq (.cond (.var 12) (.seq (.reg [.asg none 4 (.var 0)]) <| .ret) (.skip)) (ir17_k4)
def ir17_V : List Nat := [0, 1, 4, 5, 6, 7, 8, 9, 10, 12, 19, 26, 27, 28, 29, 30, 31, 32, 33, 38]
theorem ir17_calls (h : ∀ ρ : Env, ρ 0 = v0 → ρ 1 = v1 → ir17.wp ⟨Tryz.prog, 42, ir17_V, []⟩ (retK [.tmp 4] R) (ksOf [.tmp 4] R) ρ w) : Calls Tryz.prog 17 #[v0, v1] w R :=
 calls_irX (raws := []) (ir := ir17) Tryz.func17 rfl (by kernel_rfl) (by kernel_rfl) (by kernel_rfl) (Nat.le_of_ble_eq_true rfl) (h _ rfl rfl)
noncomputable def ir52 : IR := .seq (.reg [.asg none 4 (.const (.bool false)), .asg none 5 (.var 0), .asg none 6 (.var 1), .eff none (some 7) (.call { callee := .value (.func 113), args := #[(.tmp 5), (.tmp 6)], argTypes := #[35, 3] }) 3, .asg none 4 (.op2 (.ibin .geq .i64) (.var 7) (.const (.int .i64 0)))]) <| .ret
def ir52_V : List Nat := [0, 1, 4, 5, 6, 7]
theorem ir52_calls (h : ∀ ρ : Env, ρ 0 = v0 → ρ 1 = v1 → ir52.wp ⟨Tryz.prog, 9, ir52_V, []⟩ (retK [.tmp 4] R) (ksOf [.tmp 4] R) ρ w) : Calls Tryz.prog 52 #[v0, v1] w R :=
 calls_irX (raws := []) (ir := ir52) Tryz.func52 rfl (by kernel_rfl) (by kernel_rfl) (by kernel_rfl) (Nat.le_of_ble_eq_true rfl) (h _ rfl rfl)
noncomputable def ir113_k0 : IR := .reg [.asg none 8 (.op2 (.ibin .add .i64) (.var 8) (.const (.int .i64 1)))]
noncomputable def ir113_k1 : IR := .seq (.block 1 (.seq (.reg [.asg none 5 (.var 8), .asg none 16 (.op2 (.ibin .eql .i64) (.var 1) (.op1 .load1 (.op2 (.ixa 1) (.var 0) (.var 5))))]) <| .cond (.var 16) (.seq (.reg [.asg none 4 (.var 5)]) <| .ret) (.skip))) (ir113_k0)
noncomputable def ir113_l2 : IR := .seq (.reg [.asg none 9 (.op2 (.ibin .lss .i64) (.var 8) (.var 7))]) <| .seq (.cond (.var 9) (.skip) (.exit 0)) (ir113_k1)
noncomputable def ir113_k3 : IR := .seq (.reg [.asg none 4 (.const (.int .i64 (-1)))]) <| .ret
noncomputable def ir113 : IR := .seq (.reg [.asg none 4 (.const (.int .i64 0)), .asg none 7 (.op1 .lenS (.var 0)), .asg none 8 (.const (.int .i64 0))]) <| .seq (.block 0 (.loop ir113_l2)) (ir113_k3)
def ir113_V : List Nat := [0, 1, 4, 5, 7, 8, 9, 16]
theorem ir113_calls (h : ∀ ρ : Env, ρ 0 = v0 → ρ 1 = v1 → ir113.wp ⟨Tryz.prog, 19, ir113_V, []⟩ (retK [.tmp 4] R) (ksOf [.tmp 4] R) ρ w) : Calls Tryz.prog 113 #[v0, v1] w R :=
 calls_irX (raws := []) (ir := ir113) Tryz.func113 rfl (by kernel_rfl) (by kernel_rfl) (by kernel_rfl) (Nat.le_of_ble_eq_true rfl) (h _ rfl rfl)
noncomputable def ir29_k0 : IR := .cond (.var 24) (.seq (.reg [.asg none 4 (.const (.bool false))]) <| .ret) (.skip)
noncomputable def ir29_k1 : IR := .reg [.asg none 13 (.op2 (.ibin .add .i64) (.var 13) (.const (.int .i64 1)))]
noncomputable def ir29_k2 : IR := .seq (.block 1 (.seq (.reg [.asg none 5 (.var 13)]) <| .seq (.drw [.asg none 24 (.op2 (.ibin .neq .i64) (.op1 .load1 (.op2 (.ixa 1) (.var 0) (.var 5))) (.op1 .load1 (.op2 (.ixa 1) (.var 1) (.var 5))))]) (ir29_k0))) (ir29_k1)
noncomputable def ir29_l3 : IR := .seq (.reg [.asg none 14 (.op2 (.ibin .lss .i64) (.var 13) (.var 12))]) <| .seq (.cond (.var 14) (.skip) (.exit 0)) (ir29_k2)
noncomputable def ir29_k4 : IR := .seq (.reg [.asg none 4 (.const (.bool true))]) <| .ret
noncomputable def ir29_k5 : IR := .seq (.reg [.asg none 12 (.op1 .lenS (.var 0)), .asg none 13 (.const (.int .i64 0))]) <| .seq (.block 0 (.loop ir29_l3)) (ir29_k4)
noncomputable def ir29 : IR := .seq (.reg [.asg none 4 (.const (.bool false)), .asg none 10 (.op2 (.ibin .neq .i64) (.op1 .lenS (.var 0)) (.op1 .lenS (.var 1)))]) <| .seq (.cond (.var 10) (.seq (.reg [.asg none 4 (.const (.bool false))]) <| .ret) (.skip)) (ir29_k5)
def ir29_V : List Nat := [0, 1, 4, 5, 10, 12, 13, 14, 24]
theorem ir29_calls (h : ∀ ρ : Env, ρ 0 = v0 → ρ 1 = v1 → ir29.wp ⟨Tryz.prog, 26, ir29_V, []⟩ (retK [.tmp 4] R) (ksOf [.tmp 4] R) ρ w) : Calls Tryz.prog 29 #[v0, v1] w R :=
 calls_irX (raws := []) (ir := ir29) Tryz.func29 rfl (by kernel_rfl) (by kernel_rfl) (by kernel_rfl) (Nat.le_of_ble_eq_true rfl) (h _ rfl rfl)
end Go.L17
namespace Go.L17
open Go Go.Eng Go.RowKit Go.Proofs
set_option maxRecDepth 100000
set_option maxHeartbeats 2000000
inductive Role where
 | heap | map | wh | bm | wm | gr | en
 | ob (n : Int) | th (n : Int) | ks (n : Int) | vs (n : Int) | wv (n : Int)
 deriving DecidableEq
abbrev Lay := Role → Option Nat
def ptr (b : Nat) : Value := .pointer (some ⟨b, 0, none⟩)
def encU (k : Nat) : Value := .int .u8 (k : Int)
structure SlAt (base e : Nat) (w : World) (v : Value) (xs : List Value) (b : Option Nat) : Prop where
 own : Own base e 1 w v xs
 blk : v.ownBlock = b
theorem SlAt.keep {base e : Nat} {w w' : World} {v : Value} {xs : List Value} {b : Option Nat} (h : SlAt base e w v xs b) (hk : ∀ k, b = some k → w'.heap[k]? = w.heap[k]?) : SlAt base e w' v xs b := by
 refine ⟨?_, h.blk⟩
 rcases h.own with ho | ⟨g, off, n, cap, cur, rfl, hb, hg, r⟩
 ·exact .inl ho
 ·exact .inr ⟨g, off, n, cap, cur, rfl, hb, (hk g (by rw [← h.blk]; rfl)).trans hg, r⟩
theorem SlAt.sl {α : Type} {enc : α → Value} {base e : Nat} {w : World} {v : Value} {xs : List α} {b : Option Nat} (h : SlAt base e w v (xs.map enc) b) (hbd : xs.length < 4611686018427387904) : Sl enc w v xs := h.own.sl hbd
theorem Blk.keep {w w' : World} {b : Nat} {cs : Array Value} {t : TypeId} (h : Blk w b cs t) (hk : w'.heap[b]? = w.heap[b]?) : Blk w' b cs t := ⟨hk.trans h.heap⟩
def tyOf (o : MO) : TypeId := if o.elem = 0 then 113 else 108
inductive ThAt (base : Nat) (w : World) (β : Lay) (n : Int) (o : MO) (f : Nat) (vv : Value) : Prop where
 | fields (kv : Value) : o.elem = 0 → o.kinds.length = o.vals.length → (∀ k ∈ o.kinds, k = 1 ∨ k = 2) → Blk w f #[.int .i64 o.tag, kv, vv] 117 → SlAt base 5 w kv (o.kinds.map encU) (β (.ks n)) → ThAt base w β n o f vv
 | array : (o.elem = 1 ∨ o.elem = 2) → Blk w f #[.int .u8 (o.elem : Int), vv] 112 → ThAt base w β n o f vv
structure ObAt (base : Nat) (w : World) (β : Lay) (n : Int) (o : MO) : Prop where
 ex : ∃ p f kept vv, β (.ob n) = some p ∧ β (.th n) = some f ∧ Blk w p #[.iface (tyOf o) (ptr f), .int .i64 kept, .bool (decide (2 ≤ o.age)), .bool o.watched] 133 ∧ (o.age < 2 → kept = o.age) ∧
  SlAt base 3 w vv (o.vals.map encI) (β (.vs n)) ∧ ThAt base w β n o f vv
inductive WhAt (base : Nat) (w : World) (β : Lay) (m : MS) : Option Wh → Value → Prop where
 | off : m.on = false → WhAt base w β m none (.pointer none)
 | on (c : Wh) (q bm wm : Nat) (gv : Value) (sv : Int → Value) (s : MS) (roots : List Int) : m.on = true → Inv s roots m c → β .wh = some q → β .bm = some bm → β .wm = some wm →
   Blk w q #[.int .i64 c.first, .map (some bm), gv, .map (some wm), .int .i64 c.left] 127 → I.MapB w bm (c.black.map fun n => (n, .bool true)) → SlAt base 3 w gv (c.gray.map encI) (β .gr) →
   I.MapB w wm (c.was.map fun p => (p.1, sv p.1)) → (∀ p ∈ c.was, SlAt base 3 w (sv p.1) (p.2.map encI) (β (.wv p.1))) → WhAt base w β m (some c) (ptr q)
def wasOk (x : Wh) : Prop := ∀ p ∈ x.was, p.2.length ≤ 200
def whOk (c : Option Wh) : Prop := ∀ x, c = some x → wasOk x ∧ -1000 ≤ x.left ∧ x.left ≤ 0
structure HAt (base : Nat) (w : World) (Hb : Nat) (β : Lay) (m : MS) (c : Option Wh) : Prop where
 inj : ∀ r1 r2 b, β r1 = some b → β r2 = some b → r1 = r2
 lo : ∀ r b, β r = some b → base ≤ b
 hi : ∀ r b, β r = some b → b < w.heap.size
 hb : β .heap = some Hb
 hd : ∃ M ps onv ev, β .map = some M ∧ Blk w Hb #[.int .i64 m.words, .int .i64 m.used, .int .i64 m.objs.length, .map (some M), onv, ev] 96 ∧ I.MapB w M ps ∧
  (∀ n, I.lookP ps n = if m.there n then (β (.ob n)).map ptr else none) ∧ WhAt base w β m c onv ∧ SlAt base 3 w ev (m.told.map encI) (β .en)
 obs : ∀ n, m.there n = true → ObAt base w β n (m.at n)
 free : ∀ n, m.there n = false → β (.ob n) = none ∧ β (.th n) = none ∧ β (.ks n) = none ∧ β (.vs n) = none
 wf : m.wf
 small : ∀ n, m.there n = true → (m.at n).vals.length ≤ 200
 words : m.used ≤ m.words ∧ m.words ≤ 1000000 ∧ 0 ≤ m.words
 len : m.objs.length < 1152921504606846976
 ok : whOk c
theorem ThAt.keep {base : Nat} {w w' : World} {β : Lay} {n : Int} {o : MO} {f : Nat} {vv : Value} (h : ThAt base w β n o f vv) (hf : w'.heap[f]? = w.heap[f]?) (hk : ∀ k, β (.ks n) = some k → w'.heap[k]? = w.heap[k]?) : ThAt base w' β n o f vv := by
 cases h with
 | fields kv h1 h2 h3 h4 h5 => exact .fields kv h1 h2 h3 (Blk.keep h4 hf) (h5.keep hk)
 | array h1 h2 => exact .array h1 (Blk.keep h2 hf)
theorem ObAt.keep {base : Nat} {w w' : World} {β : Lay} {n : Int} {o : MO} (h : ObAt base w β n o) (hk : ∀ r b, β r = some b → w'.heap[b]? = w.heap[b]?) : ObAt base w' β n o := by
 obtain ⟨p, f, kept, vv, h1, h2, h3, h4, h5, h6⟩ := h.ex
 exact ⟨p, f, kept, vv, h1, h2, Blk.keep h3 (hk _ _ h1), h4, h5.keep (fun k => hk _ k), h6.keep (hk _ _ h2) (fun k => hk _ k)⟩
theorem WhAt.keep {base : Nat} {w w' : World} {β : Lay} {m : MS} {c : Option Wh} {v : Value} (h : WhAt base w β m c v) (hk : ∀ r b, β r = some b → w'.heap[b]? = w.heap[b]?) : WhAt base w' β m c v := by
 cases h with
 | off h => exact .off h
 | on c q bm wm gv sv s roots h1 h2 h3 h4 h5 h6 h7 h8 h9 h10 =>
  exact .on c q bm wm gv sv s roots h1 h2 h3 h4 h5 (Blk.keep h6 (hk _ _ h3)) (h7.block (hk _ _ h4)) (h8.keep (fun k => hk _ k)) (h9.block (hk _ _ h5)) (fun p hp => (h10 p hp).keep (fun k => hk _ k))
theorem HAt.keep {base : Nat} {w w' : World} {Hb : Nat} {β : Lay} {m : MS} {c : Option Wh} (h : HAt base w Hb β m c) (hk : ∀ r b, β r = some b → w'.heap[b]? = w.heap[b]?) : HAt base w' Hb β m c := by
 obtain ⟨M, ps, onv, ev, h1, h2, h3, h4, h5, h6⟩ := h.hd
 have hi : ∀ r b, β r = some b → b < w'.heap.size := fun r b hr => by
  have h1 := hk r b hr
  rw [Array.getElem?_eq_getElem (h.hi r b hr)] at h1
  exact (Array.getElem?_eq_some_iff.1 h1).1
 exact ⟨h.inj, h.lo, hi, h.hb, ⟨M, ps, onv, ev, h1, Blk.keep h2 (hk _ _ h.hb), h3.block (hk _ _ h1), h4, h5.keep hk, h6.keep (fun k => hk _ k)⟩, fun n hn => (h.obs n hn).keep hk, h.free, h.wf, h.small, h.words, h.len, h.ok⟩
@[simp] theorem cb58 : callB Tryz.prog 58 = true := by kernel_rfl
@[simp] theorem cb84 : callB Tryz.prog 84 = true := by kernel_rfl
@[simp] theorem cb90 : callB Tryz.prog 90 = true := by kernel_rfl
@[simp] theorem cb91 : callB Tryz.prog 91 = true := by kernel_rfl
@[simp] theorem cb92 : callB Tryz.prog 92 = true := by kernel_rfl
@[simp] theorem cb93 : callB Tryz.prog 93 = true := by kernel_rfl
@[simp] theorem cb106 : callB Tryz.prog 106 = true := by kernel_rfl
@[simp] theorem cb20 : callB Tryz.prog 20 = true := by kernel_rfl
@[simp] theorem cb96 : callB Tryz.prog 96 = true := by kernel_rfl
theorem t_in (n a b : Int) (w : World) : Calls Tryz.prog 58 #[.int .i64 n, .int .i64 a, .int .i64 b] w fun e w' => e = .returned (.bool (decide (a ≤ n) && decide (n ≤ b))) ∧ w' = w := by
 refine ir58_calls fun ρ h0 h1 h2 => ?_
 simp [ir58, h0, h1, h2]
theorem t_isKind (k : Nat) (w : World) : Calls Tryz.prog 96 #[encU k] w fun e w' => e = .returned (.bool (isKind k)) ∧ w' = w := by
 refine ir96_calls fun ρ h0 => ?_
 simp [ir96, h0, encU, isKind]
 by_cases h : k = 1
 ·subst h; simp
 ·have h' : ¬ (k : Int) = 1 := by omega
  by_cases h2 : k = 2
  ·subst h2; simp
  ·have h2' : ¬ (k : Int) = 2 := by omega
   simp [h, h', h2, h2']
theorem und91 : Tryz.prog.underlying 91 = some (.map 3 129) := by kernel_rfl
theorem und3 : Tryz.prog.underlying 3 = some (.int .i64) := by kernel_rfl
theorem und25 : Tryz.prog.underlying 25 = some (.pointer 96) := by kernel_rfl
theorem und129 : Tryz.prog.underlying 129 = some (.pointer 133) := by kernel_rfl
theorem und94 : Tryz.prog.underlying 94 = some (.pointer 127) := by kernel_rfl
theorem zi129 : ((Tryz.prog.info? 129).bind fun i => i.zero) = some (.pointer none) := by kernel_rfl
theorem und113 : Tryz.prog.underlying 113 = some (.pointer 117) := by kernel_rfl
theorem und108 : Tryz.prog.underlying 108 = some (.pointer 112) := by kernel_rfl
theorem zi113 : ((Tryz.prog.info? 113).bind fun i => i.zero) = some (.pointer none) := by kernel_rfl
theorem zi108 : ((Tryz.prog.info? 108).bind fun i => i.zero) = some (.pointer none) := by kernel_rfl
section
variable {base Hb : Nat} {β : Lay} {m : MS} {c : Option Wh} {w : World}
def obP (β : Lay) (m : MS) (n : Int) : Value := if m.there n then ptr ((β (.ob n)).getD 0) else .pointer none
theorem look_obP {ps : List (Int × Value)} (h : HAt base w Hb β m c) (hps : ∀ n, I.lookP ps n = if m.there n then (β (.ob n)).map ptr else none) (n : Int) : (I.lookP ps n).getD (.pointer none) = obP β m n := by
 rw [hps, obP]
 cases ht : m.there n with
 | false => rfl
 | true =>
  obtain ⟨p, f, kept, vv, h1, _⟩ := (h.obs n ht).ex
  simp [h1]
theorem t_there (h : HAt base w Hb β m c) (n : Int) : Calls Tryz.prog 84 #[ptr Hb, .int .i64 n] w fun e w' => e = .returned (.bool (m.there n)) ∧ w' = w := by
 obtain ⟨M, ps, onv, ev, h1, hd, hm, hps, _, _⟩ := h.hd
 have hte := und129
 refine ir84_calls fun ρ r0 r1 => ?_
 simp [ir84, r0, r1, ptr, hd.cell]
 refine I.eff_lookup (s := n) und91 und3 zi129 (by simp) (by simp [r1]) hm false ?_
 simp
 rw [look_obP h hps n]
 refine eff_neqNilP (p := if m.there n then some ⟨(β (.ob n)).getD 0, 0, none⟩ else none) hte (by unfold obP ptr; split <;> simp_all) ?_
 cases ht : m.there n <;> simp [ht]
theorem t_There (h : HAt base w Hb β m c) (n : Int) : Calls Tryz.prog 20 #[ptr Hb, .int .i64 n] w fun e w' => e = .returned (.bool (m.there n)) ∧ w' = w := by
 have hte := und25
 refine ir20_calls fun ρ r0 r1 => ?_
 simp [ir20, r0, r1]
 refine eff_neqNilP (p := some ⟨Hb, 0, none⟩) hte (by simp [ptr]) ?_
 simp [r0, r1, ptr]
 refine (t_there h n).mono ?_
 rintro _ w' ⟨rfl, rfl⟩
 simp
theorem t_get (h : HAt base w Hb β m c) (n : Int) : Calls Tryz.prog 106 #[ptr Hb, .int .i64 n] w fun e w' => e = .returned (.tuple #[obP β m n, .int .i64 (if m.there n then 0 else 171)]) ∧ w' = w := by
 obtain ⟨M, ps, onv, ev, h1, hd, hm, hps, _, _⟩ := h.hd
 have hte := und25
 refine ir106_calls fun ρ r0 r1 => ?_
 simp [ir106, r0, r1]
 refine eff_eqlNilP (p := some ⟨Hb, 0, none⟩) hte (by simp [ptr]) ?_
 simp [ir106_k1, r0, r1, ptr]
 refine (t_there h n).mono ?_
 rintro _ w' ⟨rfl, rfl⟩
 cases ht : m.there n with
 | false => simp [ht, obP]
 | true =>
  simp [ht, ir106_k0, r0, r1, ptr, hd.cell]
  refine I.eff_lookup (s := n) und91 und3 zi129 (by simp) (by simp [r1]) hm false ?_
  simp
  exact look_obP h hps n
def thP (β : Lay) (m : MS) (n : Int) : Value := ptr ((β (.th n)).getD 0)
theorem t_plain (h : HAt base w Hb β m c) (n : Int) : Calls Tryz.prog 91 #[ptr Hb, .int .i64 n] w fun e w' => e = .returned (.tuple #[if m.there n && decide ((m.at n).elem = 0) then thP β m n else .pointer none, .int .i64 (if m.there n then (if (m.at n).elem = 0 then 0 else 1) else 171)]) ∧ w' = w := by
 refine ir91_calls fun ρ r0 r1 => ?_
 simp [ir91, r0, r1]
 refine (t_get h n).mono ?_
 rintro _ w' ⟨rfl, rfl⟩
 cases ht : m.there n with
 | false => simp [ht]
 | true =>
  obtain ⟨p, f, kept, vv, h1, h2, hp, _, _, _⟩ := (h.obs n ht).ex
  have hte := und113
  simp [ht, ir91_k1, obP, h1, ptr, hp.cell]
  by_cases he : (m.at n).elem = 0
  ·refine eff_assert (a := 113) (v := ptr f) hte (by simp) (by simp [tyOf, he, ptr]) ?_
   simp [he, thP, h2, ptr]
  ·refine eff_assertNo (a := 113) (t := 108) (v := ptr f) hte (by simp) (by simp [tyOf, he, ptr]) (by decide) zi113 ?_
   simp [he, ir91_k0]
theorem t_array (h : HAt base w Hb β m c) (n : Int) : Calls Tryz.prog 90 #[ptr Hb, .int .i64 n] w fun e w' => e = .returned (.tuple #[if m.arrayE n = 0 then thP β m n else .pointer none, .int .i64 (m.arrayE n)]) ∧ w' = w := by
 refine ir90_calls fun ρ r0 r1 => ?_
 simp [ir90, r0, r1]
 refine (t_get h n).mono ?_
 rintro _ w' ⟨rfl, rfl⟩
 cases ht : m.there n with
 | false => simp [ht, MS.arrayE]
 | true =>
  obtain ⟨p, f, kept, vv, h1, h2, hp, _, _, _⟩ := (h.obs n ht).ex
  have hte := und108
  simp [ht, ir90_k1, obP, h1, ptr, hp.cell]
  by_cases he : (m.at n).elem = 0
  ·refine eff_assertNo (a := 108) (t := 113) (v := ptr f) hte (by simp) (by simp [tyOf, he, ptr]) (by decide) zi108 ?_
   simp [he, ir90_k0, MS.arrayE, ht]
  ·refine eff_assert (a := 108) (v := ptr f) hte (by simp) (by simp [tyOf, he, ptr]) ?_
   simp [he, thP, h2, ptr, MS.arrayE, ht]
end
end Go.L17
namespace Go.L17
open Go Go.Eng Go.RowKit Go.Proofs
set_option maxRecDepth 100000
set_option maxHeartbeats 2000000
@[simp] theorem cb26 : callB Tryz.prog 26 = true := by kernel_rfl
@[simp] theorem cb23 : callB Tryz.prog 23 = true := by kernel_rfl
@[simp] theorem cb24 : callB Tryz.prog 24 = true := by kernel_rfl
@[simp] theorem cb25 : callB Tryz.prog 25 = true := by kernel_rfl
@[simp] theorem cb27 : callB Tryz.prog 27 = true := by kernel_rfl
@[simp] theorem cb97 : callB Tryz.prog 97 = true := by kernel_rfl
section
variable {base Hb : Nat} {β : Lay} {m : MS} {c : Option Wh} {w : World}
theorem HAt.plainAt (h : HAt base w Hb β m c) {n : Int} (ht : m.there n = true) (he : (m.at n).elem = 0) : ∃ f kv vv, β (.th n) = some f ∧ Blk w f #[.int .i64 (m.at n).tag, kv, vv] 117 ∧ Sl encU w kv (m.at n).kinds ∧ Sl encI w vv (m.at n).vals ∧ (m.at n).kinds.length = (m.at n).vals.length ∧ ∀ k ∈ (m.at n).kinds, k = 1 ∨ k = 2 := by
 obtain ⟨p, f, kept, vv, h1, h2, hp, _, h5, h6⟩ := (h.obs n ht).ex
 have hs := h.small n ht
 cases h6 with
 | fields kv a1 a2 a3 a4 a5 => exact ⟨f, kv, vv, h2, a4, a5.sl (by omega), h5.sl (by omega), a2, a3⟩
 | array a1 a2 => omega
theorem HAt.arrayAt (h : HAt base w Hb β m c) {n : Int} (ht : m.there n = true) (he : (m.at n).elem ≠ 0) : ∃ f vv, β (.th n) = some f ∧ Blk w f #[.int .u8 ((m.at n).elem : Int), vv] 112 ∧ Sl encI w vv (m.at n).vals ∧ ((m.at n).elem = 1 ∨ (m.at n).elem = 2) := by
 obtain ⟨p, f, kept, vv, h1, h2, hp, _, h5, h6⟩ := (h.obs n ht).ex
 have hs := h.small n ht
 cases h6 with
 | fields kv a1 a2 a3 a4 a5 => exact absurd a1 he
 | array a1 a2 => exact ⟨f, vv, h2, a2, h5.sl (by omega), a1⟩
theorem arrayE_zero {m : MS} {n : Int} : m.arrayE n = 0 ↔ m.there n = true ∧ (m.at n).elem ≠ 0 := by
 unfold MS.arrayE
 cases m.there n <;> simp
theorem fieldE_zero {m : MS} {n i : Int} : m.fieldE n i = 0 ↔ m.there n = true ∧ (m.at n).elem = 0 ∧ 0 ≤ i ∧ i < (m.at n).vals.length := by
 unfold MS.fieldE
 cases m.there n with
 | false => simp
 | true =>
  simp only [Bool.true_eq_false, if_false, true_and]
  by_cases h : (m.at n).elem ≠ 0 ∨ i < 0 ∨ ((m.at n).vals.length : Int) ≤ i
  ·rw [if_pos h]; simp; omega
  ·rw [if_neg h]; simp; omega
theorem elemE_zero {m : MS} {n i : Int} : m.elemE n i = 0 ↔ (m.there n = true ∧ (m.at n).elem ≠ 0) ∧ 1 ≤ i ∧ i ≤ (m.at n).vals.length := by
 unfold MS.elemE
 by_cases h : m.arrayE n = 0
 ·have h' := arrayE_zero.1 h
  simp only [h, ne_eq, not_true_eq_false, if_false]
  by_cases h2 : i < 1 ∨ ((m.at n).vals.length : Int) < i
  ·rw [if_pos h2]; simp; omega
  ·rw [if_neg h2]; simp [h']; omega
 ·rw [if_pos h]
  constructor
  ·intro e; exact absurd e h
  ·rintro ⟨h1, _⟩; exact absurd (arrayE_zero.2 h1) h
theorem t_field (h : HAt base w Hb β m c) (n i : Int) : Calls Tryz.prog 92 #[ptr Hb, .int .i64 n, .int .i64 i] w fun e w' => (∃ v, e = .returned (.tuple #[v, .int .i64 (m.fieldE n i)]) ∧ (m.fieldE n i = 0 → v = thP β m n)) ∧ w' = w := by
 refine ir92_calls fun ρ r0 r1 r2 => ?_
 simp [ir92, r0, r1]
 refine (t_plain h n).mono ?_
 rintro _ w' ⟨rfl, rfl⟩
 cases ht : m.there n with
 | false =>
  have hE : m.fieldE n i = 171 := by unfold MS.fieldE; rw [if_pos ht]
  simp [ht, ir92_k0, hE]
 | true =>
  by_cases he : (m.at n).elem = 0
  ·obtain ⟨f, kv, vv, hf, hb, hk, hv, hl, _⟩ := h.plainAt ht he
   have hw : IntKind.i64.wrap (((m.at n).vals.length : Int) - 1) = ((m.at n).vals.length : Int) - 1 := i64w (by have := h.small n ht; omega)
   simp [ht, he, thP, hf, ptr, hb.cell, hv.is, hv.len, hw, r2]
   refine (t_in i 0 _ _).mono ?_
   rintro _ w2 ⟨rfl, rfl⟩
   by_cases hi : 0 ≤ i ∧ i ≤ ((m.at n).vals.length : Int) - 1
   ·have hE : m.fieldE n i = 0 := fieldE_zero.2 ⟨ht, he, hi.1, by omega⟩
    simp [hi.1, hi.2, ir92_k0, hE]
   ·have hE : m.fieldE n i = 1 := by
     unfold MS.fieldE
     rw [if_neg (by simp [ht]), if_pos (by omega)]
    have hd : (decide (0 ≤ i) && decide (i ≤ ((m.at n).vals.length : Int) - 1)) = false := by
     simp only [Bool.and_eq_false_iff, decide_eq_false_iff_not]; omega
    simp [hd, ir92_k0, hE]
  ·have hE : m.fieldE n i = 1 := by unfold MS.fieldE; rw [if_neg (by simp [ht]), if_pos (.inl he)]
   simp [ht, he, ir92_k0, hE]
theorem t_element (h : HAt base w Hb β m c) (n i : Int) : Calls Tryz.prog 93 #[ptr Hb, .int .i64 n, .int .i64 i] w fun e w' => (∃ v, e = .returned (.tuple #[v, .int .i64 (m.elemE n i)]) ∧ (m.elemE n i = 0 → v = thP β m n)) ∧ w' = w := by
 refine ir93_calls fun ρ r0 r1 r2 => ?_
 simp [ir93, r0, r1]
 refine (t_array h n).mono ?_
 rintro _ w' ⟨rfl, rfl⟩
 by_cases ha : m.arrayE n = 0
 ·obtain ⟨ht, he⟩ := arrayE_zero.1 ha
  obtain ⟨f, vv, hf, hb, hv, _⟩ := h.arrayAt ht he
  simp [ha, thP, hf, ptr, hb.cell, hv.is, hv.len, r2]
  refine (t_in i 1 _ _).mono ?_
  rintro _ w2 ⟨rfl, rfl⟩
  by_cases hi : 1 ≤ i ∧ i ≤ ((m.at n).vals.length : Int)
  ·have hE : m.elemE n i = 0 := elemE_zero.2 ⟨⟨ht, he⟩, hi⟩
   simp [hi.1, hi.2, ir93_k0, hE]
  ·have hE : m.elemE n i = 5 := by
    unfold MS.elemE
    rw [if_neg (by simp [ha]), if_pos (by omega)]
   have hd : (decide (1 ≤ i) && decide (i ≤ ((m.at n).vals.length : Int))) = false := by
    simp only [Bool.and_eq_false_iff, decide_eq_false_iff_not]; omega
   simp [hd, ir93_k0, hE]
 ·have hE : m.elemE n i = m.arrayE n := by unfold MS.elemE; rw [if_pos ha]
  simp [ha, ir93_k0, hE]
theorem t_Get (h : HAt base w Hb β m c) (n i : Int) : Calls Tryz.prog 26 #[ptr Hb, .int .i64 n, .int .i64 i] w fun e w' => e = .returned (.tuple #[encU (m.get n i).1, .int .i64 (m.get n i).2.1, .int .i64 (m.get n i).2.2]) ∧ Ext w w' := by
 refine ir26_calls fun ρ r0 r1 r2 => ?_
 simp [ir26, r0, r1, r2]
 refine (t_field h n i).mono ?_
 rintro _ w' ⟨⟨v, rfl, hv⟩, rfl⟩
 by_cases hE : m.fieldE n i = 0
 ·obtain ⟨ht, he, hi0, hi1⟩ := fieldE_zero.1 hE
  obtain ⟨f, kv, vv, hf, hb, hks, hvs, hl, _⟩ := h.plainAt ht he
  have hi : i.toNat < (m.at n).vals.length := by omega
  have hik : i.toNat < (m.at n).kinds.length := by omega
  have hI : i < ((m.at n).kinds.length : Int) := by omega
  have hk := hks.cell i.toNat hik
  have hvc := hvs.cell i.toNat hi
  simp [hE, hv hE, thP, hf, ptr, ir26_k1, hb.cell, r2, hks.is, hks.len, hvs.is, hvs.len, hi0, hi1, hI, hk, hvc, encI]
  intro w2 hw2
  have e1 : (m.get n i).1 = (m.at n).kinds[i.toNat] := by simp [MS.get, hE, List.getD_eq_getElem?_getD, hik]
  have e2 : (m.get n i).2 = ((m.at n).vals[i.toNat], 0) := by simp [MS.get, hE, List.getD_eq_getElem?_getD, hi]
  simp [ir26_k0, e1, e2]
  exact hw2
 ·have e1 : m.get n i = (0, 0, m.fieldE n i) := by unfold MS.get; rw [if_neg hE]
  simp [hE, e1, encU]
  exact ext_refl _
theorem t_Tag (h : HAt base w Hb β m c) (n : Int) : Calls Tryz.prog 24 #[ptr Hb, .int .i64 n] w fun e w' => e = .returned (.tuple #[.int .i64 (m.tag n).1, .int .i64 (m.tag n).2]) ∧ w' = w := by
 refine ir24_calls fun ρ r0 r1 => ?_
 simp [ir24, r0, r1]
 refine (t_plain h n).mono ?_
 rintro _ w' ⟨rfl, rfl⟩
 cases ht : m.there n with
 | false => simp [ht, MS.tag]
 | true =>
  by_cases he : (m.at n).elem = 0
  ·obtain ⟨f, kv, vv, hf, hb, _⟩ := h.plainAt ht he
   simp [ht, he, thP, hf, ptr, ir24_k0, hb.cell, MS.tag]
  ·simp [ht, he, MS.tag]
theorem t_Kind (h : HAt base w Hb β m c) (n : Int) : Calls Tryz.prog 23 #[ptr Hb, .int .i64 n] w fun e w' => e = .returned (.tuple #[encU (m.kind n).1, .int .i64 (m.kind n).2]) ∧ w' = w := by
 refine ir23_calls fun ρ r0 r1 => ?_
 simp [ir23, r0, r1]
 refine (t_array h n).mono ?_
 rintro _ w' ⟨rfl, rfl⟩
 cases ht : m.there n with
 | false =>
  have hE : m.arrayE n = 171 := by unfold MS.arrayE; rw [if_pos ht]
  simp [hE, ir23_k0, MS.kind, ht, encU]
 | true =>
  by_cases he : (m.at n).elem = 0
  ·have hE : m.arrayE n = 1 := by unfold MS.arrayE; rw [if_neg (by simp [ht]), if_pos he]
   simp [hE, MS.kind, ht, he, encU]
  ·have hE : m.arrayE n = 0 := arrayE_zero.2 ⟨ht, he⟩
   obtain ⟨f, vv, hf, hb, hv, _⟩ := h.arrayAt ht he
   simp [hE, MS.kind, ht, thP, hf, ptr, hb.cell, encU]
theorem t_Size (h : HAt base w Hb β m c) (n : Int) : Calls Tryz.prog 25 #[ptr Hb, .int .i64 n] w fun e w' => e = .returned (.tuple #[.int .i64 (m.size n).1, .int .i64 (m.size n).2]) ∧ w' = w := by
 refine ir25_calls fun ρ r0 r1 => ?_
 simp [ir25, r0, r1]
 refine (t_array h n).mono ?_
 rintro _ w' ⟨rfl, rfl⟩
 by_cases ha : m.arrayE n = 0
 ·obtain ⟨ht, he⟩ := arrayE_zero.1 ha
  obtain ⟨f, vv, hf, hb, hv, _⟩ := h.arrayAt ht he
  simp [ha, MS.size, thP, hf, ptr, ir25_k0, hb.cell, hv.is, hv.len]
 ·simp [ha, MS.size]
theorem t_Fetch (h : HAt base w Hb β m c) (n i : Int) : Calls Tryz.prog 27 #[ptr Hb, .int .i64 n, .int .i64 i] w fun e w' => e = .returned (.tuple #[.int .i64 (m.fetch n i).1, .int .i64 (m.fetch n i).2]) ∧ w' = w := by
 refine ir27_calls fun ρ r0 r1 r2 => ?_
 simp [ir27, r0, r1, r2]
 refine (t_element h n i).mono ?_
 rintro _ w' ⟨⟨v, rfl, hv⟩, rfl⟩
 by_cases hE : m.elemE n i = 0
 ·obtain ⟨⟨ht, he⟩, hi0, hi1⟩ := elemE_zero.1 hE
  obtain ⟨f, vv, hf, hb, hvs, _⟩ := h.arrayAt ht he
  have hi : i.toNat - 1 < (m.at n).vals.length := by omega
  have hI0 : 0 ≤ i - 1 := by omega
  have hI : i - 1 < ((m.at n).vals.length : Int) := by omega
  have hvc := hvs.cell (i.toNat - 1) hi
  have hw : IntKind.i64.wrap (i - 1) = i - 1 := i64w (by have := h.small n ht; omega)
  have hit : (i - 1).toNat = i.toNat - 1 := by omega
  have e2 : m.fetch n i = ((m.at n).vals[i.toNat - 1], 0) := by simp [MS.fetch, hE, List.getD_eq_getElem?_getD, hi]
  simp [hE, hv hE, thP, hf, ptr, ir27_k0, hb.cell, r2, hvs.is, hvs.len, hw, hi0, hI, hvc, encI, e2]
 ·have e1 : m.fetch n i = (0, m.elemE n i) := by unfold MS.fetch; rw [if_neg hE]
  simp [hE, e1]
theorem t_Used (h : HAt base w Hb β m c) : Calls Tryz.prog 46 #[ptr Hb] w fun e w' => e = .returned (.int .i64 m.used) ∧ w' = w := by
 obtain ⟨M, ps, onv, ev, h1, hd, hm, hps, _, _⟩ := h.hd
 refine ir46_calls fun ρ r0 => ?_
 simp [ir46, r0]
 refine eff_eqlNilP (p := some ⟨Hb, 0, none⟩) und25 (by simp [ptr]) ?_
 simp [ir46_k0, r0, ptr, hd.cell]
theorem t_On (h : HAt base w Hb β m c) : Calls Tryz.prog 47 #[ptr Hb] w fun e w' => e = .returned (.bool m.on) ∧ w' = w := by
 obtain ⟨M, ps, onv, ev, h1, hd, hm, hps, hw, _⟩ := h.hd
 refine ir47_calls fun ρ r0 => ?_
 simp [ir47, r0]
 refine eff_neqNilP (p := some ⟨Hb, 0, none⟩) und25 (by simp [ptr]) ?_
 simp [r0, ptr, hd.cell]
 cases hw with
 | off ho =>
  refine eff_neqNilP (p := none) und94 (by simp) ?_
  simp [ho]
 | on c q bm wm gv sv s roots ho =>
  refine eff_neqNilP (p := some ⟨q, 0, none⟩) und94 (by simp [ptr]) ?_
  simp [ho]
theorem t_Young (h : HAt base w Hb β m c) (n : Int) : Calls Tryz.prog 44 #[ptr Hb, .int .i64 n] w fun e w' => e = .returned (.bool (m.young n)) ∧ w' = w := by
 obtain ⟨M, ps, onv, ev, h1, hd, hm, hps, _, _⟩ := h.hd
 refine ir44_calls fun ρ r0 r1 => ?_
 simp [ir44, r0, r1]
 refine (t_There h n).mono ?_
 rintro _ w' ⟨rfl, rfl⟩
 cases ht : m.there n with
 | false => simp [MS.young, ht]
 | true =>
  simp [r0, r1, ptr, hd.cell]
  refine I.eff_lookup (s := n) und91 und3 zi129 (by simp) (by simp [r1]) hm false ?_
  obtain ⟨p, f, kept, vv, q1, q2, hp, _, _, _⟩ := (h.obs n ht).ex
  simp
  rw [look_obP h hps n]
  by_cases h2 : 2 ≤ (m.at n).age
  ·have h3 : ¬ (m.at n).age < 2 := by omega
   simp [obP, ht, q1, ptr, hp.cell, MS.young, h2, h3]
  ·have h3 : (m.at n).age < 2 := by omega
   simp [obP, ht, q1, ptr, hp.cell, MS.young, h2, h3]
theorem t_value (h : HAt base w Hb β m c) (k : Nat) (v : Int) : Calls Tryz.prog 97 #[ptr Hb, encU k, .int .i64 v] w fun e w' => e = .returned (.int .i64 (m.value k v)) ∧ w' = w := by
 refine ir97_calls fun ρ r0 r1 r2 => ?_
 by_cases hk1 : k = 1
 ·subst hk1
  simp [ir97, r0, r1, r2, encU]
  refine (t_in v _ _ _).mono ?_
  rintro _ w' ⟨rfl, rfl⟩
  by_cases hv : v < -1000000000 ∨ 1000000000 < v
  ·have hd : (decide (-1000000000 ≤ v) && decide (v ≤ 1000000000)) = false := by
    simp only [Bool.and_eq_false_iff, decide_eq_false_iff_not]; omega
   simp [hd, MS.value, hv]
  ·have hd : (decide (-1000000000 ≤ v) && decide (v ≤ 1000000000)) = true := by
    simp only [Bool.and_eq_true, decide_eq_true_eq]; omega
   simp [hd, r1, encU, ir97_k0, MS.value, hv]
 ·have hk1' : ¬ (k : Int) = 1 := by omega
  by_cases hk2 : k = 2
  ·subst hk2
   by_cases hv : v = 0
   ·simp [ir97, r0, r1, r2, encU, hv, ir97_k0, MS.value]
   ·simp [ir97, r0, r1, r2, encU, hv, ptr]
    refine (t_there h v).mono ?_
    rintro _ w' ⟨rfl, rfl⟩
    cases ht : m.there v <;> simp [ht, ir97_k0, MS.value, hv]
  ·have hk2' : ¬ (k : Int) = 2 := by omega
   simp [ir97, r0, r1, r2, encU, hk1', hk2', ir97_k0, MS.value, hk1, hk2]
end
end Go.L17
namespace Go.L17
open Go Go.Eng Go.RowKit Go.Proofs
set_option maxRecDepth 100000
set_option maxHeartbeats 2000000
structure Fr (S : Nat → Prop) (w w' : World) : Prop where
 os : w'.os = w.os
 tape : w'.tape = w.tape
 output : w'.output = w.output
 size : w.heap.size ≤ w'.heap.size
 block : ∀ k, k < w.heap.size → ¬ S k → w'.heap[k]? = w.heap[k]?
theorem Fr.of {S : Nat → Prop} {w w' : World} (h : Ext w w') : Fr S w w' := ⟨h.os, h.tape, h.output, h.size, fun k hk _ => h.block k hk⟩
theorem Fr.only {S : Nat → Prop} {b : Nat} {w w' : World} (h : Only b w w') (hb : S b) : Fr S w w' := ⟨h.os, h.tape, h.output, by rw [h.size]; exact Nat.le_refl _, fun k _ hn => h.block k fun e => hn (e ▸ hb)⟩
theorem Fr.trans {S S' : Nat → Prop} {a b c : World} (h : Fr S a b) (k : Fr S' b c) (hS : ∀ x, S' x → S x ∨ a.heap.size ≤ x) : Fr S a c :=
 ⟨k.os.trans h.os, k.tape.trans h.tape, k.output.trans h.output, Nat.le_trans h.size k.size, fun i hi hn => (k.block i (by have := h.size; omega) (fun hs => by
  rcases hS i hs with h1 | h1
  ·exact hn h1
  ·omega)).trans (h.block i hi hn)⟩
theorem Fr.mono {S S' : Nat → Prop} {a b : World} (h : Fr S a b) (hS : ∀ x, S x → S' x ∨ a.heap.size ≤ x) : Fr S' a b :=
 ⟨h.os, h.tape, h.output, h.size, fun i hi hn => h.block i hi fun hs => by
  rcases hS i hs with h1 | h1
  ·exact hn h1
  ·omega⟩
theorem Fr.ext {S : Nat → Prop} {w a b : World} (hE : Ext w a) (h : Fr S a b) (hS : ∀ x, S x → w.heap.size ≤ x) : Ext w b :=
 ⟨h.os.trans hE.os, h.tape.trans hE.tape, h.output.trans hE.output, Nat.le_trans hE.size h.size, fun i hi => (h.block i (by have := hE.size; omega) (fun hs => by have := hS i hs; omega)).trans (hE.block i hi)⟩
theorem Fr.blk {S : Nat → Prop} {a b : World} (h : Fr S a b) {k : Nat} {cs : Array Value} {t : TypeId} (hb : Blk a k cs t) (hn : ¬ S k) : Blk b k cs t := ⟨(h.block k hb.lt hn).trans hb.heap⟩
@[simp] theorem cb110 : callB Tryz.prog 110 = true := by kernel_rfl
@[simp] theorem cb132 : callB Tryz.prog 132 = true := by kernel_rfl
@[simp] theorem cb190 : callB Tryz.prog 190 = true := by kernel_rfl
@[simp] theorem cb192 : callB Tryz.prog 192 = true := by kernel_rfl
@[simp] theorem cb108 : callB Tryz.prog 108 = true := by kernel_rfl
@[simp] theorem cb98 : callB Tryz.prog 98 = true := by kernel_rfl
theorem cb131 : callB Tryz.prog 131 = true := by kernel_rfl
theorem cb137 : callB Tryz.prog 137 = true := by kernel_rfl
def fullC : List PanicEntry := [{ v := .iface 156 (.agg #[]), recovered := false }]
theorem bu156 : Tryz.prog.built 156 [] = some #[] := by kernel_rfl
@[simp] theorem sz3' : sizeIs Tryz.prog 3 1 = true := by kernel_rfl
theorem sz4 : sizeIs Tryz.prog 4 1 = true := by kernel_rfl
theorem z4 : zeroCellsOf Tryz.prog 4 = some #[.bool false] := by kernel_rfl
theorem t_take {w : World} {Hb : Nat} {words used : Int} {x2 x3 x4 x5 : Value} (hb : Blk w Hb #[.int .i64 words, .int .i64 used, x2, x3, x4, x5] 96) {n : Int} (h0 : 0 ≤ used ∧ used ≤ 1000000) (hn : 0 ≤ n ∧ n ≤ 1000000) :
  Calls Tryz.prog 110 #[ptr Hb, .int .i64 n] w fun e w' => (used + n ≤ words ∧ e = .returned (.tuple #[]) ∧ ∃ w1, Ext w w1 ∧ Only Hb w1 w' ∧ Blk w' Hb #[.int .i64 words, .int .i64 (used + n), x2, x3, x4, x5] 96) ∨ (words < used + n ∧ e = .panicked fullC ∧ Ext w w') := by
 have hw : IntKind.i64.wrap (used + n) = used + n := i64w (by omega)
 refine ir110_calls fun ρ r0 r1 => ?_
 simp [ir110, r0, r1, ptr, hb.cell, hw]
 intro w1 hE1
 have hb1 := hb.ext hE1
 by_cases hf : words < used + n
 ·simp [ir110_k1, hf, bu156]
  refine eff_panic (t := 156) (v := .agg #[]) (by simp) ?_
  simp [fullC]
  exact hE1
 ·simp [ir110_k1, hf, ir110_k0, r0, r1, ptr, hb1.cell, hw]
  refine eff_store1 (B := Hb) (i := 1) (by simp) hb1 (by simp) rfl rfl sz3' fun W2 hO2 hb2 => ?_
  simp at hb2 ⊢
  exact ⟨by omega, w1, hE1, hO2, hb2⟩
theorem w_fields {w : World} {f : Nat} {tg : Int} {kv vv : Value} (hb : Blk w f #[.int .i64 tg, kv, vv] 117) {vals : List Int} (hv : Sl encI w vv vals) : Calls Tryz.prog 192 #[ptr f] w fun e w' => e = .returned (.int .i64 (2 + vals.length)) ∧ w' = w := by
 have := hv.bd
 refine ir192_calls fun ρ r0 => ?_
 simp [ir192, r0, ptr, hb.cell, hv.is, hv.len, i64w (n := 2 + (vals.length : Int)) (by omega)]
theorem w_array {w : World} {f : Nat} {k : Nat} {vv : Value} (hb : Blk w f #[.int .u8 (k : Int), vv] 112) {vals : List Int} (hv : Sl encI w vv vals) : Calls Tryz.prog 190 #[ptr f] w fun e w' => e = .returned (.int .i64 (2 + vals.length)) ∧ w' = w := by
 have := hv.bd
 refine ir190_calls fun ρ r0 => ?_
 simp [ir190, r0, ptr, hb.cell, hv.is, hv.len, i64w (n := 2 + (vals.length : Int)) (by omega)]
theorem m_words113 (w : World) (f : Nat) : (method (Tryz.prog.types.size + Made.depth) 113 (ptr f) "argus/heap.words").run Tryz.prog w = .ok (192, ptr f) w := by kernel_rfl
theorem m_words108 (w : World) (f : Nat) : (method (Tryz.prog.types.size + Made.depth) 108 (ptr f) "argus/heap.words").run Tryz.prog w = .ok (190, ptr f) w := by kernel_rfl
theorem eff_words {Q : Ks} {d : Option Nat} {ty : TypeId} {K : Env → World → Prop} {ρ : Env} {w : World} {recv : Operand} {base : Nat} {β : Lay} {k : Int} {o : MO} {f : Nat} {vv : Value} (hr : evE ρ recv = .iface (tyOf o) (ptr f)) (ho : ThAt base w β k o f vv) (hv : Sl encI w vv o.vals)
  (hk : K (updO ρ d (.int .i64 (2 + o.vals.length))) w) : effW Tryz.prog Q d (.call { callee := .invoke recv "argus/heap.words", args := #[], argTypes := #[] }) ty K ρ w := by
 cases ho with
 | fields kv h1 h2 h3 h4 h5 =>
  refine eff_invoke cb192 (t := 113) (v := ptr f) (by rw [hr, tyOf, if_pos h1]) (m_words113 w f) ?_
  rw [show (#[ptr f] ++ (#[] : Array Operand).map (evE ρ)) = #[ptr f] from by simp]
  refine (w_fields h4 hv).mono ?_
  rintro _ w' ⟨rfl, rfl⟩
  exact hk
 | array h1 h2 =>
  refine eff_invoke cb190 (t := 108) (v := ptr f) (by rw [hr, tyOf, if_neg (by omega)]) (m_words108 w f) ?_
  rw [show (#[ptr f] ++ (#[] : Array Operand).map (evE ρ)) = #[ptr f] from by simp]
  refine (w_array h2 hv).mono ?_
  rintro _ w' ⟨rfl, rfl⟩
  exact hk
end Go.L17
namespace Go.L17
open Go Go.Eng Go.RowKit Go.Proofs
set_option maxRecDepth 100000
set_option maxHeartbeats 2000000
theorem bu133 (t : TypeId) (v : Value) : Tryz.prog.built 133 [(0, .iface t v)] = some #[.iface t v, .int .i64 0, .bool false, .bool false] := by kernel_rfl
structure Added (w : World) (Hb M : Nat) (ps : List (Int × Value)) (words used : Int) (last : Int) (onv ev x : Value) (w' : World) : Prop where
 ex : ∃ p, w.heap.size ≤ p ∧ Blk w' p #[x, .int .i64 0, .bool false, .bool false] 133 ∧ I.MapB w' M (I.setP ps last (ptr p))
 hd : Blk w' Hb #[.int .i64 words, .int .i64 used, .int .i64 last, .map (some M), onv, ev] 96
 fr : Fr (fun k => k = Hb ∨ k = M) w w'
theorem t_add {w : World} {Hb M : Nat} {ps : List (Int × Value)} {words used last : Int} {onv ev vv : Value} (hb : Blk w Hb #[.int .i64 words, .int .i64 used, .int .i64 last, .map (some M), onv, ev] 96) (hM : I.MapB w M ps) (hne : M ≠ Hb)
  {base f : Nat} {β : Lay} {k : Int} {o : MO} (ho : ThAt base w β k o f vv) (hv : Sl encI w vv o.vals) (h0 : 0 ≤ used ∧ used ≤ 1000000) (hn : o.vals.length ≤ 1000) (hl : 0 ≤ last ∧ last < 1152921504606846976) :
  Calls Tryz.prog 132 #[ptr Hb, .iface (tyOf o) (ptr f)] w fun e w' => (used + (2 + o.vals.length) ≤ words ∧ e = .returned (.tuple #[]) ∧ Added w Hb M ps words (used + (2 + o.vals.length)) (last + 1) onv ev (.iface (tyOf o) (ptr f)) w') ∨ (words < used + (2 + o.vals.length) ∧ e = .panicked fullC ∧ Ext w w') := by
 have hw : IntKind.i64.wrap (last + 1) = last + 1 := i64w (by omega)
 refine ir132_calls fun ρ r0 r1 => ?_
 simp [ir132, r0, r1]
 refine eff_words (o := o) (f := f) (by simp) ho hv ?_
 simp
 refine (t_take hb h0 (n := 2 + o.vals.length) (by omega)).mono ?_
 rintro e w1 (⟨hf, rfl, wa, hEa, hOa, hb1⟩ | ⟨hf, rfl, hE⟩)
 rotate_left
 ·simp [hf]
  exact hE
 have hnf : ¬ words < used + (2 + (o.vals.length : Int)) := by omega
 have hM1 : I.MapB w1 M ps := (hM.ext hEa).block (hOa.block M hne)
 simp [r0, ptr, hb1.cell, hw]
 refine eff_store1 (B := Hb) (i := 2) (by simp) hb1 (by simp) rfl rfl sz3' fun w2 hO2 hb2 => ?_
 simp at hb2 ⊢
 have hM2 : I.MapB w2 M ps := hM1.block (hO2.block M hne)
 refine raw_ord ir132_o2_ok (fun W => Blk W Hb #[.int .i64 words, .int .i64 (used + (2 + o.vals.length)), .int .i64 (last + 1), .map (some M), onv, ev] 96) fun w3 hE3 _ => ⟨hb2.ext hE3, ?_⟩
 have hc : ∀ W, Blk W Hb #[.int .i64 words, .int .i64 (used + (2 + o.vals.length)), .int .i64 (last + 1), .map (some M), onv, ev] 96 → ∀ i, W.cell? ⟨Hb, i, none⟩ = #[.int .i64 words, .int .i64 (used + (2 + o.vals.length)), .int .i64 (last + 1), .map (some M), onv, ev][i]? := fun W h => h.cell
 have hb3 := hb2.ext hE3
 simp +contextual -implicitDefEqProofs [ir132_o2, r0, r1, ptr, hc, hb3, bu133]
 refine eff_box fun p w4 hp hE4 hbp _ => ?_
 simp [Value.cells] at hbp
 have hb4 := hb3.ext hE4
 refine ⟨hb4, ?_⟩
 simp
 have hM4 : I.MapB w4 M ps := (hM2.ext hE3).ext hE4
 have hMl := hM.lt
 have s1 := hEa.size
 have s2 := hE3.size
 have z1 := hOa.size
 have z2 := hO2.size
 refine I.eff_mapUpdate (s := last + 1) und91 und3 (by simp) (by simp) hM4 fun w5 hO5 hM5 => ?_
 simp at hM5 ⊢
 refine ⟨hf, ⟨p, by omega, hO5.blk hbp (by omega), hM5⟩, hO5.blk hb4 (Ne.symm hne), ?_⟩
 refine ((((Fr.of hEa).trans (Fr.only hOa (S := fun k => k = Hb ∨ k = M) (.inl rfl)) (fun x h => .inl h)).trans (Fr.only hO2 (S := fun k => k = Hb ∨ k = M) (.inl rfl)) (fun x h => .inl h)).trans (Fr.of (hE3.trans' hE4) (S := fun k => k = Hb ∨ k = M)) (fun x h => .inl h)).trans (Fr.only hO5 (.inr rfl)) (fun x h => .inl h)
theorem ifc20 : Tryz.prog.underlying 20 = some (.interface (Tryz.prog.methodsAt 20)) := by kernel_rfl
theorem und156 : ∃ fs, Tryz.prog.underlying 156 = some (.struct fs) := by
 have h : (match Tryz.prog.underlying 156 with | some (.struct _) => true | _ => false) = true := by kernel_rfl
 cases hu : Tryz.prog.underlying 156 with
 | none => rw [hu] at h; cases h
 | some ds => cases ds <;> first | exact ⟨_, rfl⟩ | (rw [hu] at h; cases h)
theorem z156 : zeroCellsOf Tryz.prog 156 = some #[] := by kernel_rfl
theorem sz156 : sizeIs Tryz.prog 156 0 = true := by kernel_rfl
theorem eff_neqNilI {P : Program} {Q : Ks} {d : Option Nat} {ty : TypeId} {K : Env → World → Prop} {ρ : Env} {w : World} {x : Operand} {t t2 : TypeId} (ht : P.underlying t = some (.interface (P.methodsAt t))) (h : evE ρ x = .nilIface) (hk : K (updO ρ d (.bool false)) w) : effW P Q d (.binOp .neq t x (.const .nilIface) t2) ty K ρ w := by
 refine effE_ok (v := .bool false) (w' := w) ?_ hk
 have := run_equal_nil_nil (P := P) (w := w) t ht
 simp [execOp, effOp, h, eqGuard, binOp, this]
theorem eff_neqNilI' {P : Program} {Q : Ks} {d : Option Nat} {ty : TypeId} {K : Env → World → Prop} {ρ : Env} {w : World} {x : Operand} {t t2 u : TypeId} {v : Value} (ht : P.underlying t = some (.interface (P.methodsAt t))) (h : evE ρ x = .iface u v) (hk : K (updO ρ d (.bool true)) w) : effW P Q d (.binOp .neq t x (.const .nilIface) t2) ty K ρ w := by
 refine effE_ok (v := .bool true) (w' := w) ?_ hk
 have := run_equal_held_nil (P := P) (w := w) t u v ht
 simp [execOp, effOp, h, eqGuard, binOp, this]
theorem d_none {v0 : Value} {w : World} : CallsDIn Fence.wide 0 Tryz.prog 137 #[v0] .returning w fun e u' w' => (∃ v, e = .returned v) ∧ u' = .returning ∧ w' = w := by
 refine jr137_calls fun ρ h0 => ?_
 simp [jr137, recV, recU]
 refine eff_neqNilI ifc20 (by simp) ?_
 simp
theorem d_full {w : World} {B : Nat} {x : Value} (hB : Blk w B #[x] 4) : CallsDIn Fence.wide 0 Tryz.prog 137 #[ptr B] (.panicking fullC) w fun e u' w' => (∃ v, e = .returned v) ∧ settle u' = .returning ∧ ∃ W, Ext w W ∧ Only B W w' ∧ Blk w' B #[.bool false] 4 := by
 obtain ⟨fs, hu⟩ := und156
 refine jr137_calls fun ρ r0 => ?_
 simp [jr137, recV, recU, fullC]
 refine eff_neqNilI' (u := 156) (v := .agg #[]) ifc20 (by simp) ?_
 simp
 refine eff_assert (a := 156) (v := .agg #[]) hu (by simp) (by simp) ?_
 simp
 refine eff_alloc z156 fun F W hF hE hb _ => ?_
 simp
 refine eff_storeN (B := F) (by simp) hb (by simp [Value.cells]) (by simp [Value.cells]) (by simpa [Value.cells] using sz156) fun W1 hO1 hb1 => ?_
 simp [jr137_k0, r0]
 have hlt := hB.lt
 have hB1 := hO1.blk (hB.ext hE) (by omega)
 refine eff_store1 (B := B) (i := 0) (by simp [r0, ptr]) hB1 (by simp) rfl rfl sz4 fun W2 hO2 hb2 => ?_
 simp at hb2 ⊢
 exact ⟨by rfl, W1, hO1.ext hE hF, hO2, hb2⟩
end Go.L17
namespace Go.L17
open Go Go.Eng Go.RowKit Go.Proofs
set_option maxRecDepth 100000
set_option maxHeartbeats 2000000
theorem leaves_fn {P : Program} {rs : List RV} {R : Ending → World → Prop} {ρ : Env} {w : World} {f : FuncId} {caps : Array Value} {u : FrameMode} (hu : u ≠ .run) (hcb : callB P f = true)
  (h : CallsDIn Fence.wide 0 P f caps u w fun
   | .returned _, u', w' => LeavesV P rs R ρ [] (settle u') w'
   | .panicked chain, u', w' => LeavesV P rs R ρ [] (raised u' chain) w'
   | .outgrown, _, w' => R .outgrown w') : LeavesV P rs R ρ [.func (.func f) #[] caps] u w := by
 refine ⟨hu, f, caps, ?_, h⟩
 unfold callB at hcb
 split at hcb
 ·rename_i fn hf
  simp only [Bool.and_eq_true, Bool.not_eq_true', beq_eq_false_iff_ne, ne_eq] at hcb
  cases hb : fn.body with
  | none => simp [hb] at hcb
  | some c => simp [invoke, callFunc, hf, hcb.1, hb]
 ·cases hcb
theorem retB {t B : Nat} {x : Value} {T : TypeId} {R : Ending → World → Prop} {ρ : Env} {w : World} (hp : ρ t = ptr B) (hb : Blk w B #[x] T) (h : R (.returned x) w) : retK [.cell1 t] R ρ w := by
 have h1 : w.cell? ⟨B, 0, none⟩ = some x := by rw [hb.cell]; rfl
 simp only [retK, resVals, RV.val, hp, ptr, pv1_load1, h1, Option.map_some, Option.bind_some]
 exact h
def RoomR (w : World) (S : Nat → Prop) (A : World → World → Prop) (N : Prop) : Ending → World → Prop := fun e w' => ∃ W B, Ext w W ∧ w.heap.size ≤ B ∧ B < W.heap.size ∧
 ((e = .returned (.bool true) ∧ ∃ w2, Fr S W w2 ∧ A W w2 ∧ Only B w2 w') ∨ (e = .returned (.bool false) ∧ N ∧ Ext w w'))
theorem t_room {w : World} {mv : Value} {f : FuncId} {caps : Array Value} {S : Nat → Prop} {A : World → World → Prop} {N : Prop} (hcb : callB Tryz.prog f = true) (hS : ∀ k, S k → k < w.heap.size)
  (hdo : ∀ W, Ext w W → Calls Tryz.prog f caps W fun e w' => (e = .returned (.tuple #[]) ∧ Fr S W w' ∧ A W w') ∨ (e = .panicked fullC ∧ N ∧ Ext W w')) : Calls Tryz.prog 108 #[mv, .func (.func f) #[] caps] w (RoomR w S A N) := by
 refine ir108_calls fun ρ r0 r1 rg => ?_
 have rg' : ρ 1000000000 = .tuple #[] := rg
 simp [ir108, r0, r1]
 refine eff_alloc z4 fun B W hB hE hb hs => ?_
 simp
 refine eff_defer (f := 137) (caps := #[ptr B]) (by simp [ptr]) trivial ?_
 simp [gS, rg', r1]
 have hlt := hb.lt
 refine eff_callv (f := f) (fs := #[]) (caps := caps) hcb (by simp) ?_
 have e0 : (#[] ++ (#[] : Array Operand).map (evE (upd (upd (upd (upd ρ 4 (.pointer (some ⟨B, 0, none⟩))) 5 (.func (.func 137) #[] #[.pointer (some ⟨B, 0, none⟩)])) 1000000000 (.tuple #[.func (.func 137) #[] #[ptr B]])) 6 (.func (.func f) #[] caps))) ++ caps) = caps := by simp
 rw [e0]
 refine (hdo W hE).mono ?_
 have hnB : ¬ S B := fun h => by have := hS B h; omega
 rintro e w2 (⟨rfl, hF, hA⟩ | ⟨rfl, hN, hE2⟩)
 ·have hb2 := hF.blk hb hnB
  simp
  refine eff_store1 (B := B) (i := 0) (by simp) hb2 (by simp) rfl rfl sz4 fun w3 hO3 hb3 => ?_
  simp at hb3
  simp [endK, gS]
  refine leaves_fn (by simp) cb137 (d_none.mono ?_)
  rintro e u' w' ⟨⟨v, rfl⟩, rfl, rfl⟩
  show LeavesV _ _ _ _ [] (settle .returning) w'
  refine leaves_ret (retB (by simp [ptr]) hb3 ?_)
  exact ⟨W, B, hE, hB, hlt, .inl ⟨rfl, w2, hF, hA, hO3⟩⟩
 ·have hb2 := hb.ext hE2
  simp [endK, gS]
  refine leaves_fn (by simp) cb137 ((d_full hb2).mono ?_)
  rintro e u' w' ⟨⟨v, rfl⟩, hu, W3, hE3, hO3, hb3⟩
  show LeavesV _ _ _ _ [] (settle u') w'
  rw [hu]
  refine leaves_ret (retB (by simp [ptr]) hb3 ?_)
  exact ⟨W, B, hE, hB, hlt, .inr ⟨rfl, hN, hO3.ext ((hE.trans' hE2).trans' hE3) hB⟩⟩
end Go.L17
namespace Go.L17
open Go Go.Eng Go.RowKit Go.Proofs
set_option maxRecDepth 100000
set_option maxHeartbeats 2000000
theorem ObAt.move {base : Nat} {w w' : World} {β β' : Lay} {n : Int} {o : MO} (h : ObAt base w β n o) (e1 : β' (.ob n) = β (.ob n)) (e2 : β' (.th n) = β (.th n)) (e3 : β' (.ks n) = β (.ks n)) (e4 : β' (.vs n) = β (.vs n))
  (hk : ∀ b, (β (.ob n) = some b ∨ β (.th n) = some b ∨ β (.ks n) = some b ∨ β (.vs n) = some b) → w'.heap[b]? = w.heap[b]?) : ObAt base w' β' n o := by
 obtain ⟨p, f, kept, vv, h1, h2, h3, h4, h5, h6⟩ := h.ex
 refine ⟨p, f, kept, vv, e1.trans h1, e2.trans h2, Blk.keep h3 (hk _ (.inl h1)), h4, ?_, ?_⟩
 ·rw [e4]; exact h5.keep fun k hk' => hk k (.inr (.inr (.inr hk')))
 ·cases h6 with
  | fields kv a1 a2 a3 a4 a5 => exact .fields kv a1 a2 a3 (Blk.keep a4 (hk _ (.inr (.inl h2)))) (by rw [e3]; exact a5.keep fun k hk' => hk k (.inr (.inr (.inl hk'))))
  | array a1 a2 => exact .array a1 (Blk.keep a2 (hk _ (.inr (.inl h2))))
def Role.isW : Role → Bool | .wh => true | .bm => true | .wm => true | .gr => true | .wv _ => true | _ => false
theorem WhAt.move {base : Nat} {w w' : World} {β β' : Lay} {m m' : MS} {c : Option Wh} {v : Value} (h : WhAt base w β m c v) (hon : m'.on = m.on) (hI : ∀ s roots x, c = some x → m.on = true → Inv s roots m x → Inv s roots m' x) (hβ : ∀ r, r.isW = true → β' r = β r)
  (hk : ∀ r b, r.isW = true → β r = some b → w'.heap[b]? = w.heap[b]?) : WhAt base w' β' m' c v := by
 cases h with
 | off h => exact .off (hon.trans h)
 | on c q bm wm gv sv s roots h1 h2 h3 h4 h5 h6 h7 h8 h9 h10 =>
  refine .on c q bm wm gv sv s roots (hon.trans h1) (hI s roots c rfl h1 h2) ((hβ .wh rfl).trans h3) ((hβ .bm rfl).trans h4) ((hβ .wm rfl).trans h5) (Blk.keep h6 (hk _ _ rfl h3)) (h7.block (hk _ _ rfl h4)) ?_ (h9.block (hk _ _ rfl h5)) (fun p hp => ?_)
  ·rw [hβ .gr rfl]; exact h8.keep fun k hk' => hk _ k rfl hk'
  ·rw [hβ (.wv p.1) rfl]; exact (h10 p hp).keep fun k hk' => hk _ k rfl hk'
def addR (β : Lay) (N : Int) (p f kb vb : Option Nat) : Lay
 | .ob k => if k = N then p else β (.ob k)
 | .th k => if k = N then f else β (.th k)
 | .ks k => if k = N then kb else β (.ks k)
 | .vs k => if k = N then vb else β (.vs k)
 | r => β r
structure NewTh (base : Nat) (w : World) (β : Lay) (N : Int) (o : MO) (f : Nat) (kb vb : Option Nat) (vv : Value) : Prop where
 th : ∀ p, ThAt base w (addR β N p (some f) kb vb) N o f vv
 vals : SlAt base 3 w vv (o.vals.map encI) vb
 lo : base ≤ f ∧ (∀ b, kb = some b → base ≤ b) ∧ ∀ b, vb = some b → base ≤ b
 nf : ∀ r, β r ≠ some f
 nk : ∀ b, kb = some b → b ≠ f ∧ ∀ r, β r ≠ some b
 nv : ∀ b, vb = some b → b ≠ f ∧ kb ≠ some b ∧ ∀ r, β r ≠ some b
 lt : f < w.heap.size ∧ (∀ b, kb = some b → b < w.heap.size) ∧ ∀ b, vb = some b → b < w.heap.size
 small : o.vals.length ≤ 200
 new : o.there = true ∧ o.age = 0 ∧ o.watched = false
theorem addR_inj {β : Lay} {N : Int} {p f : Nat} {kb vb : Option Nat} (h : ∀ r1 r2 b, β r1 = some b → β r2 = some b → r1 = r2) (hp : ∀ r, β r ≠ some p) (hpf : p ≠ f) (hpk : kb ≠ some p) (hpv : vb ≠ some p) (nf : ∀ r, β r ≠ some f)
  (nk : ∀ b, kb = some b → b ≠ f ∧ ∀ r, β r ≠ some b) (nv : ∀ b, vb = some b → b ≠ f ∧ kb ≠ some b ∧ ∀ r, β r ≠ some b) : ∀ r1 r2 b, addR β N (some p) (some f) kb vb r1 = some b → addR β N (some p) (some f) kb vb r2 = some b → r1 = r2 := by
 have key : ∀ r b, addR β N (some p) (some f) kb vb r = some b → (r = .ob N ∧ b = p) ∨ (r = .th N ∧ b = f) ∨ (r = .ks N ∧ kb = some b) ∨ (r = .vs N ∧ vb = some b) ∨ β r = some b := by
  intro r b hr
  cases r with
  | ob k =>
   by_cases e : k = N
   ·simp [addR, e] at hr; exact .inl ⟨by rw [e], hr.symm⟩
   ·simp [addR, e] at hr; exact .inr (.inr (.inr (.inr hr)))
  | th k =>
   by_cases e : k = N
   ·simp [addR, e] at hr; exact .inr (.inl ⟨by rw [e], hr.symm⟩)
   ·simp [addR, e] at hr; exact .inr (.inr (.inr (.inr hr)))
  | ks k =>
   by_cases e : k = N
   ·simp [addR, e] at hr; exact .inr (.inr (.inl ⟨by rw [e], hr⟩))
   ·simp [addR, e] at hr; exact .inr (.inr (.inr (.inr hr)))
  | vs k =>
   by_cases e : k = N
   ·simp [addR, e] at hr; exact .inr (.inr (.inr (.inl ⟨by rw [e], hr⟩)))
   ·simp [addR, e] at hr; exact .inr (.inr (.inr (.inr hr)))
  | heap => exact .inr (.inr (.inr (.inr hr)))
  | map => exact .inr (.inr (.inr (.inr hr)))
  | wh => exact .inr (.inr (.inr (.inr hr)))
  | bm => exact .inr (.inr (.inr (.inr hr)))
  | wm => exact .inr (.inr (.inr (.inr hr)))
  | gr => exact .inr (.inr (.inr (.inr hr)))
  | en => exact .inr (.inr (.inr (.inr hr)))
  | wv k => exact .inr (.inr (.inr (.inr hr)))
 intro r1 r2 b h1 h2
 rcases key r1 b h1 with ⟨rfl, rfl⟩ | ⟨rfl, rfl⟩ | ⟨rfl, k1⟩ | ⟨rfl, k1⟩ | k1
 ·rcases key r2 _ h2 with ⟨rfl, e⟩ | ⟨rfl, e⟩ | ⟨rfl, e⟩ | ⟨rfl, e⟩ | e
  ·rfl
  ·exact absurd e hpf
  ·exact absurd e hpk
  ·exact absurd e hpv
  ·exact absurd e (hp _)
 ·rcases key r2 _ h2 with ⟨rfl, e⟩ | ⟨rfl, e⟩ | ⟨rfl, e⟩ | ⟨rfl, e⟩ | e
  ·exact absurd e.symm hpf
  ·rfl
  ·exact absurd rfl (nk _ e).1
  ·exact absurd rfl (nv _ e).1
  ·exact absurd e (nf _)
 ·rcases key r2 _ h2 with ⟨rfl, rfl⟩ | ⟨rfl, rfl⟩ | ⟨rfl, e⟩ | ⟨rfl, e⟩ | e
  ·exact absurd k1 hpk
  ·exact absurd rfl (nk _ k1).1
  ·rfl
  ·exact absurd k1 (nv _ e).2.1
  ·exact absurd e ((nk _ k1).2 _)
 ·rcases key r2 _ h2 with ⟨rfl, rfl⟩ | ⟨rfl, rfl⟩ | ⟨rfl, e⟩ | ⟨rfl, e⟩ | e
  ·exact absurd k1 hpv
  ·exact absurd rfl (nv _ k1).1
  ·exact absurd e (nv _ k1).2.1
  ·rfl
  ·exact absurd e ((nv _ k1).2.2 _)
 ·rcases key r2 _ h2 with ⟨rfl, rfl⟩ | ⟨rfl, rfl⟩ | ⟨rfl, e⟩ | ⟨rfl, e⟩ | e
  ·exact absurd k1 (hp _)
  ·exact absurd k1 (nf _)
  ·exact absurd k1 ((nk _ e).2 _)
  ·exact absurd k1 ((nv _ e).2.2 _)
  ·exact h r1 r2 b k1 e
def Lay.has (β : Lay) (b : Nat) : Prop := ∃ r, β r = some b
def Turn (β : Lay) (w : World) (β' : Lay) (w' : World) : Prop := Fr β.has w w' ∧ ∀ b, β'.has b → β.has b ∨ w.heap.size ≤ b
theorem added_HAt {base Hb M : Nat} {β : Lay} {m : MS} {c : Option Wh} {w0 w w2 w' : World} {o : MO} {f : Nat} {kb vb : Option Nat} {vv onv ev : Value} {ps : List (Int × Value)} {B : Nat} (h : HAt base w0 Hb β m c) (hE : Ext w0 w) (hn : NewTh base w β (m.objs.length + 1) o f kb vb vv)
  (hM : β .map = some M) (hps : ∀ n, I.lookP ps n = if m.there n then (β (.ob n)).map ptr else none) (hwh : WhAt base w0 β m c onv) (hev : SlAt base 3 w0 ev (m.told.map encI) (β .en))
  (ha : Added w Hb M ps m.words (m.used + (2 + o.vals.length)) (m.objs.length + 1) onv ev (.iface (tyOf o) (ptr f)) w2) (hO : Only B w2 w') (hB : w0.heap.size ≤ B) (hBw : B < w.heap.size) (hBn : B ≠ f ∧ kb ≠ some B ∧ vb ≠ some B) (hfit : m.used + (2 + o.vals.length) ≤ m.words) (hlen : (m.objs.length : Int) + 1 < 1152921504606846976) (href : ∀ k ∈ o.refs, m.there k = true) :
  ∃ p, HAt base w' Hb (addR β (m.objs.length + 1) (some p) (some f) kb vb) ((m.paid (2 + o.vals.length)).push o) c ∧ w.heap.size ≤ p := by
 obtain ⟨p, hp, hbp, hMp⟩ := ha.ex
 have hlt := h.hi
 have hsz := hE.size
 have hHb : Hb < w0.heap.size := hlt _ _ h.hb
 have hMl : M < w0.heap.size := hlt _ _ hM
 obtain ⟨lt1, lt2, lt3⟩ := hn.lt
 have sameN : ∀ k, k < w.heap.size → k ≠ Hb → k ≠ M → k ≠ B → w'.heap[k]? = w.heap[k]? := fun k h1 h2 h3 h4 => (hO.block k h4).trans (ha.fr.block k h1 fun hs => hs.elim h2 h3)
 have same : ∀ k, k < w0.heap.size → k ≠ Hb → k ≠ M → w'.heap[k]? = w0.heap[k]? := fun k h1 h2 h3 => (sameN k (by omega) h2 h3 (by omega)).trans (hE.block k h1)
 have hpr : ∀ r, β r ≠ some p := fun r e => by have := hlt r p e; omega
 have hpB : p ≠ B := by omega
 have hsz2 := ha.fr.size
 have hsz' : w2.heap.size = w'.heap.size := hO.size.symm
 have hpl := hbp.lt
 have hbp' := hO.blk hbp hpB
 have hhd := hO.blk ha.hd (by omega)
 have hMp' : I.MapB w' M (I.setP ps (m.objs.length + 1) (ptr p)) := hMp.block (hO.block M (by omega))
 have nHM : ∀ r b, β r = some b → r ≠ .heap → r ≠ .map → b ≠ Hb ∧ b ≠ M := fun r b hr h1 h2 => ⟨fun e => h1 (h.inj r .heap b hr (by rw [e]; exact h.hb)), fun e => h2 (h.inj r .map b hr (by rw [e]; exact hM))⟩
 have old : ∀ r b, β r = some b → r ≠ .heap → r ≠ .map → w'.heap[b]? = w0.heap[b]? := fun r b hr h1 h2 => same b (hlt r b hr) (nHM r b hr h1 h2).1 (nHM r b hr h1 h2).2
 have fnew : ∀ b, b < w.heap.size → (∀ r, β r ≠ some b) → b ≠ B → w'.heap[b]? = w.heap[b]? := fun b h1 h2 h3 => sameN b h1 (fun e => h2 .heap (by rw [e]; exact h.hb)) (fun e => h2 .map (by rw [e]; exact hM)) h3
 obtain ⟨ot, oa, ow⟩ := hn.new
 have hneed : o.need = 2 + (o.vals.length : Int) := by simp [MO.need, ot]
 have hlenN : ((m.paid (2 + (o.vals.length : Int))).push o).objs.length = m.objs.length + 1 := by simp [MS.push, MS.paid]
 have hused : ((m.paid (2 + (o.vals.length : Int))).push o).used = m.used + (2 + o.vals.length) := by
  simp [MS.used, MS.push, MS.paid, hneed]
 have hthN : ((m.paid (2 + (o.vals.length : Int))).push o).there ((m.objs.length : Int) + 1) = true := by
  simp [MS.there, MS.at, MS.push, MS.paid, ot]
  omega
 have hatN : ((m.paid (2 + (o.vals.length : Int))).push o).at ((m.objs.length : Int) + 1) = o := by
  simp [MS.at, MS.push, MS.paid]
 have hth : ∀ n, n ≠ (m.objs.length : Int) + 1 → ((m.paid (2 + (o.vals.length : Int))).push o).there n = m.there n := by
  intro n hne
  by_cases hle : n ≤ m.objs.length
  ·exact (there_push (m := m.paid (2 + (o.vals.length : Int))) hle).trans (there_objs rfl n)
  ·have a : m.there n = false := by simp [MS.there, hle]
   have b : decide (n ≤ ((m.objs.length + 1 : Nat) : Int)) = false := decide_eq_false (by omega)
   rw [a]
   unfold MS.there
   rw [hlenN, b]
   simp
 have hat : ∀ n, m.there n = true → ((m.paid (2 + (o.vals.length : Int))).push o).at n = m.at n := by
  intro n ht
  have := there_le ht
  exact (at_push (m := m.paid (2 + (o.vals.length : Int))) this.2 this.1).trans (at_objs rfl n)
 have hwf : ((m.paid (2 + (o.vals.length : Int))).push o).wf := by
  intro n hn' k hk
  have hle : ∀ j, m.there j = true → j ≠ (m.objs.length : Int) + 1 := fun j hj => by have := (there_le hj).2; omega
  by_cases e : n = (m.objs.length : Int) + 1
  ·subst e
   have hk' : k ∈ o.refs := by unfold MS.refsOf at hk; rw [hatN] at hk; exact hk
   have := href k hk'
   rw [hth k (hle k this)]; exact this
  ·rw [hth n e] at hn'
   have hk' : k ∈ m.refsOf n := by unfold MS.refsOf at hk ⊢; rw [hat n hn'] at hk; exact hk
   have := h.wf n hn' k hk'
   rw [hth k (hle k this)]; exact this
 refine ⟨p, ⟨addR_inj h.inj hpr (by omega) (fun e => by have := lt2 p e; omega) (fun e => by have := lt3 p e; omega) hn.nf hn.nk hn.nv, ?_, ?_, h.hb, ⟨M, _, onv, ev, hM, ?_, hMp', ?_, ?_, ?_⟩, ?_, ?_, hwf, ?_, ?_, ?_, h.ok⟩, hp⟩
 ·intro r b hr
  obtain ⟨l1, l2, l3⟩ := hn.lo
  have hpb : base ≤ p := by have := h.lo _ _ h.hb; omega
  cases r with
  | ob k =>
   by_cases e : k = (m.objs.length : Int) + 1
   ·simp [addR, e] at hr; omega
   ·simp [addR, e] at hr; exact h.lo _ _ hr
  | th k =>
   by_cases e : k = (m.objs.length : Int) + 1
   ·simp [addR, e] at hr; omega
   ·simp [addR, e] at hr; exact h.lo _ _ hr
  | ks k =>
   by_cases e : k = (m.objs.length : Int) + 1
   ·simp [addR, e] at hr; exact l2 b hr
   ·simp [addR, e] at hr; exact h.lo _ _ hr
  | vs k =>
   by_cases e : k = (m.objs.length : Int) + 1
   ·simp [addR, e] at hr; exact l3 b hr
   ·simp [addR, e] at hr; exact h.lo _ _ hr
  | heap => exact h.lo _ _ hr
  | map => exact h.lo _ _ hr
  | wh => exact h.lo _ _ hr
  | bm => exact h.lo _ _ hr
  | wm => exact h.lo _ _ hr
  | gr => exact h.lo _ _ hr
  | en => exact h.lo _ _ hr
  | wv k => exact h.lo _ _ hr
 ·intro r b hr
  have ho : ∀ r', β r' = some b → b < w'.heap.size := fun r' e => by have := hlt r' b e; omega
  cases r with
  | ob k =>
   by_cases e : k = (m.objs.length : Int) + 1
   ·simp [addR, e] at hr; omega
   ·simp [addR, e] at hr; exact ho _ hr
  | th k =>
   by_cases e : k = (m.objs.length : Int) + 1
   ·simp [addR, e] at hr; omega
   ·simp [addR, e] at hr; exact ho _ hr
  | ks k =>
   by_cases e : k = (m.objs.length : Int) + 1
   ·simp [addR, e] at hr; have := lt2 b hr; omega
   ·simp [addR, e] at hr; exact ho _ hr
  | vs k =>
   by_cases e : k = (m.objs.length : Int) + 1
   ·simp [addR, e] at hr; have := lt3 b hr; omega
   ·simp [addR, e] at hr; exact ho _ hr
  | heap => exact ho _ hr
  | map => exact ho _ hr
  | wh => exact ho _ hr
  | bm => exact ho _ hr
  | wm => exact ho _ hr
  | gr => exact ho _ hr
  | en => exact ho _ hr
  | wv k => exact ho _ hr
 ·rw [hused, hlenN]
  exact hhd
 ·intro n
  rw [I.look_setP]
  by_cases e : (m.objs.length : Int) + 1 = n
  ·subst e
   rw [if_pos rfl, hthN]
   simp [addR]
  ·rw [if_neg e, hps n, hth n (fun h => e h.symm)]
   simp [addR, Ne.symm e]
 ·refine hwh.move rfl (fun s roots x hx hon hI => hI.push hon o (by omega)) (fun r hr => by cases r <;> first | rfl | cases hr) (fun r b hr hb => old r b hb (by rintro rfl; cases hr) (by rintro rfl; cases hr))
 ·exact hev.keep fun k hk => old .en k hk (by simp) (by simp)
 ·intro n ht
  by_cases e : n = (m.objs.length : Int) + 1
  ·subst e
   rw [hatN]
   refine ⟨p, f, 0, vv, by simp [addR], by simp [addR], ?_, fun _ => by simp [oa], ?_, ?_⟩
   ·rw [ow, show decide (2 ≤ o.age) = false from by simp [oa]]; exact hbp'
   ·have : (addR β (m.objs.length + 1) (some p) (some f) kb vb) (.vs ((m.objs.length : Int) + 1)) = vb := by simp [addR]
    rw [this]
    exact hn.vals.keep fun k hk => fnew k (lt3 k hk) (hn.nv k hk).2.2 (fun e => hBn.2.2 (by rw [← e]; exact hk))
   ·refine (hn.th (some p)).keep (fnew f lt1 hn.nf (Ne.symm hBn.1)) fun k hk => ?_
    have hk' : kb = some k := by simpa [addR] using hk
    exact fnew k (lt2 k hk') (hn.nk k hk').2 (fun e => hBn.2.1 (by rw [← e]; exact hk'))
  ·rw [hth n e] at ht
   rw [hat n ht]
   refine (h.obs n ht).move (by simp [addR, e]) (by simp [addR, e]) (by simp [addR, e]) (by simp [addR, e]) fun b hb => ?_
   rcases hb with hb | hb | hb | hb
   ·exact old _ b hb (by simp) (by simp)
   ·exact old _ b hb (by simp) (by simp)
   ·exact old _ b hb (by simp) (by simp)
   ·exact old _ b hb (by simp) (by simp)
 ·intro n hf
  have e : n ≠ (m.objs.length : Int) + 1 := fun e => by rw [e, hthN] at hf; cases hf
  rw [hth n e] at hf
  have := h.free n hf
  simpa [addR, e] using this
 ·intro n ht
  by_cases e : n = (m.objs.length : Int) + 1
  ·subst e; rw [hatN]; exact hn.small
  ·rw [hth n e] at ht
   rw [hat n ht]; exact h.small n ht
 ·rw [hused]
  exact ⟨hfit, h.words.2⟩
 ·rw [hlenN]; omega
end Go.L17
namespace Go.L17
open Go Go.Eng Go.RowKit Go.Proofs
set_option maxRecDepth 100000
set_option maxHeartbeats 2000000
theorem SlAt.ext {base e : Nat} {w w' : World} {v : Value} {xs : List Value} {b : Option Nat} (h : SlAt base e w v xs b) (hE : Ext w w') : SlAt base e w' v xs b := ⟨h.own.ext hE, h.blk⟩
theorem ThAt.ext {base : Nat} {w w' : World} {β : Lay} {n : Int} {o : MO} {f : Nat} {vv : Value} (h : ThAt base w β n o f vv) (hE : Ext w w') : ThAt base w' β n o f vv := by
 cases h with
 | fields kv h1 h2 h3 h4 h5 => exact .fields kv h1 h2 h3 (h4.ext hE) (h5.ext hE)
 | array h1 h2 => exact .array h1 (h2.ext hE)
theorem NewTh.ext {base : Nat} {w w' : World} {β : Lay} {N : Int} {o : MO} {f : Nat} {kb vb : Option Nat} {vv : Value} (h : NewTh base w β N o f kb vb vv) (hE : Ext w w') : NewTh base w' β N o f kb vb vv :=
 ⟨fun p => (h.th p).ext hE, h.vals.ext hE, h.lo, h.nf, h.nk, h.nv, ⟨by have := h.lt.1; have := hE.size; omega, fun b hb => by have := h.lt.2.1 b hb; have := hE.size; omega, fun b hb => by have := h.lt.2.2 b hb; have := hE.size; omega⟩, h.small, h.new⟩
theorem HAt.ext {base : Nat} {w w' : World} {Hb : Nat} {β : Lay} {m : MS} {c : Option Wh} (h : HAt base w Hb β m c) (hE : Ext w w') : HAt base w' Hb β m c := h.keep fun r b hr => hE.block b (h.hi r b hr)
theorem used_nonneg (m : MS) : 0 ≤ m.used := by
 unfold MS.used
 have : ∀ l : List Int, (∀ x ∈ l, 0 ≤ x) → 0 ≤ l.sum := by
  intro l
  induction l with
  | nil => simp
  | cons a l ih => intro h; have := ih fun x hx => h x (by simp [hx]); have := h a (by simp); simp; omega
 exact this _ fun x hx => by
  obtain ⟨o, _, rfl⟩ := List.mem_map.1 hx
  exact need_nonneg o
def MakeR (base : Nat) (w0 : World) (Hb : Nat) (β : Lay) (m : MS) (c : Option Wh) (o : MO) : Ending → World → Prop := fun e w' =>
 (m.fits (2 + o.vals.length) = true ∧ e = .returned (.tuple #[.int .i64 (m.objs.length + 1), .int .i64 0]) ∧ ∃ β', HAt base w' Hb β' ((m.paid (2 + o.vals.length)).push o) c ∧ Turn β w0 β' w') ∨
 (m.fits (2 + o.vals.length) = false ∧ e = .returned (.tuple #[.int .i64 0, .int .i64 170]) ∧ Ext w0 w')
theorem t_make1 {base Hb : Nat} {β : Lay} {m : MS} {c : Option Wh} {w0 w : World} {o : MO} {f : Nat} {kb vb : Option Nat} {vv : Value} (h : HAt base w0 Hb β m c) (hE : Ext w0 w) (hn : NewTh base w β (m.objs.length + 1) o f kb vb vv)
  (hnew : w0.heap.size ≤ f ∧ (∀ b, kb = some b → w0.heap.size ≤ b) ∧ ∀ b, vb = some b → w0.heap.size ≤ b) (hlen : (m.objs.length : Int) + 1 < 1152921504606846976) (href : ∀ k ∈ o.refs, m.there k = true) :
  Calls Tryz.prog 98 #[ptr Hb, .iface (tyOf o) (ptr f)] w (MakeR base w0 Hb β m c o) := by
 obtain ⟨M, ps, onv, ev, hM, hd, hmp, hps, hwh, hev⟩ := h.hd
 have hneMH : M ≠ Hb := fun e => by have := h.inj .map .heap M hM (by rw [e]; exact h.hb); cases this
 have hHl := h.hi _ _ h.hb
 have hMl := h.hi _ _ hM
 have hz := hE.size
 have hu := used_nonneg m
 obtain ⟨hw1, hw2, hw3⟩ := h.words
 have hsm := hn.small
 refine ir98_calls fun ρ r0 r1 => ?_
 simp [ir98]
 refine eff_box fun B2 W1 hB2 hE1 hb2 _ => ?_
 simp [r0, ptr, Value.cells] at hb2
 simp
 refine eff_box fun B3 W2 hB3 hE2 hb3 _ => ?_
 simp [r1, Value.cells] at hb3
 have hb22 := hb2.ext hE2
 have hE12 := hE1.trans' hE2
 have hE02 := hE.trans' hE12
 have z1 := hE1.size
 have z2 := hE2.size
 have lb2 := hb2.lt
 have lb3 := hb3.lt
 simp [hb22.cell]
 have key := t_room (w := W2) (mv := ptr Hb) (f := 131) (caps := #[ptr B2, ptr B3]) (S := fun k => k = Hb ∨ k = M)
  (A := fun W w2 => m.used + (2 + o.vals.length) ≤ m.words ∧ ∃ W4, Ext W W4 ∧ Added W4 Hb M ps m.words (m.used + (2 + o.vals.length)) (m.objs.length + 1) onv ev (.iface (tyOf o) (ptr f)) w2) (N := m.words < m.used + (2 + o.vals.length)) cb131 (by rintro k (rfl | rfl) <;> omega) ?_
 ·refine key.mono ?_
  rintro e w' ⟨W, B, hEW, hB, hBW, ⟨rfl, w2, hF, ⟨hfit, W4, hE4, hA⟩, hO⟩ | ⟨rfl, hN, hEw'⟩⟩
  ·have hE0 : Ext w0 W4 := (hE02.trans' hEW).trans' hE4
   have zW := hEW.size
   have z4 := hE4.size
   have hn4 : NewTh base W4 β (m.objs.length + 1) o f kb vb vv := ((hn.ext hE12).ext hEW).ext hE4
   obtain ⟨lt1, lt2, lt3⟩ := hn.lt
   obtain ⟨p, hH, hp⟩ := added_HAt h hE0 hn4 hM hps hwh hev hA hO (by omega) (by omega) ⟨by omega, fun e => by have := lt2 B e; omega, fun e => by have := lt3 B e; omega⟩ hfit hlen href
   obtain ⟨M', ps', onv', ev', hM', hd', _⟩ := hH.hd
   have hfits : m.fits (2 + o.vals.length) = true := by simp [MS.fits]; exact hfit
   have hl2 : (((m.paid (2 + (o.vals.length : Int))).push o).objs.length : Int) = m.objs.length + 1 := by simp [MS.push, MS.paid]
   rw [hl2] at hd'
   have hFr : Fr β.has w0 w' := by
    have f1 : Fr β.has w0 W4 := Fr.of hE0
    have f2 : Fr β.has w0 w2 := f1.trans hA.fr (by
     rintro x (rfl | rfl)
     ·exact .inl ⟨_, h.hb⟩
     ·exact .inl ⟨_, hM⟩)
    exact f2.trans (Fr.only hO (S := fun k => k = B) rfl) (by rintro x rfl; right; omega)
   have hBb : B2 ≠ B := by omega
   have hb2' : Blk w' B2 #[ptr Hb] 25 := by
    have q1 : Blk W4 B2 #[ptr Hb] 25 := (hb22.ext hEW).ext hE4
    exact hO.blk (hA.fr.blk q1 (by rintro (e | e) <;> omega)) hBb
   simp [ir98_k0, hb2'.cell, ptr, hd'.cell]
   refine .inl ⟨hfits, by simp, _, hH, hFr, ?_⟩
   rintro b ⟨r, hr⟩
   have mem : ∀ r', β r' = some b → Lay.has β b ∨ w0.heap.size ≤ b := fun r' e => .inl ⟨r', e⟩
   cases r with
   | ob k =>
    by_cases e : k = (m.objs.length : Int) + 1
    ·simp [addR, e] at hr; right; omega
    ·simp [addR, e] at hr; exact mem _ hr
   | th k =>
    by_cases e : k = (m.objs.length : Int) + 1
    ·simp [addR, e] at hr; right; omega
    ·simp [addR, e] at hr; exact mem _ hr
   | ks k =>
    by_cases e : k = (m.objs.length : Int) + 1
    ·simp [addR, e] at hr; exact .inr (hnew.2.1 b hr)
    ·simp [addR, e] at hr; exact mem _ hr
   | vs k =>
    by_cases e : k = (m.objs.length : Int) + 1
    ·simp [addR, e] at hr; exact .inr (hnew.2.2 b hr)
    ·simp [addR, e] at hr; exact mem _ hr
   | heap => exact mem _ hr
   | map => exact mem _ hr
   | wh => exact mem _ hr
   | bm => exact mem _ hr
   | wm => exact mem _ hr
   | gr => exact mem _ hr
   | en => exact mem _ hr
   | wv k => exact mem _ hr
  ·have hfits : m.fits (2 + o.vals.length) = false := by simp [MS.fits]; omega
   simp
   exact .inr ⟨hfits, by simp, hE02.trans' hEw'⟩
 ·intro W hEW
  have q2 := hb22.ext hEW
  have q3 := hb3.ext hEW
  have hE0 := hE02.trans' hEW
  refine ir131_calls fun ρ2 s0 s1 => ?_
  simp [ir131]
  refine raw_ord ir131_o0_ok (Ext W) fun W4 hE4 _ => ⟨hE4, ?_⟩
  have c2 : ∀ W5, Ext W W5 → ∀ i, W5.cell? ⟨B2, i, none⟩ = #[ptr Hb][i]? := fun W5 h5 => (q2.ext h5).cell
  have c3 : ∀ W5, Ext W W5 → ∀ i, W5.cell? ⟨B3, i, none⟩ = #[Value.iface (tyOf o) (ptr f)][i]? := fun W5 h5 => (q3.ext h5).cell
  simp +contextual -implicitDefEqProofs [ir131_o0, s0, s1, ptr, c2, c3, hE4]
  have hE04 := hE0.trans' hE4
  have hn4 : NewTh base W4 β (m.objs.length + 1) o f kb vb vv := ((hn.ext hE12).ext hEW).ext hE4
  refine (t_add (o := o) (hd.ext hE04) (hmp.ext hE04) hneMH (hn4.th none) (hn4.vals.sl (by omega)) ⟨hu, by omega⟩ (by omega) (by omega)).mono ?_
  rintro e w2 (⟨hfit, rfl, hA⟩ | ⟨hfit, rfl, hE2⟩)
  ·simp
   exact ⟨(Fr.of hE4).trans hA.fr (fun x h => .inl h), hfit, W4, hE4, hA⟩
  ·simp
   exact ⟨hfit, hE4.trans' hE2⟩
theorem Turn.of {β : Lay} {w w' : World} (hE : Ext w w') : Turn β w β w' := ⟨Fr.of hE, fun _ h => .inl h⟩
theorem Turn.trans {β β' β'' : Lay} {a b c : World} (h : Turn β a β' b) (k : Turn β' b β'' c) : Turn β a β'' c := by
 refine ⟨h.1.trans k.1 h.2, fun x hx => ?_⟩
 have := h.1.size
 rcases k.2 x hx with hx | hx
 ·exact h.2 x hx
 ·right; omega
def OpR (base : Nat) (w : World) (Hb : Nat) (β : Lay) (c : Option Wh) (v : Value) (m' : MS) : Ending → World → Prop := fun e w' => e = .returned v ∧ ∃ β', HAt base w' Hb β' m' c ∧ Turn β w β' w'
theorem bu112 (k : Nat) : Tryz.prog.built 112 [(0, .int .u8 (k : Int))] = some #[.int .u8 (k : Int), .slice none 0 0] := by kernel_rfl
@[simp] theorem cb36 : callB Tryz.prog 36 = true := by kernel_rfl
theorem refs_arr0 (k : Nat) (h : k ≠ 0) : (⟨true, 0, k, [], [], 0, false⟩ : MO).refs = [] := by
 simp [MO.refs, h]
theorem t_Array {base Hb : Nat} {β : Lay} {m : MS} {c : Option Wh} {w : World} (h : HAt base w Hb β m c) (hbw : base ≤ w.heap.size) (hlen : (m.objs.length : Int) + 1 < 1152921504606846976) (k : Nat) :
  Calls Tryz.prog 36 #[ptr Hb, encU k] w (OpR base w Hb β c (.tuple #[.int .i64 (m.array k).1, .int .i64 (m.array k).2.1]) (m.array k).2.2) := by
 refine ir36_calls fun ρ r0 r1 => ?_
 simp [ir36, r0]
 refine eff_eqlNilP (p := some ⟨Hb, 0, none⟩) und25 (by simp [ptr]) ?_
 simp [ir36_k1, r1]
 refine (t_isKind k w).mono ?_
 rintro _ w1 ⟨rfl, rfl⟩
 cases hk : isKind k with
 | false =>
  have e : m.array k = (0, 1, m) := by simp [MS.array, hk]
  simp [e, OpR]
  exact ⟨β, h, Turn.of (ext_refl _)⟩
 | true =>
  have hk12 : k = 1 ∨ k = 2 := by simpa [isKind] using hk
  simp [ir36_k0, r0, r1, encU, bu112]
  refine eff_box fun f W hf hE hb _ => ?_
  simp [Value.cells] at hb
  simp
  have hlt := hb.lt
  have ho : tyOf (⟨true, 0, k, [], [], 0, false⟩ : MO) = 108 := by simp [tyOf]; omega
  have hn : NewTh base W β (m.objs.length + 1) ⟨true, 0, k, [], [], 0, false⟩ f none none (.slice none 0 0) := by
   refine ⟨fun p => .array hk12 hb, ⟨Own.nil _ _ _ _, rfl⟩, ⟨by omega, by simp, by simp⟩, fun r e => by have := h.hi r f e; omega, by simp, by simp, ⟨hlt, by simp, by simp⟩, by simp, rfl, rfl, rfl⟩
  have key := t_make1 (o := ⟨true, 0, k, [], [], 0, false⟩) h hE hn ⟨hf, by simp, by simp⟩ hlen (by rw [refs_arr0 k (by omega)]; simp)
  rw [ho] at key
  refine key.mono ?_
  rintro e w' (⟨hfit, rfl, β', hH, hT⟩ | ⟨hfit, rfl, hE'⟩)
  ·have hfit' : m.fits 2 = true := by simpa using hfit
   have e : m.array k = ((m.objs.length : Int) + 1, 0, (m.paid 2).push ⟨true, 0, k, [], [], 0, false⟩) := by simp [MS.array, hk, hfit']
   simp [e, OpR]
   exact ⟨β', by simpa using hH, hT⟩
  ·have hfit' : m.fits 2 = false := by simpa using hfit
   have e : m.array k = (0, 170, m) := by simp [MS.array, hk, hfit']
   simp [e, OpR]
   exact ⟨β, h.ext hE', Turn.of hE'⟩
end Go.L17
namespace Go.L17
open Go Go.Eng Go.RowKit Go.Proofs
set_option maxRecDepth 100000
set_option maxHeartbeats 2000000
theorem si35 : sliceInfo Tryz.prog 35 = some (3, 1) := by kernel_rfl
theorem si34 : sliceInfo Tryz.prog 34 = some (5, 1) := by kernel_rfl
theorem ri35 : rowInfo Tryz.prog 35 = some (3, 1, 8) := by kernel_rfl
theorem ri34 : rowInfo Tryz.prog 34 = some (5, 1, 1) := by kernel_rfl
@[simp] theorem cb33 : callB Tryz.prog 33 = true := by kernel_rfl
@[simp] theorem cb99 : callB Tryz.prog 99 = true := by kernel_rfl
@[simp] theorem cb94 : callB Tryz.prog 94 = true := by kernel_rfl
@[simp] theorem cb130 : callB Tryz.prog 130 = true := by kernel_rfl
theorem cb95 : callB Tryz.prog 95 = true := by kernel_rfl
theorem nil_of {α : Type} {enc : α → Value} {w : World} {v : Value} {l : List α} (hl : Sl enc w v l) (hn : isNilSl v = true) : l = [] := by
 have h1 := hl.len
 rcases isSl_cases hl.is with ⟨b, o, n, c, rfl, _⟩ | rfl | ⟨b, o, s, rfl⟩
 ·simp [isNilSl] at hn
 ·simp [slLen] at h1; exact List.length_eq_zero_iff.1 h1.symm
 ·simp [isNilSl] at hn
theorem t_Clone {w : World} {v : Value} {l : List Int} (hl : Sl encI w v l) (hlen : l.length ≤ 1000000) : Calls Tryz.prog 33 #[v] w fun e w' => ∃ x, e = .returned x ∧ Own w.heap.size 3 1 w' x (l.map encI) ∧ Ext w w' := by
 refine ir33_calls fun ρ h0 => ?_
 simp [ir33, h0]
 refine eff_eqlNil (e := 3) (by kernel_rfl) (by simpa using hl.is) ?_
 simp
 cases hn : isNilSl v with
 | true =>
  have := nil_of hl hn
  subst this
  simp
  exact ⟨Own.nil _ _ _ _, ext_refl _⟩
 | false =>
  simp [ir33_k0, h0]
  refine eff_lit si35 (by decide) (by decide) (by simp) fun B3 W3 hB3 hE3 hb3 _ => ?_
  simp at hb3
  simp [h0]
  refine eff_append ri35 hE3 (by rfl) (by rfl) (Own.lit (n := 0) (sz := 1) hb3 (by simp) hB3 (by decide)) (hl.ext hE3).cells (one_map (fun _ => rfl) _) (by simp; omega) (by simp; omega) fun u4 W4 hE4 ho4 _ _ => ?_
  simp at ho4 ⊢
  exact ⟨ho4, hE4⟩
theorem t_CloneU {w : World} {v : Value} {l : List Nat} (hl : Sl encU w v l) (hlen : l.length ≤ 1000000) : Calls Tryz.prog 99 #[v] w fun e w' => ∃ x, e = .returned x ∧ Own w.heap.size 5 1 w' x (l.map encU) ∧ Ext w w' := by
 refine ir99_calls fun ρ h0 => ?_
 simp [ir99, h0]
 refine eff_eqlNil (e := 5) (by kernel_rfl) (by simpa using hl.is) ?_
 simp
 cases hn : isNilSl v with
 | true =>
  have := nil_of hl hn
  subst this
  simp
  exact ⟨Own.nil _ _ _ _, ext_refl _⟩
 | false =>
  simp [ir99_k0, h0]
  refine eff_lit si34 (by decide) (by decide) (by simp) fun B3 W3 hB3 hE3 hb3 _ => ?_
  simp at hb3
  simp [h0]
  refine eff_append ri34 hE3 (by rfl) (by rfl) (Own.lit (n := 0) (sz := 1) hb3 (by simp) hB3 (by decide)) (hl.ext hE3).cells (one_map (fun _ => rfl) _) (by simp; omega) (by simp; omega) fun u4 W4 hE4 ho4 _ _ => ?_
  simp at ho4 ⊢
  exact ⟨ho4, hE4⟩
theorem t_noKind (k : Nat) (w : World) : Calls Tryz.prog 95 #[encU k] w fun e w' => e = .returned (.bool (!isKind k)) ∧ w' = w := by
 refine ir95_calls fun ρ h0 => ?_
 simp [ir95, h0]
 refine (t_isKind k w).mono ?_
 rintro _ w' ⟨rfl, rfl⟩
 simp
theorem t_indexKind {w : World} {v : Value} {l : List Nat} (hl : Sl encU w v l) : Calls Tryz.prog 130 #[v, .func (.func 95) #[] #[]] w fun e w' => (∃ i : Int, e = .returned (.int .i64 i) ∧ (0 ≤ i ↔ (l.any fun k => !isKind k) = true)) ∧ w' = w := by
 have hbd := hl.bd
 refine ir130_calls fun ρ h0 h1 => ?_
 simp [ir130, h0, hl.is, hl.len]
 refine loopC 8 l.length (fun k ρ' w' => w' = w ∧ ρ' 0 = v ∧ ρ' 1 = .func (.func 95) #[] #[] ∧ ρ' 7 = .int .i64 l.length ∧ ∀ j (hj : j < l.length), j < k → isKind l[j] = true) (by simp) ⟨rfl, by simp [h0], by simp [h1], by simp, by simp⟩ ?_
 rintro k ρ' w' hk h8 ⟨rfl, h0, h1, h7, hall⟩
 by_cases hlt : k < l.length
 ·simp [ir130_l2, ir130_k1, h8, h7, hlt, h0, h1, hl.is, hl.len, hl.cell k hlt]
  refine eff_callv (f := 95) (fs := #[]) (caps := #[]) cb95 (by simp) ?_
  simp
  refine (t_noKind l[k] _).mono ?_
  rintro _ w2 ⟨rfl, rfl⟩
  cases hk2 : isKind l[k] with
  | false =>
   have : (l.any fun k => !isKind k) = true := List.any_eq_true.2 ⟨l[k], List.getElem_mem hlt, by simp [hk2]⟩
   simp [hk2]
   exact ⟨l[k], List.getElem_mem hlt, hk2⟩
  | true =>
   simp [hk2, ir130_k0, h8, i64w (n := (k : Int) + 1) (by omega), h0, h1, h7]
   intro j hj hjk
   by_cases e : j = k
   ·subst e; exact hk2
   ·exact hall j hj (by omega)
 ·have hk' : k = l.length := by omega
  subst hk'
  simp [ir130_l2, h8, h7, ir130_k3]
  intro x hx
  obtain ⟨j, hj, rfl⟩ := List.getElem_of_mem hx
  exact hall j hj hj
theorem t_badKind {w : World} {v : Value} {l : List Nat} (hl : Sl encU w v l) : Calls Tryz.prog 94 #[v, .func (.func 95) #[] #[]] w fun e w' => e = .returned (.bool (l.any fun k => !isKind k)) ∧ w' = w := by
 refine ir94_calls fun ρ h0 h1 => ?_
 simp [ir94, h0, h1]
 refine (t_indexKind hl).mono ?_
 rintro _ w' ⟨⟨i, rfl, hi⟩, rfl⟩
 simp
 rw [Bool.eq_iff_iff, decide_eq_true_eq, hi]
end Go.L17
namespace Go.L17
open Go Go.Eng Go.RowKit Go.Proofs
set_option maxRecDepth 100000
set_option maxHeartbeats 2000000
def newMS (words : Int) : MS := ⟨words, [], false, [], 0, []⟩
theorem newMS_there (words n : Int) : (newMS words).there n = false := by
 cases h : (newMS words).there n with
 | false => rfl
 | true => have := there_le h; simp [newMS] at this; omega
def newLay (Hb M : Nat) : Lay | .heap => some Hb | .map => some M | _ => none
theorem bu93 (n : Int) (B : Nat) : Tryz.prog.built 93 [(0, .int .i64 n), (3, .map (some B))] = some #[.int .i64 n, .int .i64 0, .int .i64 0, .map (some B)] := by kernel_rfl
theorem bu96 (a b c d : Value) : Tryz.prog.built 96 [(0, .agg #[a, b, c, d])] = some #[a, b, c, d, .pointer none, .slice none 0 0] := by kernel_rfl
@[simp] theorem cb12 : callB Tryz.prog 12 = true := by kernel_rfl
@[simp] theorem cb32 : callB Tryz.prog 32 = true := by kernel_rfl
theorem t_New {w : World} (words : Int) : Calls Tryz.prog 12 #[.int .i64 words] w fun e w' => (words < 64 ∨ 1000000 < words) ∧ e = .returned (.tuple #[.pointer none, .int .i64 1]) ∧ w' = w ∨
  (64 ≤ words ∧ words ≤ 1000000) ∧ ∃ Hb M, e = .returned (.tuple #[ptr Hb, .int .i64 0]) ∧ HAt w.heap.size w' Hb (newLay Hb M) (newMS words) none ∧ Ext w w' := by
 refine ir12_calls fun ρ r0 => ?_
 simp [ir12, r0]
 refine (t_in words 64 1000000 w).mono ?_
 rintro _ w1 ⟨rfl, rfl⟩
 by_cases hin : 64 ≤ words ∧ words ≤ 1000000
 ·simp [hin.1, hin.2, ir12_k0, r0]
  refine I.eff_makeMap fun M W1 hM hE1 hm _ => ?_
  simp [bu93, bu96]
  refine eff_box fun Hb W2 hHb hE2 hb _ => ?_
  simp [Value.cells] at hb
  simp
  have hMl := hm.lt
  have hne : M ≠ Hb := by omega
  have hm2 := hm.ext hE2
  have hbl := hb.lt
  refine ⟨Hb, rfl, ⟨M, ?_, ?_, ?_, rfl, ⟨M, [], .pointer none, .slice none 0 0, rfl, ?_, hm2, ?_, .off rfl, ⟨Own.nil _ _ _ _, rfl⟩⟩, ?_, ?_, ?_, ?_, ?_, ?_, fun _ h => by cases h⟩, hE1.trans' hE2⟩
  ·intro r1 r2 b h1 h2
   cases r1 <;> cases r2 <;> simp_all [newLay]
  ·intro r b h
   cases r <;> simp [newLay] at h
   ·omega
   ·omega
  ·intro r b h
   have := hE2.size
   cases r <;> simp [newLay] at h
   ·omega
   ·omega
  ·simpa [newMS, MS.used] using hb
  ·intro n; rw [newMS_there]; rfl
  ·intro n hn; rw [newMS_there] at hn; cases hn
  ·intro n _; exact ⟨rfl, rfl, rfl, rfl⟩
  ·intro n hn; rw [newMS_there] at hn; cases hn
  ·intro n hn; rw [newMS_there] at hn; cases hn
  ·simp [newMS, MS.used]; omega
  ·simp [newMS]
 ·have hd : (decide (64 ≤ words) && decide (words ≤ 1000000)) = false := by
   simp only [Bool.and_eq_false_iff, decide_eq_false_iff_not]; omega
  simp [hd]
  omega
end Go.L17
namespace Go.L17
open Go Go.Eng Go.RowKit Go.Proofs
set_option maxRecDepth 100000
set_option maxHeartbeats 2000000
theorem bu117 (n : Int) (pa pb : Option Addr) (na ca nb cb : Nat) : Tryz.prog.built 117 [(0, .int .i64 n), (1, .slice pa na ca), (2, .slice pb nb cb)] = some #[.int .i64 n, .slice pa na ca, .slice pb nb cb] := by kernel_rfl
theorem Own.slice {base e sz : Nat} {w : World} {v : Value} {xs : List Value} (h : Own base e sz w v xs) : ∃ p n c, v = .slice p n c := by
 rcases h with ⟨rfl, _⟩ | ⟨g, off, n, cap, cur, rfl, _⟩ <;> exact ⟨_, _, _, rfl⟩
theorem value_cases (m : MS) (k : Nat) (v : Int) : m.value k v = 0 ∨ m.value k v = 1 ∨ m.value k v = 171 := by
 unfold MS.value
 split
 ·exact .inr (.inl rfl)
 ·split
  ·exact .inr (.inr rfl)
  ·exact .inl rfl
def eK (m : MS) (kinds : List Nat) (vals : List Int) (k : Nat) : Int := if (((kinds.zip vals).take k).any fun p => decide (m.value p.1 p.2 ≠ 0)) then 171 else 0
theorem eK_succ {m : MS} {kinds : List Nat} {vals : List Int} {k a : Nat} {b : Int} (ha : kinds[k]? = some a) (hb : vals[k]? = some b) : eK m kinds vals (k + 1) = if m.value a b ≠ 0 then 171 else eK m kinds vals k := by
 have hz : (kinds.zip vals)[k]? = some (a, b) := by rw [List.getElem?_zip_eq_some]; exact ⟨ha, hb⟩
 unfold eK
 rw [List.take_add_one, hz, Option.toList_some, List.any_append]
 simp only [List.any_cons, List.any_nil, Bool.or_false]
 by_cases h : m.value a b = 0
 ·have e : decide (m.value a b ≠ 0) = false := by simp [h]
  rw [e, Bool.or_false, if_neg (c := m.value a b ≠ 0) (by simp [h])]
 ·have e : decide (m.value a b ≠ 0) = true := by simp [h]
  rw [e, Bool.or_true, if_pos rfl, if_pos (c := m.value a b ≠ 0) h]
theorem eK_cases (m : MS) (kinds : List Nat) (vals : List Int) (k : Nat) : eK m kinds vals k = 0 ∨ eK m kinds vals k = 171 := by
 unfold eK; split <;> simp
theorem eK_all {m : MS} {kinds : List Nat} {vals : List Int} (h : kinds.length = vals.length) : eK m kinds vals vals.length = if ((kinds.zip vals).any fun p => decide (m.value p.1 p.2 ≠ 0)) then 171 else 0 := by
 unfold eK
 rw [List.take_of_length_le (by simp [h])]
theorem Own.blk {base e sz : Nat} {w : World} {v : Value} {xs : List Value} (h : Own base e sz w v xs) : ∀ b, v.ownBlock = some b → base ≤ b ∧ b < w.heap.size := by
 rcases h with ⟨rfl, _⟩ | ⟨g, off, n, cap, cur, rfl, h1, h2, _⟩
 ·intro b hb; cases hb
 ·intro b hb
  have : g = b := by simpa [Value.ownBlock] using hb
  subst this
  exact ⟨h1, (Array.getElem?_eq_some_iff.1 h2).1⟩
theorem Own.low {base base' e sz : Nat} {w : World} {v : Value} {xs : List Value} (h : Own base e sz w v xs) (hb : base' ≤ base) : Own base' e sz w v xs := by
 rcases h with h | ⟨g, off, n, cap, cur, h0, h1, r⟩
 ·exact .inl h
 ·exact .inr ⟨g, off, n, cap, cur, h0, by omega, r⟩
theorem mk_refs {m : MS} {kinds : List Nat} {vals : List Int} {tag : Int} (h : ∀ p ∈ kinds.zip vals, m.value p.1 p.2 = 0) : ∀ k ∈ (⟨true, tag, 0, kinds, vals, 0, false⟩ : MO).refs, m.there k = true := by
 intro k hk
 unfold MO.refs at hk
 rw [if_pos rfl] at hk
 obtain ⟨p, hp, rfl⟩ := List.mem_map.1 hk
 obtain ⟨hp1, hp2⟩ := List.mem_filter.1 hp
 simp only [Bool.and_eq_true, decide_eq_true_eq] at hp2
 have := h p hp1
 unfold MS.value at this
 rw [if_neg (by omega)] at this
 cases ht : m.there p.2 with
 | true => rfl
 | false => rw [if_pos ⟨hp2.1, hp2.2, ht⟩] at this; omega
theorem make_k6 {base Hb : Nat} {β : Lay} {m : MS} {c : Option Wh} {w : World} (h : HAt base w Hb β m c) (hbw : base ≤ w.heap.size) (hlen : (m.objs.length : Int) + 1 < 1152921504606846976) {tag : Int} {kinds : List Nat} {vals : List Int} {kv vv : Value} (hk : Sl encU w kv kinds) (hv : Sl encI w vv vals)
  (hl6 : 1 ≤ kinds.length ∧ kinds.length ≤ 6) (hlv : vals.length = kinds.length) (ht : 0 ≤ tag ∧ tag ≤ 5) (hkk : ∀ k ∈ kinds, isKind k = true) {ρ : Env} (r0 : ρ 0 = ptr Hb) (r1 : ρ 1 = .int .i64 tag) (r2 : ρ 2 = kv) (r3 : ρ 3 = vv) :
  ir32_k6.wp ⟨Tryz.prog, 76, ir32_V, []⟩ (retK [.tmp 8, .tmp 9] (OpR base w Hb β c (.tuple #[.int .i64 (m.make tag kinds vals).1, .int .i64 (m.make tag kinds vals).2.1]) (m.make tag kinds vals).2.2)) (ksOf [.tmp 8, .tmp 9] (OpR base w Hb β c (.tuple #[.int .i64 (m.make tag kinds vals).1, .int .i64 (m.make tag kinds vals).2.1]) (m.make tag kinds vals).2.2)) ρ w := by
 have hg : ¬ (tag < 0 ∨ 5 < tag ∨ kinds.length < 1 ∨ 6 < kinds.length ∨ vals.length ≠ kinds.length) := by omega
 generalize hR : OpR base w Hb β c (.tuple #[.int .i64 (m.make tag kinds vals).1, .int .i64 (m.make tag kinds vals).2.1]) (m.make tag kinds vals).2.2 = R
 have bad : ∀ e : Int, e ≠ 0 → m.makeE tag kinds vals = e → R (.returned (.tuple #[.int .i64 0, .int .i64 e])) w := by
  intro e he hm
  have : m.make tag kinds vals = (0, e, m) := by unfold MS.make; rw [if_neg (by rw [hm]; exact he), hm]
  rw [← hR, this]
  exact ⟨rfl, β, h, Turn.of (ext_refl _)⟩
 simp -implicitDefEqProofs [-wps_asg, -wps_eff, wa2, we2, ir32_k6, r3, hv.is, hv.len]
 refine loopC 38 vals.length (fun k ρ' w' => w' = w ∧ ρ' 0 = ptr Hb ∧ ρ' 1 = .int .i64 tag ∧ ρ' 2 = kv ∧ ρ' 3 = vv ∧ ρ' 36 = vv ∧ ρ' 37 = .int .i64 vals.length ∧ ρ' 10 = .int .i64 (eK m kinds vals k) ∧ ∀ j, j < k → ∀ p, (kinds.zip vals)[j]? = some p → m.value p.1 p.2 ≠ 1) (by simp) ⟨rfl, by simp [r0], by simp [r1], by simp [r2], by simp [r3], by simp [r3], by simp, by simp [eK], by simp⟩ ?_
 rintro k ρ' w' hkl h38 ⟨rfl, s0, s1, s2, s3, s36, s37, s10, hall⟩
 have hz : ∀ j (hj : j < vals.length), (kinds.zip vals)[j]? = some (kinds[j]'(by omega), vals[j]) := fun j hj => by
  rw [List.getElem?_zip_eq_some]; exact ⟨List.getElem?_eq_getElem (by omega), List.getElem?_eq_getElem hj⟩
 by_cases hlt : k < vals.length
 ·have hltk : k < kinds.length := by omega
  have hvc := hv.cell k hlt
  have hkc := hk.cell k hltk
  simp -implicitDefEqProofs [-wps_asg, -wps_eff, wa2, we2, ir32_l3, ir32_k2, h38, s37, hlt, s36, s0, s2, hv.is, hv.len, hk.is, hk.len, hltk, hvc, hkc, encI]
  refine (t_value h kinds[k] vals[k]).mono ?_
  rintro _ w2 ⟨rfl, rfl⟩
  have he := eK_succ (m := m) (List.getElem?_eq_getElem hltk) (List.getElem?_eq_getElem hlt)
  have hall' : m.value kinds[k] vals[k] ≠ 1 → ∀ j, j < k + 1 → ∀ a b, (kinds.zip vals)[j]? = some (a, b) → ¬ m.value a b = 1 := by
   intro hne j hj a b hab
   by_cases e : j = k
   ·subst e
    rw [hz j hlt] at hab
    cases hab
    exact hne
   ·exact hall j (by omega) (a, b) hab
  rcases value_cases m kinds[k] vals[k] with hx | hx | hx
  ·rw [hx] at he
   have he' : eK m kinds vals (k + 1) = eK m kinds vals k := by simpa using he
   have ha := hall' (by rw [hx]; decide)
   rcases eK_cases m kinds vals k with h0 | h0
   ·simp -implicitDefEqProofs [-wps_asg, -wps_eff, wa2, we2, hx, s10, h0, ir32_k0, ir32_k1, h38, i64w (n := (k : Int) + 1) (by omega)]
    exact ⟨s0, s1, s2, s3, s36, s37, by rw [he', h0], ha⟩
   ·simp -implicitDefEqProofs [-wps_asg, -wps_eff, wa2, we2, hx, s10, h0, ir32_k0, ir32_k1, h38, i64w (n := (k : Int) + 1) (by omega)]
    exact ⟨s0, s1, s2, s3, s36, s37, by rw [he', h0], ha⟩
  ·simp -implicitDefEqProofs [-wps_asg, -wps_eff, wa2, we2, hx, s10, ir32_k0, ir32_k1, h38]
   refine bad 1 (by decide) ?_
   unfold MS.makeE
   rw [if_neg hg, if_pos]
   rw [List.any_eq_true]
   exact ⟨(kinds[k], vals[k]), List.mem_of_getElem? (hz k hlt), by simp [hx]⟩
  ·rw [hx] at he
   have he' : eK m kinds vals (k + 1) = 171 := by simpa using he
   have ha := hall' (by rw [hx]; decide)
   rcases eK_cases m kinds vals k with h0 | h0
   ·simp -implicitDefEqProofs [-wps_asg, -wps_eff, wa2, we2, hx, s10, h0, ir32_k0, ir32_k1, h38, i64w (n := (k : Int) + 1) (by omega)]
    exact ⟨s0, s1, s2, s3, s36, s37, he'.symm, ha⟩
   ·simp -implicitDefEqProofs [-wps_asg, -wps_eff, wa2, we2, hx, s10, h0, ir32_k0, ir32_k1, h38, i64w (n := (k : Int) + 1) (by omega)]
    exact ⟨s0, s1, s2, s3, s36, s37, he'.symm, ha⟩
 ·have hk' : k = vals.length := by omega
  subst hk'
  have hE := eK_all (m := m) hlv.symm
  have hno : ¬ ((kinds.zip vals).any fun p => !isKind p.1 || decide (m.value p.1 p.2 = 1)) = true := by
   intro ha
   obtain ⟨p, hp, hp1⟩ := List.any_eq_true.1 ha
   obtain ⟨j, hj⟩ := List.mem_iff_getElem?.1 hp
   have hjl : j < vals.length := by
    have := (List.getElem?_eq_some_iff.1 hj).1
    simp at this; omega
   have h1 := hall j hjl p hj
   have h2 := hkk p.1 (List.of_mem_zip hp).1
   simp [h1, h2] at hp1
  rcases eK_cases m kinds vals vals.length with h0 | h0
  rotate_left
  ·simp -implicitDefEqProofs [-wps_asg, -wps_eff, wa2, we2, ir32_l3, h38, s37, ir32_k5, s10, h0]
   refine bad 171 (by decide) ?_
   unfold MS.makeE
   rw [if_neg hg, if_neg hno, if_pos]
   apply Classical.byContradiction
   intro hc
   rw [if_neg hc] at hE
   omega
  simp -implicitDefEqProofs [-wps_asg, -wps_eff, wa2, we2, ir32_l3, h38, s37, ir32_k5, s10, h0]
  have hval : ∀ p ∈ kinds.zip vals, m.value p.1 p.2 = 0 := by
   intro p hp
   apply Classical.byContradiction
   intro hc
   have : ((kinds.zip vals).any fun p => decide (m.value p.1 p.2 ≠ 0)) = true := List.any_eq_true.2 ⟨p, hp, by simp [hc]⟩
   rw [if_pos this] at hE
   omega
  have hmk : m.makeE tag kinds vals = if m.fits (2 + vals.length) then 0 else 170 := by
   unfold MS.makeE
   rw [if_neg hg, if_neg hno, if_neg]
   intro hc
   rw [if_pos hc] at hE
   omega
  simp -implicitDefEqProofs [-wps_asg, -wps_eff, wa2, we2, ir32_k4, s0, s1, s2, s3]
  refine (t_CloneU hk (by omega)).mono ?_
  rintro _ w1 ⟨kx, rfl, hok, hE1⟩
  simp -implicitDefEqProofs [-wps_asg, -wps_eff, wa2, we2, s3]
  refine (t_Clone (hv.ext hE1) (by omega)).mono ?_
  rintro _ w2 ⟨vx, rfl, hov, hE2⟩
  obtain ⟨pk, nk, ck, rfl⟩ := Own.slice hok
  obtain ⟨pv, nv, cv, rfl⟩ := Own.slice hov
  simp -implicitDefEqProofs [-wps_asg, -wps_eff, wa2, we2, s1, bu117]
  refine eff_box fun f W hf hE3 hb _ => ?_
  simp [Value.cells] at hb
  simp -implicitDefEqProofs [-wps_asg, -wps_eff, wa2, we2, s0]
  have kB := Own.blk hok
  have vB := Own.blk hov
  have hlf := hb.lt
  have z1 := hE1.size
  have z2 := hE2.size
  have z3 := hE3.size
  have hE13 := (hE1.trans' hE2).trans' hE3
  have hn : NewTh base W β (m.objs.length + 1) ⟨true, tag, 0, kinds, vals, 0, false⟩ f (Value.slice pk nk ck).ownBlock (Value.slice pv nv cv).ownBlock (.slice pv nv cv) := by
   refine ⟨fun p => .fields _ rfl hlv.symm (fun k hkm => ?_) hb ?_, ⟨Own.low (hov.ext hE3) (by omega), rfl⟩, ⟨by omega, fun b hb => by have := kB b hb; omega, fun b hb => by have := vB b hb; omega⟩, fun r e => by have := h.hi r f e; omega, fun b hb => ⟨by have := kB b hb; omega, fun r e => by have := h.hi r b e; have := kB b hb; omega⟩, fun b hb => ⟨by have := vB b hb; omega, fun e => by have := kB b e; have := vB b hb; omega, fun r e => by have := h.hi r b e; have := vB b hb; omega⟩, ⟨hlf, fun b hb => by have := kB b hb; omega, fun b hb => by have := vB b hb; omega⟩, by show vals.length ≤ 200; omega, rfl, rfl, rfl⟩
   ·have := hkk k hkm
    simpa [isKind] using this
   ·exact ⟨Own.low ((hok.ext hE2).ext hE3) (by omega), by simp [addR]⟩
  have key := t_make1 (o := ⟨true, tag, 0, kinds, vals, 0, false⟩) h hE13 hn ⟨by omega, fun b hb => by have := kB b hb; omega, fun b hb => by have := vB b hb; omega⟩ hlen (mk_refs hval)
  rw [show tyOf (⟨true, tag, 0, kinds, vals, 0, false⟩ : MO) = 113 from rfl] at key
  refine key.mono ?_
  rintro e w4 (⟨hfit, rfl, β', hH, hT⟩ | ⟨hfit, rfl, hE'⟩)
  ·have hfit' : m.fits (2 + vals.length) = true := hfit
   have e : m.make tag kinds vals = ((m.objs.length : Int) + 1, 0, (m.paid (2 + vals.length)).push ⟨true, tag, 0, kinds, vals, 0, false⟩) := by unfold MS.make; rw [hmk, if_pos hfit', if_pos rfl]
   simp -implicitDefEqProofs [-wps_asg, -wps_eff, wa2, we2]
   rw [← hR, e]
   exact ⟨rfl, β', hH, hT⟩
  ·have hfit' : m.fits (2 + vals.length) = false := hfit
   have e : m.make tag kinds vals = (0, 170, m) := by unfold MS.make; rw [hmk, hfit', if_neg (by decide)]; rfl
   simp -implicitDefEqProofs [-wps_asg, -wps_eff, wa2, we2]
   rw [← hR, e]
   exact ⟨rfl, β, h.ext hE', Turn.of hE'⟩
theorem t_Make {base Hb : Nat} {β : Lay} {m : MS} {c : Option Wh} {w : World} (h : HAt base w Hb β m c) (hbw : base ≤ w.heap.size) (hlen : (m.objs.length : Int) + 1 < 1152921504606846976) {tag : Int} {kinds : List Nat} {vals : List Int} {kv vv : Value} (hk : Sl encU w kv kinds) (hv : Sl encI w vv vals) :
  Calls Tryz.prog 32 #[ptr Hb, .int .i64 tag, kv, vv] w (OpR base w Hb β c (.tuple #[.int .i64 (m.make tag kinds vals).1, .int .i64 (m.make tag kinds vals).2.1]) (m.make tag kinds vals).2.2) := by
 have bad : ∀ e : Int, e ≠ 0 → m.makeE tag kinds vals = e → OpR base w Hb β c (.tuple #[.int .i64 (m.make tag kinds vals).1, .int .i64 (m.make tag kinds vals).2.1]) (m.make tag kinds vals).2.2 (.returned (.tuple #[.int .i64 0, .int .i64 e])) w := by
  intro e he hm
  have : m.make tag kinds vals = (0, e, m) := by unfold MS.make; rw [if_neg (by rw [hm]; exact he), hm]
  rw [this]
  exact ⟨rfl, β, h, Turn.of (ext_refl _)⟩
 have hkb := hk.bd
 have hvb := hv.bd
 refine ir32_calls fun ρ r0 r1 r2 r3 => ?_
 simp -implicitDefEqProofs [ir32, r0]
 refine eff_eqlNilP (p := some ⟨Hb, 0, none⟩) und25 (by simp [ptr]) ?_
 simp -implicitDefEqProofs [-wps_asg, -wps_eff, wa2, we2, ir32_k7, r1]
 refine (t_in tag 0 5 w).mono ?_
 rintro _ w1 ⟨rfl, rfl⟩
 by_cases ht : 0 ≤ tag ∧ tag ≤ 5
 rotate_left
 ·have hd : (decide (0 ≤ tag) && decide (tag ≤ 5)) = false := by
   simp only [Bool.and_eq_false_iff, decide_eq_false_iff_not]; omega
  simp -implicitDefEqProofs [-wps_asg, -wps_eff, wa2, we2, hd]
  exact bad 1 (by decide) (by unfold MS.makeE; rw [if_pos (by omega)])
 simp -implicitDefEqProofs [-wps_asg, -wps_eff, wa2, we2, ht.1, ht.2, r2, hk.is, hk.len]
 refine (t_in kinds.length 1 6 _).mono ?_
 rintro _ w1 ⟨rfl, rfl⟩
 by_cases hl6 : 1 ≤ kinds.length ∧ kinds.length ≤ 6
 rotate_left
 ·have hd : (decide ((1 : Int) ≤ kinds.length) && decide ((kinds.length : Int) ≤ 6)) = false := by
   simp only [Bool.and_eq_false_iff, decide_eq_false_iff_not]; omega
  simp -implicitDefEqProofs [-wps_asg, -wps_eff, wa2, we2, hd]
  exact bad 1 (by decide) (by unfold MS.makeE; rw [if_pos (by omega)])
 have hd : (decide ((1 : Int) ≤ kinds.length) && decide ((kinds.length : Int) ≤ 6)) = true := by
  simp only [Bool.and_eq_true, decide_eq_true_eq]; omega
 by_cases hlv : vals.length = kinds.length
 rotate_left
 ·have hlv' : ¬ (vals.length : Int) = kinds.length := by omega
  have hbne : ((vals.length : Int) != (kinds.length : Int)) = true := by simpa using hlv'
  simp -implicitDefEqProofs [-wps_asg, -wps_eff, wa2, we2, hd, r2, r3, hk.is, hk.len, hv.is, hv.len, hlv, hlv', hbne]
  exact bad 1 (by decide) (by unfold MS.makeE; rw [if_pos (by omega)])
 simp -implicitDefEqProofs [-wps_asg, -wps_eff, wa2, we2, hd, r2, r3, hk.is, hk.len, hv.is, hv.len, hlv]
 refine (t_badKind hk).mono ?_
 rintro _ w1 ⟨rfl, rfl⟩
 have hg : ¬ (tag < 0 ∨ 5 < tag ∨ kinds.length < 1 ∨ 6 < kinds.length ∨ vals.length ≠ kinds.length) := by omega
 cases hbk : kinds.any fun k => !isKind k with
 | true =>
  simp -implicitDefEqProofs [-wps_asg, -wps_eff, wa2, we2, hbk]
  refine bad 1 (by decide) ?_
  unfold MS.makeE
  rw [if_neg hg, if_pos]
  obtain ⟨k, hkm, hkb'⟩ := List.any_eq_true.1 hbk
  obtain ⟨j, hj, rfl⟩ := List.getElem_of_mem hkm
  rw [List.any_eq_true]
  refine ⟨(kinds[j], vals[j]'(by omega)), ?_, by simp at hkb'; simp [hkb']⟩
  rw [List.mem_iff_getElem]
  exact ⟨j, by simp; omega, by simp⟩
 | false =>
  have hkk : ∀ k ∈ kinds, isKind k = true := by
   intro k hkm
   have := List.any_eq_false.1 hbk k hkm
   simpa using this
  simp -implicitDefEqProofs [-wps_asg, -wps_eff, wa2, we2, hbk]
  exact make_k6 h hbw hlen hk hv hl6 hlv ht hkk (by simp [r0, ptr]) (by simp [r1]) (by simp [r2]) (by simp [r3])
end Go.L17
namespace Go.L17
open Go Go.Eng Go.RowKit Go.Proofs
set_option maxRecDepth 100000
set_option maxHeartbeats 2000000
theorem raw_rangeI {cx : Cx} {g : Operand} {ps : Array Tmp} {assign body : Code} {gf : FuncId} {t : TypeId} {v v' : Value} {name : String} {K : Env → World → Prop} {Q : Ks} {ρ : Env} {w : World} (hD : cx.D ≠ []) (hg : evE ρ g = .func (.method name) #[.iface t v] #[]) (hgV : fusedIn cx.V g = false)
  (hcb : callB cx.P gf = true) (hm : ∀ w, (method (cx.P.types.size + Made.depth) t v name).run cx.P w = .ok (gf, v') w)
  (h : ∀ (a : Act) (r : Loop) (W1 : World), Agree cx.n cx.V ρ a → r.tmps = a.tmps → r.params = ps → r.assign = assign → r.body = body → r.state = .ready → r.pending = none → Ext w W1 → W1.heap.size = w.heap.size + 2 → LoopB W1 (w.heap.size + 1) w.heap.size r →
   Calls cx.P gf #[v', .func (.yield (w.heap.size + 1)) #[] #[]] W1 (loopEnd cx (w.heap.size + 1) w.heap.size r K Q (upd ρ gS (consD (markD w.heap.size) (ρ gS))))) :
  (IR.raw (.rangeFunc g ps assign body)).wp cx K Q ρ w := by
 intro a ha hDa hdf
 refine (wpIn_wide (n := 0)).1 (wpIn_rangeFunc fun fn _ => ?_)
 obtain ⟨rec, hrec⟩ : ∃ rec : Loop, rec = { state := .ready, pending := none, fn, tmps := a.tmps, params := ps, assign, body, defers := w.heap.size } := ⟨_, rfl⟩
 obtain ⟨W1, hW1⟩ : ∃ W1, (w.alloc (.deferred (some []))).alloc (.loop rec) = W1 := ⟨_, rfl⟩
 have hE : Ext w W1 := by rw [← hW1]; exact (ext_alloc _ _).trans' (ext_alloc _ _)
 have hsz : W1.heap.size = w.heap.size + 2 := by rw [← hW1]; simp
 have hL : LoopB W1 (w.heap.size + 1) w.heap.size rec := by
  rw [← hW1]
  refine ⟨?_, ?_⟩
  ·have := World.alloc_heap_new (w.alloc (.deferred (some []))) (.loop rec); rwa [World.size_alloc] at this
  ·exact (Below.heap_alloc _ _ _ (by simp)).trans (World.alloc_heap_new w _)
 have hga : a.eval g = .func (.method name) #[.iface t v] #[] := by
  rw [← hg]
  cases g with
  | tmp t =>
   have ht : t ∈ cx.V := by simpa [fusedIn] using hgV
   simp [Act.eval, evE, ha.at ht]
  | const v => rfl
  | global v => rfl
  | func v => rfl
 refine ⟨w.heap.size + 1, [markD w.heap.size], W1, { target := .fn (.method name) #[], args := #[.iface t v] ++ #[.func (.yield (w.heap.size + 1)) #[] #[]] }, W1, gf, #[v', .func (.yield (w.heap.size + 1)) #[] #[]], W1, ?_, ?_, fun _ _ => trivial, ?_, fun h0 => (by cases h0), ?_⟩
 ·rw [← hW1, hrec]; exact run_enterLoop_outer _ _ _ _ _
 ·simp only [resolve, hga]
  simp [Deferred.ofValue, Act.eval]
 ·unfold callB at hcb
  split at hcb
  ·rename_i f2 hf2
   simp only [Bool.and_eq_true, Bool.not_eq_true', beq_eq_false_iff_ne, ne_eq] at hcb
   cases hb : f2.body with
   | none => simp [hb] at hcb
   | some c =>
    simp only [invoke, Sem.run_bind, Sem.run_pure, Result.andThen_ok]
    simp [callMethod, hm, callFunc, hf2, hcb.1, hb]
  ·cases hcb
 ·refine (callsIn_wide (n := 0 - 1)).2 ((h a rec W1 ha (by rw [hrec]) (by rw [hrec]) (by rw [hrec]) (by rw [hrec]) (by rw [hrec]) (by rw [hrec]) hE hsz hL).mono ?_)
  have ha' := ha.defer (markD w.heap.size)
  have hD' : dOk cx { a with defers := [markD w.heap.size] ++ a.defers } := fun e => absurd e hD
  intro e W3 he
  cases e with
  | returned v =>
   obtain ⟨st, pend, hst, hL3, hk⟩ := he
   have hk := hk _ (only_putObj _ _ _) (hL3.put _)
   refine ⟨pend, _, run_endLoop hL3.rcd hst, ?_⟩
   cases pend with
   | none => exact ⟨hD', _, ha', hk⟩
   | some c =>
    cases c <;> first | exact hk.elim | skip
    ·exact wpIn_exit ⟨hD', _, ha', hk⟩
    ·exact wpIn_ret ⟨hD', _, ha', hk⟩
  | panicked c => exact ⟨hD', _, ha', he⟩
  | outgrown => exact lift_og he
@[simp] theorem cb189 : callB Tryz.prog 189 = true := by kernel_rfl
@[simp] theorem cb191 : callB Tryz.prog 191 = true := by kernel_rfl
def refsG {α : Type} (p : α → Bool) (g : α → Int) (l : List α) : List Int := (l.filter p).map g
theorem refsG_take {α : Type} (p : α → Bool) (g : α → Int) (l : List α) (k : Nat) (h : k < l.length) : refsG p g (l.take (k + 1)) = if p l[k] then refsG p g (l.take k) ++ [g l[k]] else refsG p g (l.take k) := by
 unfold refsG
 rw [List.take_add_one, List.getElem?_eq_getElem h, Option.toList_some, List.filter_append, List.map_append]
 cases hp : p l[k] <;> simp [hp]
theorem refsG_split {α : Type} (p : α → Bool) (g : α → Int) (l : List α) (k : Nat) : refsG p g l = refsG p g (l.take k) ++ refsG p g (l.drop k) := by
 unfold refsG
 rw [← List.map_append, ← List.filter_append, List.take_append_drop]
theorem refsG_at {α : Type} (p : α → Bool) (g : α → Int) (l : List α) (k : Nat) (h : k < l.length) (hp : p l[k] = true) : refsG p g l = refsG p g (l.take k) ++ g l[k] :: refsG p g (l.drop (k + 1)) := by
 rw [refsG_split p g l (k + 1), refsG_take p g l k h, if_pos hp, List.append_assoc]; rfl
theorem it_array {w W : World} {o : MO} {f l : Nat} {vv : Value} (he : o.elem = 1 ∨ o.elem = 2) (hb : Blk w f #[.int .u8 (o.elem : Int), vv] 112) (hv : Sl encI w vv o.vals) (J : List Int → World → Prop) (hm : ∀ xs W, J xs W → Ext w W)
  (hY : ∀ xs x r W, o.refs = xs ++ x :: r → J xs W → YieldR Tryz.prog l #[.int .i64 x] W fun e W' => e = .returned (.bool true) ∧ J (xs ++ [x]) W') (h0 : J [] W) :
  Calls Tryz.prog 189 #[ptr f, .func (.yield l) #[] #[]] W fun e W' => (∃ v, e = .returned v) ∧ J o.refs W' := by
 have hbd := hv.bd
 obtain ⟨p, hpd⟩ : ∃ p : Int → Bool, p = fun v => decide (o.elem = 2) && decide (v ≠ 0) := ⟨_, rfl⟩
 have hr : o.refs = refsG p id o.vals := by
  unfold MO.refs refsG
  rw [if_neg (by omega), hpd]
  by_cases h2 : o.elem = 2
  ·simp [h2]
  ·simp [h2]
 rw [hr] at hY ⊢
 have hE := hm _ _ h0
 have hb1 := hb.ext hE
 have hv1 := hv.ext hE
 refine ir189_calls fun ρ r0 r1 => ?_
 simp [ir189, r0, ptr, hb1.cell, hv1.is, hv1.len]
 refine loopC 11 o.vals.length (fun k ρ' w' => ρ' 0 = ptr f ∧ ρ' 1 = .func (.yield l) #[] #[] ∧ ρ' 9 = vv ∧ ρ' 10 = .int .i64 o.vals.length ∧ J (refsG p id (o.vals.take k)) w') (by simp) ⟨by simp [r0, ptr], by simp [r1], by simp, by simp, by simpa [refsG] using h0⟩ ?_
 rintro k ρ' w' hk h11 ⟨s0, s1, s9, s10, hj⟩
 by_cases hlt : k < o.vals.length
 ·have hE' := hm _ _ hj
  have hb2 := hb.ext hE'
  have hv2 := hv.ext hE'
  have htk := refsG_take p id o.vals k hlt
  have hvc := hv2.cell k hlt
  by_cases hp : p o.vals[k] = true
  ·have hat := refsG_at p id o.vals k hlt hp
   rw [if_pos hp] at htk
   rw [hpd] at hp
   have hp1 : o.elem = 2 := by simp at hp; exact hp.1
   have hp2 : o.vals[k] ≠ 0 := by simp at hp; exact hp.2
   simp [ir189_l2, ir189_k1, h11, s10, hlt, s9, hv2.is, hv2.len, hvc, encI, s0, ptr, hb2.cell, hp1, hp2, s1]
   refine eff_yield (l := l) (by simp) (by simp) ?_
   simp
   refine (hY _ _ _ _ hat hj).mono ?_
   rintro _ w2 ⟨rfl, hj2⟩
   simp [ir189_k0, h11, s10, s0, s1, s9, ptr, i64w (n := (k : Int) + 1) (by omega)]
   rw [htk]
   exact hj2
  ·rw [if_neg hp] at htk
   rw [hpd] at hp
   have hp' : o.elem = 2 → o.vals[k] = 0 := fun h => by
    apply Classical.byContradiction
    intro hne
    exact hp (by simp [h, hne])
   by_cases h2 : o.elem = 2
   ·have hz := hp' h2
    simp [ir189_l2, ir189_k1, h11, s10, hlt, s9, hv2.is, hv2.len, hvc, encI, s0, ptr, hb2.cell, h2, hz, s1, ir189_k0, i64w (n := (k : Int) + 1) (by omega)]
    rw [htk]
    exact hj
   ·have h2' : ¬ (o.elem : Int) = 2 := by omega
    simp [ir189_l2, ir189_k1, h11, s10, hlt, s9, hv2.is, hv2.len, hvc, encI, s0, ptr, hb2.cell, h2', s1, ir189_k0, i64w (n := (k : Int) + 1) (by omega)]
    rw [htk]
    exact hj
 ·have hk' : k = o.vals.length := by omega
  subst hk'
  simp [ir189_l2, h11, s10]
  rw [List.take_length] at hj
  exact hj
theorem it_fields {w W : World} {o : MO} {f l : Nat} {kv vv : Value} (he : o.elem = 0) (hl : o.kinds.length = o.vals.length) (hb : Blk w f #[.int .i64 o.tag, kv, vv] 117) (hk : Sl encU w kv o.kinds) (hv : Sl encI w vv o.vals) (J : List Int → World → Prop) (hm : ∀ xs W, J xs W → Ext w W)
  (hY : ∀ xs x r W, o.refs = xs ++ x :: r → J xs W → YieldR Tryz.prog l #[.int .i64 x] W fun e W' => e = .returned (.bool true) ∧ J (xs ++ [x]) W') (h0 : J [] W) :
  Calls Tryz.prog 191 #[ptr f, .func (.yield l) #[] #[]] W fun e W' => (∃ v, e = .returned v) ∧ J o.refs W' := by
 have hbd := hv.bd
 obtain ⟨p, hp⟩ : ∃ p : Nat × Int → Bool, p = fun p => decide (p.1 = 2) && decide (p.2 ≠ 0) := ⟨_, rfl⟩
 have hr : o.refs = refsG p (·.2) (o.kinds.zip o.vals) := by
  unfold MO.refs refsG
  rw [if_pos he, hp]
 have hzl : (o.kinds.zip o.vals).length = o.vals.length := by simp [hl]
 rw [hr] at hY ⊢
 have hE := hm _ _ h0
 have hb1 := hb.ext hE
 have hv1 := hv.ext hE
 refine ir191_calls fun ρ r0 r1 => ?_
 simp [ir191, r0, ptr, hb1.cell, hv1.is, hv1.len]
 refine loopC 11 o.vals.length (fun k ρ' w' => ρ' 0 = ptr f ∧ ρ' 1 = .func (.yield l) #[] #[] ∧ ρ' 9 = vv ∧ ρ' 10 = .int .i64 o.vals.length ∧ J (refsG p (·.2) ((o.kinds.zip o.vals).take k)) w') (by simp) ⟨by simp [r0, ptr], by simp [r1], by simp, by simp, by simpa [refsG] using h0⟩ ?_
 rintro k ρ' w' hkk h11 ⟨s0, s1, s9, s10, hj⟩
 by_cases hlt : k < o.vals.length
 ·have hE' := hm _ _ hj
  have hb2 := hb.ext hE'
  have hv2 := hv.ext hE'
  have hk2 := hk.ext hE'
  have hltk : k < o.kinds.length := by omega
  have htk := refsG_take p (·.2) (o.kinds.zip o.vals) k (by omega)
  have hzk : (o.kinds.zip o.vals)[k]'(by omega) = (o.kinds[k], o.vals[k]) := by simp
  have hvc := hv2.cell k hlt
  have hkc := hk2.cell k hltk
  rw [hzk] at htk
  by_cases hpk : p (o.kinds[k], o.vals[k]) = true
  ·have hat := refsG_at p (·.2) (o.kinds.zip o.vals) k (by omega) (by rw [hzk]; exact hpk)
   rw [hzk] at hat
   rw [if_pos hpk] at htk
   rw [hp] at hpk
   have hp1 : o.kinds[k] = 2 := by simp at hpk; exact hpk.1
   have hp2 : o.vals[k] ≠ 0 := by simp at hpk; exact hpk.2
   simp [ir191_l2, ir191_k1, h11, s10, hlt, hltk, s9, hv2.is, hv2.len, hvc, hkc, hk2.is, hk2.len, encI, encU, s0, ptr, hb2.cell, hp1, hp2, s1]
   refine eff_yield (l := l) (by simp) (by simp) ?_
   simp
   refine (hY _ _ _ _ hat hj).mono ?_
   rintro _ w2 ⟨rfl, hj2⟩
   simp [ir191_k0, h11, s10, s0, s1, s9, ptr, i64w (n := (k : Int) + 1) (by omega)]
   rw [htk]
   exact hj2
  ·rw [if_neg hpk] at htk
   rw [hp] at hpk
   have hp' : o.kinds[k] = 2 → o.vals[k] = 0 := fun h => by
    apply Classical.byContradiction
    intro hne
    exact hpk (by simp [h, hne])
   by_cases h2 : o.kinds[k] = 2
   ·have hz := hp' h2
    simp [ir191_l2, ir191_k1, h11, s10, hlt, hltk, s9, hv2.is, hv2.len, hvc, hkc, hk2.is, hk2.len, encI, encU, s0, ptr, hb2.cell, h2, hz, s1, ir191_k0, i64w (n := (k : Int) + 1) (by omega)]
    rw [htk]
    exact hj
   ·have h2' : ¬ (o.kinds[k] : Int) = 2 := by omega
    simp [ir191_l2, ir191_k1, h11, s10, hlt, hltk, s9, hv2.is, hv2.len, hvc, hkc, hk2.is, hk2.len, encI, encU, s0, ptr, hb2.cell, h2', s1, ir191_k0, i64w (n := (k : Int) + 1) (by omega)]
    rw [htk]
    exact hj
 ·have hk' : k = o.vals.length := by omega
  subst hk'
  simp [ir191_l2, h11, s10]
  rw [List.take_of_length_le (by omega)] at hj
  exact hj
end Go.L17
namespace Go.L17
open Go Go.Eng Go.RowKit Go.Proofs
set_option maxRecDepth 100000
set_option maxHeartbeats 2000000
section
variable {P : Program} {Q : Ks} {d : Option Nat} {ty : TypeId} {K : Env → World → Prop} {ρ : Env} {w : World}
theorem eff_appendG {t e sz bytes : Nat} (hi : rowInfo P t = some (e, sz, bytes)) {base : Nat} (hbase : base ≤ w.heap.size) {s x : Operand} {sv xv : Value} (hs : evE ρ s = sv) (hx : evE ρ x = xv) {xs news : List Value}
  (hown : Own base e sz w sv xs) (hnew : Cells w xv sz news) (h1 : ∀ u ∈ news, u.oneCell' = true)
  (hlen : xs.length + news.length < 4611686018427387904) (hbytes : (xs.length + news.length) * bytes ≤ 140737488355328 * sz)
  (h : ∀ v' W, Own base e sz W v' (xs ++ news) → w.grownBy W sv.ownBlock → (v'.ownBlock = sv.ownBlock ∨ v'.ownBlock = some w.heap.size) → K (updO ρ d v') W) : effW P Q d (.call { callee := .builtin .append, args := #[s, x], argTypes := #[t, t] }) ty K ρ w := by
 subst hs; subst hx
 obtain ⟨v', W, hr, ho, hg, hfr⟩ := run_append (P := P) (ty := ty) hi hown hnew h1 hlen hbytes hbase
 refine effE_ok (v := v') (w' := W) ?_ (h v' W ho hg hfr)
 simp only [execOp, effOp, resolve, invoke, builtin, Sem.run_bind, Sem.run_pure, Result.andThen_ok, List.map_toArray, List.map_cons, List.map_nil, hr]
end
theorem own_one {base e sz : Nat} {w : World} {v : Value} {xs : List Value} (h : Own base e sz w v xs) : v.cells = #[v] ∧ v.oneCell = true := by
 rcases h with ⟨rfl, _⟩ | ⟨g, off, n, cap, cur, rfl, _⟩ <;> exact ⟨rfl, rfl⟩
theorem own_cells {base e sz : Nat} {w : World} {v : Value} {xs : List Value} (h : Own base e sz w v xs) : Cells w v sz xs := by
 have his := h.isl
 rcases h with ⟨rfl, rfl⟩ | ⟨g, off, n, cap, cur, rfl, hb, hg, hl, hc, hm, hs, ht⟩
 ·exact ⟨rfl, by simp [slLen], fun j hj => by simp at hj⟩
 ·refine ⟨his, hl, fun j hj => ?_⟩
  have h2 : ((cur.toList.drop off).take (n * sz))[j]? = xs[j]? := by rw [ht]
  rw [List.getElem?_take, if_pos (by omega), List.getElem?_drop] at h2
  simp only [slAddr, add_lit, World.cell?, hg]
  simpa [hj] using h2
theorem Own.same' {base e sz : Nat} {w w' : World} {v : Value} {xs : List Value} (h : Own base e sz w v xs) (hk : ∀ k, v.ownBlock = some k → w'.heap[k]? = w.heap[k]?) : Own base e sz w' v xs := by
 rcases h with h | ⟨g, off, n, cap, cur, rfl, hb, hg, r⟩
 ·exact .inl h
 ·exact .inr ⟨g, off, n, cap, cur, rfl, hb, (hk g rfl).trans hg, r⟩
structure CJ (w : World) (keep : Nat → Prop) (W1 : World) (S l Db : Nat) (rec : Loop) (lv : Value) (xs : List Int) (W : World) : Prop where
 ext : Ext w W
 lp : LoopB W l Db rec
 bl : Blk W S #[lv] 35
 own : Own w.heap.size 3 1 W lv (xs.map encI)
 ne : ∀ k, lv.ownBlock = some k → k ≠ S ∧ k ≠ l ∧ k ≠ Db ∧ ¬ keep k
 kept : ∀ k, keep k → W.heap[k]? = W1.heap[k]?
 size : W1.heap.size ≤ W.heap.size
structure CF (w : World) (keep : Nat → Prop) (W1 : World) (S l Db : Nat) : Prop where
 lo : w.heap.size ≤ S ∧ w.heap.size ≤ l ∧ w.heap.size ≤ Db
 ne : S ≠ l ∧ S ≠ Db ∧ l ≠ Db
 nk : ¬ keep S ∧ ¬ keep l ∧ ¬ keep Db
 lt : ∀ k, keep k → k < W1.heap.size
section
variable {w W1 W W' W2 W3 W4 : World} {keep : Nat → Prop} {S l Db : Nat} {rec rec' : Loop} {lv lv' : Value} {xs ys : List Int}
theorem CJ.round (h : CJ w keep W1 S l Db rec lv xs W) (f : CF w keep W1 S l Db) (hO : Only l W W') (hL : LoopB W' l Db rec') : CJ w keep W1 S l Db rec' lv xs W' :=
 ⟨hO.ext h.ext f.lo.2.1, hL, hO.blk h.bl f.ne.1, Own.same' h.own fun k hk => hO.block k (h.ne k hk).2.1, h.ne, fun k hk => (hO.block k (fun e => f.nk.2.1 (e ▸ hk))).trans (h.kept k hk), by rw [hO.size]; exact h.size⟩
theorem CJ.new (h : CJ w keep W1 S l Db rec lv xs W) (f : CF w keep W1 S l Db) (hE : Ext W W') : CJ w keep W1 S l Db rec lv xs W' :=
 ⟨h.ext.trans' hE, h.lp.ext hE, h.bl.ext hE, h.own.ext hE, h.ne, fun k hk => (hE.block k (by have := f.lt k hk; have := h.size; omega)).trans (h.kept k hk), Nat.le_trans h.size hE.size⟩
theorem CJ.app (h : CJ w keep W1 S l Db rec lv xs W) (f : CF w keep W1 S l Db) (hE : Ext W W2) (hg : W2.grownBy W3 lv.ownBlock) (ho : Own w.heap.size 3 1 W3 lv' (ys.map encI)) (hf : lv'.ownBlock = lv.ownBlock ∨ lv'.ownBlock = some W2.heap.size)
  (hO : Only S W3 W4) (hb : Blk W4 S #[lv'] 35) : CJ w keep W1 S l Db rec lv' ys W4 := by
 have h2 := h.new f hE
 have lt := h2.lp.lt
 have lS := h2.bl.lt
 have z2 := h2.size
 have keepB : ∀ k, k < W2.heap.size → k ≠ S → lv.ownBlock ≠ some k → W4.heap[k]? = W2.heap[k]? := fun k hk hS hne => (hO.block k hS).trans (hg.block k hk (Ne.symm hne))
 have hs3 : w.heap.size ≤ W2.heap.size := h2.ext.size
 have hE3 : Ext w W3 := h2.ext.grown hg hs3 fun k hk => (h2.own.blk k hk).1
 have zg := hg.size
 have nl : lv.ownBlock ≠ some l := fun e => (h.ne l e).2.1 rfl
 have nD : lv.ownBlock ≠ some Db := fun e => (h.ne Db e).2.2.1 rfl
 have nn : ∀ k, lv'.ownBlock = some k → k ≠ S ∧ k ≠ l ∧ k ≠ Db ∧ ¬ keep k := by
  intro k hk
  rcases hf with e | e
  ·exact h.ne k (by rw [← e]; exact hk)
  ·rw [e] at hk
   cases hk
   exact ⟨by omega, by omega, by omega, fun hk => by have := f.lt _ hk; omega⟩
 refine ⟨hO.ext hE3 f.lo.1, h2.lp.keep (keepB l lt.1 (Ne.symm f.ne.1) nl) (keepB Db lt.2 (Ne.symm f.ne.2.1) nD), hb, Own.same' ho fun k hk => hO.block k (nn k hk).1, nn, fun k hk => ?_, ?_⟩
 ·exact (keepB k (by have := f.lt k hk; omega) (fun e => f.nk.1 (e ▸ hk)) (fun e => (h.ne k e).2.2.2 hk)).trans (h2.kept k hk)
 ·rw [hO.size]; omega
end
@[simp] theorem cb141 : callB Tryz.prog 141 = true := by kernel_rfl
@[simp] theorem cb133 : callB Tryz.prog 133 = true := by kernel_rfl
@[simp] theorem sz35 : sizeIs Tryz.prog 35 1 = true := by kernel_rfl
theorem m_refs113 (w : World) (f : Nat) : (method (Tryz.prog.types.size + Made.depth) 113 (ptr f) "argus/heap.refs").run Tryz.prog w = .ok (191, ptr f) w := by kernel_rfl
theorem m_refs108 (w : World) (f : Nat) : (method (Tryz.prog.types.size + Made.depth) 108 (ptr f) "argus/heap.refs").run Tryz.prog w = .ok (189, ptr f) w := by kernel_rfl
theorem raw_refs {cx : Cx} {g : Operand} {ps : Array Tmp} {assign body : Code} {K : Env → World → Prop} {Q : Ks} {ρ : Env} {w W0 : World} {base : Nat} {β : Lay} {n : Int} {o : MO} {f : Nat} {vv : Value} (hP : cx.P = Tryz.prog) (hD : cx.D ≠ [])
  (hg : evE ρ g = .func (.method "argus/heap.refs") #[.iface (tyOf o) (ptr f)] #[]) (hgV : fusedIn cx.V g = false) (ho : ThAt base W0 β n o f vv) (hv : Sl encI W0 vv o.vals) (hsm : o.vals.length < 4611686018427387904)
  (h : ∀ (a : Act) (r : Loop) (W1 : World), Agree cx.n cx.V ρ a → r.tmps = a.tmps → r.params = ps → r.assign = assign → r.body = body → r.state = .ready → r.pending = none → Ext w W1 → W1.heap.size = w.heap.size + 2 → LoopB W1 (w.heap.size + 1) w.heap.size r →
   ∃ J : List Int → World → Prop, (∀ xs W, J xs W → Ext W0 W) ∧ (∀ xs x r' W, o.refs = xs ++ x :: r' → J xs W → YieldR Tryz.prog (w.heap.size + 1) #[.int .i64 x] W fun e W' => e = .returned (.bool true) ∧ J (xs ++ [x]) W') ∧ J [] W1 ∧
    ∀ v W, J o.refs W → loopEnd cx (w.heap.size + 1) w.heap.size r K Q (upd ρ gS (consD (markD w.heap.size) (ρ gS))) (.returned v) W) :
  (IR.raw (.rangeFunc g ps assign body)).wp cx K Q ρ w := by
 cases ho with
 | fields kv h1 h2 h3 h4 h5 =>
  refine raw_rangeI (gf := 191) (v' := ptr f) hD hg hgV (by rw [hP]; exact cb191) (by rw [hP, tyOf, if_pos h1]; exact fun w => m_refs113 w f) fun a r W1 q1 q2 q3 q4 q5 q6 q7 q8 q9 q10 => ?_
  obtain ⟨J, j1, j2, j3, j4⟩ := h a r W1 q1 q2 q3 q4 q5 q6 q7 q8 q9 q10
  rw [hP]
  refine (it_fields h1 h2 h4 (h5.sl (by omega)) hv J j1 j2 j3).mono ?_
  rintro e w' ⟨⟨v, rfl⟩, hj⟩
  exact j4 v w' hj
 | array h1 h2 =>
  refine raw_rangeI (gf := 189) (v' := ptr f) hD hg hgV (by rw [hP]; exact cb189) (by rw [hP, tyOf, if_neg (by omega)]; exact fun w => m_refs108 w f) fun a r W1 q1 q2 q3 q4 q5 q6 q7 q8 q9 q10 => ?_
  obtain ⟨J, j1, j2, j3, j4⟩ := h a r W1 q1 q2 q3 q4 q5 q6 q7 q8 q9 q10
  rw [hP]
  refine (it_array h1 h2 hv J j1 j2 j3).mono ?_
  rintro e w' ⟨⟨v, rfl⟩, hj⟩
  exact j4 v w' hj
theorem refs_len (o : MO) : o.refs.length ≤ o.vals.length := by
 unfold MO.refs
 split
 ·rw [List.length_map]
  refine Nat.le_trans (List.length_filter_le _ _) ?_
  simp; exact Nat.min_le_right _ _
 ·split
  ·exact List.length_filter_le _ _
  ·simp
theorem t_AppendSeq {w : World} {base : Nat} {β : Lay} {n : Int} {o : MO} {f : Nat} {vv : Value} (ho : ThAt base w β n o f vv) (hv : Sl encI w vv o.vals) (hsm : o.vals.length ≤ 1000000) :
  Calls Tryz.prog 141 #[.slice none 0 0, .func (.method "argus/heap.refs") #[.iface (tyOf o) (ptr f)] #[]] w fun e w' => ∃ x, e = .returned x ∧ Own w.heap.size 3 1 w' x (o.refs.map encI) ∧ Ext w w' := by
 have hrl := refs_len o
 refine ir141_calls fun ρ r0 r1 rg => ?_
 have rg' : ρ 1000000000 = .tuple #[] := rg
 simp [ir141, r0]
 refine eff_box fun S W1 hS hE1 hb hs1 => ?_
 simp [r0, Value.cells] at hb
 simp [r1]
 obtain ⟨bA, bB, hrf, hpA, hpB⟩ := ir141_rf0
 rw [hrf]
 refine raw_refs (o := o) (f := f) (n := n) (β := β) (base := base) (W0 := w) rfl (by simp [dAny]) (by simp) (by decide) ho hv (by omega) fun a rec W2 hag hrt hrp hra hrb hrs hrpd hE2 hsz2 hL2 => ?_
 have lS := hb.lt
 have z1 := hE1.size
 have hF : CF w (fun _ => False) W2 S (W1.heap.size + 1) W1.heap.size := ⟨⟨by omega, by omega, by omega⟩, ⟨by omega, by omega, by omega⟩, ⟨id, id, id⟩, fun _ h => h.elim⟩
 refine ⟨fun xs W => ∃ lv, CJ w (fun _ => False) W2 S (W1.heap.size + 1) W1.heap.size rec lv xs W, fun xs W h => h.elim fun lv h => h.ext, fun xs x r' W hxr h => ?_, ⟨.slice none 0 0, hE1.trans' hE2, hL2, hb.ext hE2, Own.nil _ _ _ _, by simp [Value.ownBlock], fun _ h => h.elim, Nat.le_refl _⟩, fun v W h => ?_⟩
 ·obtain ⟨lv, h⟩ := h
  have hxl : xs.length + 1 ≤ o.refs.length := by rw [hxr]; simp
  refine yield_of h.lp hrs hag hrt hrp (by rfl) (by decide) (by rw [hra]; exact hpA) (by rw [hrb]; exact hpB) ?_
  simp [parEnv, ir141_a0]
  refine ⟨h.lp, fun W3 hO3 hL3 => ?_⟩
  have h3 := h.round hF hO3 hL3
  simp [ir141_b0, h3.bl.cell]
  refine eff_lit si35 (by decide) (by decide) (by simp [Value.cells]) fun B9 W4 hB9 hE4 hb9 _ => ?_
  simp [Value.cells] at hb9
  have h4 := h3.new hF hE4
  have hO9 : Own w.heap.size 3 1 W4 (.slice (some ⟨B9, 0, none⟩) 1 1) [.int .i64 x] := Own.lit hb9 rfl (by have := h3.ext.size; omega) (by decide)
  simp
  refine eff_appendG ri35 h4.ext.size (by simp) (by simp) h4.own (own_cells hO9) (by simp; rfl) (by simp; omega) (by simp; omega) fun lv' W5 ho5 hg5 hf5 => ?_
  have hone := own_one ho5
  have hbl5 : Blk W5 S #[lv] 35 := ⟨(hg5.block S h4.bl.lt (fun e => (h4.ne S e.symm).1 rfl)).trans h4.bl.heap⟩
  simp
  refine eff_store1 (B := S) (i := 0) (by simp) hbl5 (by simp) (by simpa using hone.1) (by simpa using hone.2) sz35 fun W6 hO6 hb6 => ?_
  simp at hb6
  have h6 := h4.app (ys := xs ++ [x]) hF (ext_refl _) hg5 (by simpa [encI] using ho5) hf5 hO6 hb6
  simp [roundK]
  refine ⟨h6.lp, fun W7 hO7 hL7 => ?_⟩
  exact ⟨lv', h6.round hF hO7 (hL7.ready hrs hrpd)⟩
 ·obtain ⟨lv, h⟩ := h
  refine ⟨.ready, none, by simp, h.lp.ready' hrs hrpd, fun W7 hO7 hL7 => ?_⟩
  have h7 := h.round hF hO7 hL7
  simp [ir141_k0, h7.bl.cell]
  refine end_mark (Db := W1.heap.size) (by simp [gS, rg']) hL7.col fun w8 hO8 => ?_
  simp
  exact ⟨Own.same' h7.own fun k hk => hO8.block k (h7.ne k hk).2.2.1, hO8.ext h7.ext hF.lo.2.2⟩
theorem t_Collect {w : World} {base : Nat} {β : Lay} {n : Int} {o : MO} {f : Nat} {vv : Value} (ho : ThAt base w β n o f vv) (hv : Sl encI w vv o.vals) (hsm : o.vals.length ≤ 1000000) :
  Calls Tryz.prog 133 #[.func (.method "argus/heap.refs") #[.iface (tyOf o) (ptr f)] #[]] w fun e w' => ∃ x, e = .returned x ∧ Own w.heap.size 3 1 w' x (o.refs.map encI) ∧ Ext w w' := by
 refine ir133_calls fun ρ r0 => ?_
 simp [ir133, r0]
 refine (t_AppendSeq ho hv hsm).mono ?_
 rintro _ w' ⟨x, rfl, hx, hE⟩
 simp
 exact ⟨hx, hE⟩
end Go.L17
