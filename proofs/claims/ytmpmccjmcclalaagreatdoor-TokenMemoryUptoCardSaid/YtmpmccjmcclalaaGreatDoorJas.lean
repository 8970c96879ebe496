/- Texts of mine for the claims about layer 1 (token), joined: L01Ia, L01Ib, L01Ic, L01Id, L01Ie. -/
import Derived.Test.YtmpmccjmcclalaaGreatDoorJar
import Derived.Test.YtmpmccjmcclalaaGreatDoorProg
import Derived.KernelRfl
set_option linter.all false
set_option linter.unusedSimpArgs false
set_option linter.unusedVariables false
/- Layer 1: readings: the laws' helpers, the public functions. -/
namespace Go.L01
open Go Go.Eng Go.Proofs
set_option maxRecDepth 100000
set_option maxHeartbeats 2000000
/-! ### 13: argus/token.IsName  params #[9] results #[4]  slots [(0, s)] -/
noncomputable def ir13 : IR :=
  .seq (.reg [.asg none 2 (.const (.bool false)),
     .asg none 11 (.ite (.op2 (.ibin .gtr .i64) (.op1 .lenT (.var 0)) (.const (.int .i64 0))) (.op2 (.ibin .leq .i64) (.op1 .lenT (.var 0)) (.const (.int .i64 12))) (.const (.bool false))),
     .asg (some (11, true)) 13 (.op2 .ixs (.var 0) (.const (.int .i64 0))),
     .eff (some (11, true)) (some 14) (.call { callee := .value (.func 38), args := #[(.tmp 13)], argTypes := #[52] }) 4,
     .asg none 16 (.ite (.var 11) (.var 14) (.const (.bool false))),
     .asg (some (16, true)) 17 (.var 0),
     .eff (some (16, true)) (some 18) (.call { callee := .value (.func 39), args := #[(.tmp 17), (.func 40)], argTypes := #[9, 54] }) 3,
     .asg none 21 (.ite (.var 16) (.op2 (.ibin .lss .i64) (.var 18) (.const (.int .i64 0))) (.const (.bool false))),
     .asg (some (21, true)) 22 (.var 0),
     .eff (some (21, true)) (some 23) (.call { callee := .value (.func 15), args := #[(.tmp 22)], argTypes := #[9] }) 4,
     .asg none 2 (.ite (.var 21) (.op1 .not (.var 23)) (.const (.bool false)))]) <|
  .ret
def ir13_V : List Nat := [0, 2, 11, 13, 14, 16, 17, 18, 21, 22, 23]
theorem ir13_ok : (comp Tryz.prog Tryz.f13.ntmps ir13_V [] (Tryz.f13.body.getD .skip)).map IR.norm = some ir13 := by kernel_rfl
theorem ir13_calls {v0 : Value} {w : World} {R : Ending → World → Prop} (h : ∀ ρ : Env, ρ 0 = v0 → ir13.wp ⟨Tryz.prog, 26, ir13_V, []⟩ (retK [.tmp 2] R) (ksOf [.tmp 2] R) ρ w) :
    Calls Tryz.prog 13 #[v0] w R := by
  obtain ⟨ir0, h1, h2⟩ := Option.map_eq_some_iff.1 ir13_ok
  exact calls_ir (args := #[v0]) Tryz.func13 (c := Tryz.f13.body.getD .skip) rfl h1 h2 (by kernel_rfl) (show rvsOf Tryz.prog ir13_V Tryz.f13.results.toList = some [.tmp 2] by kernel_rfl) (Nat.le_of_ble_eq_true rfl) (h _ rfl)

/-! ### 14: argus/argusref01.IsName  params #[9] results #[4]  slots [(0, s)] -/
noncomputable def ir14 : IR :=
  .seq (.reg [.asg none 2 (.const (.bool false)),
     .asg none 11 (.ite (.op2 (.ibin .gtr .i64) (.op1 .lenT (.var 0)) (.const (.int .i64 0))) (.op2 (.ibin .leq .i64) (.op1 .lenT (.var 0)) (.const (.int .i64 12))) (.const (.bool false))),
     .asg (some (11, true)) 13 (.op2 .ixs (.var 0) (.const (.int .i64 0))),
     .eff (some (11, true)) (some 14) (.call { callee := .value (.func 42), args := #[(.tmp 13)], argTypes := #[5] }) 4,
     .asg none 16 (.ite (.var 11) (.var 14) (.const (.bool false))),
     .asg (some (16, true)) 17 (.var 0),
     .eff (some (16, true)) (some 18) (.call { callee := .value (.func 43), args := #[(.tmp 17)], argTypes := #[9] }) 3,
     .asg none 23 (.ite (.var 16) (.op2 (.ibin .eql .i64) (.var 18) (.op1 .lenT (.var 0))) (.const (.bool false))),
     .asg (some (23, true)) 24 (.var 0),
     .eff (some (23, true)) (some 25) (.call { callee := .value (.func 16), args := #[(.tmp 24)], argTypes := #[9] }) 4,
     .asg none 2 (.ite (.var 23) (.op1 .not (.var 25)) (.const (.bool false)))]) <|
  .ret
def ir14_V : List Nat := [0, 2, 11, 13, 14, 16, 17, 18, 23, 24, 25]
theorem ir14_ok : (comp Tryz.prog Tryz.f14.ntmps ir14_V [] (Tryz.f14.body.getD .skip)).map IR.norm = some ir14 := by kernel_rfl
theorem ir14_calls {v0 : Value} {w : World} {R : Ending → World → Prop} (h : ∀ ρ : Env, ρ 0 = v0 → ir14.wp ⟨Tryz.prog, 28, ir14_V, []⟩ (retK [.tmp 2] R) (ksOf [.tmp 2] R) ρ w) :
    Calls Tryz.prog 14 #[v0] w R := by
  obtain ⟨ir0, h1, h2⟩ := Option.map_eq_some_iff.1 ir14_ok
  exact calls_ir (args := #[v0]) Tryz.func14 (c := Tryz.f14.body.getD .skip) rfl h1 h2 (by kernel_rfl) (show rvsOf Tryz.prog ir14_V Tryz.f14.results.toList = some [.tmp 2] by kernel_rfl) (Nat.le_of_ble_eq_true rfl) (h _ rfl)

/-! ### 15: argus/token.IsWord  params #[9] results #[4]  slots [(0, s)] -/
noncomputable def ir15 : IR :=
  .seq (.reg [.asg none 2 (.const (.bool false)),
     .eff none (some 3) (.call { callee := .value (.func 44), args := #[], argTypes := #[] }) 57,
     .asg none 4 (.var 0),
     .eff none (some 5) (.lookup 57 (.tmp 3) (.tmp 4) false) 4,
     .asg none 2 (.var 5)]) <|
  .ret
def ir15_V : List Nat := [0, 2, 3, 4, 5]
theorem ir15_ok : (comp Tryz.prog Tryz.f15.ntmps ir15_V [] (Tryz.f15.body.getD .skip)).map IR.norm = some ir15 := by kernel_rfl
theorem ir15_calls {v0 : Value} {w : World} {R : Ending → World → Prop} (h : ∀ ρ : Env, ρ 0 = v0 → ir15.wp ⟨Tryz.prog, 6, ir15_V, []⟩ (retK [.tmp 2] R) (ksOf [.tmp 2] R) ρ w) :
    Calls Tryz.prog 15 #[v0] w R := by
  obtain ⟨ir0, h1, h2⟩ := Option.map_eq_some_iff.1 ir15_ok
  exact calls_ir (args := #[v0]) Tryz.func15 (c := Tryz.f15.body.getD .skip) rfl h1 h2 (by kernel_rfl) (show rvsOf Tryz.prog ir15_V Tryz.f15.results.toList = some [.tmp 2] by kernel_rfl) (Nat.le_of_ble_eq_true rfl) (h _ rfl)

/-! ### 16: argus/argusref01.IsWord  params #[9] results #[4]  slots [(0, s)] -/
noncomputable def ir16 : IR :=
  .seq (.reg [.asg none 2 (.const (.bool false)),
     .eff none (some 3) (.call { callee := .value (.func 19), args := #[], argTypes := #[] }) 25,
     .asg none 4 (.var 0),
     .eff none (some 5) (.call { callee := .value (.func 45), args := #[(.tmp 3), (.tmp 4)], argTypes := #[25, 9] }) 4,
     .asg none 2 (.var 5)]) <|
  .ret
def ir16_V : List Nat := [0, 2, 3, 4, 5]
theorem ir16_ok : (comp Tryz.prog Tryz.f16.ntmps ir16_V [] (Tryz.f16.body.getD .skip)).map IR.norm = some ir16 := by kernel_rfl
theorem ir16_calls {v0 : Value} {w : World} {R : Ending → World → Prop} (h : ∀ ρ : Env, ρ 0 = v0 → ir16.wp ⟨Tryz.prog, 6, ir16_V, []⟩ (retK [.tmp 2] R) (ksOf [.tmp 2] R) ρ w) :
    Calls Tryz.prog 16 #[v0] w R := by
  obtain ⟨ir0, h1, h2⟩ := Option.map_eq_some_iff.1 ir16_ok
  exact calls_ir (args := #[v0]) Tryz.func16 (c := Tryz.f16.body.getD .skip) rfl h1 h2 (by kernel_rfl) (show rvsOf Tryz.prog ir16_V Tryz.f16.results.toList = some [.tmp 2] by kernel_rfl) (Nat.le_of_ble_eq_true rfl) (h _ rfl)

/-! ### 17: argus/argusref01.SameStrings  params #[25, 25] results #[4]  slots [(0, a), (1, b), (5, i)] -/
noncomputable def ir17_k0 : IR :=
  .cond (.var 25)
   (.seq (.reg [.asg none 4 (.const (.bool false))]) <|
    .ret)
   (.skip)
noncomputable def ir17_k1 : IR :=
  .reg [.asg none 5 (.op2 (.ibin .add .i64) (.var 5) (.const (.int .i64 1)))]
noncomputable def ir17_k2 : IR :=
  .seq (.block 1 (.seq (.drw [.asg none 25 (.op2 (.sbin .neq) (.op1 .load1 (.op2 (.ixa 1) (.var 0) (.var 5))) (.op1 .load1 (.op2 (.ixa 1) (.var 1) (.var 5))))])
    (ir17_k0)))
  (ir17_k1)
noncomputable def ir17_l3 : IR :=
  .seq (.reg [.asg none 14 (.op2 (.ibin .lss .i64) (.var 5) (.op1 .lenS (.var 0)))]) <|
  .seq (.cond (.var 14)
    (.skip)
    (.exit 0))
  (ir17_k2)
noncomputable def ir17_k4 : IR :=
  .seq (.reg [.asg none 4 (.const (.bool true))]) <|
  .ret
noncomputable def ir17_k5 : IR :=
  .seq (.reg [.asg none 5 (.const (.int .i64 0))]) <|
  .seq (.block 0 (.loop ir17_l3))
  (ir17_k4)
noncomputable def ir17 : IR :=
  .seq (.reg [.asg none 4 (.const (.bool false)),
     .asg none 10 (.op2 (.ibin .neq .i64) (.op1 .lenS (.var 0)) (.op1 .lenS (.var 1)))]) <|
  .seq (.cond (.var 10)
    (.seq (.reg [.asg none 4 (.const (.bool false))]) <|
     .ret)
    (.skip))
  (ir17_k5)
def ir17_V : List Nat := [0, 1, 4, 5, 10, 14, 25]
theorem ir17_ok : (comp Tryz.prog Tryz.f17.ntmps ir17_V [] (Tryz.f17.body.getD .skip)).map IR.norm = some ir17 := by kernel_rfl
theorem ir17_calls {v0 v1 : Value} {w : World} {R : Ending → World → Prop} (h : ∀ ρ : Env, ρ 0 = v0 → ρ 1 = v1 → ir17.wp ⟨Tryz.prog, 26, ir17_V, []⟩ (retK [.tmp 4] R) (ksOf [.tmp 4] R) ρ w) :
    Calls Tryz.prog 17 #[v0, v1] w R := by
  obtain ⟨ir0, h1, h2⟩ := Option.map_eq_some_iff.1 ir17_ok
  exact calls_ir (args := #[v0, v1]) Tryz.func17 (c := Tryz.f17.body.getD .skip) rfl h1 h2 (by kernel_rfl) (show rvsOf Tryz.prog ir17_V Tryz.f17.results.toList = some [.tmp 4] by kernel_rfl) (Nat.le_of_ble_eq_true rfl) (h _ rfl rfl)

/-! ### 18: argus/token.Words  params #[] results #[25]  slots [] -/
noncomputable def ir18 : IR :=
  .seq (.reg [.asg none 0 (.const (.slice none 0 0)),
     .eff none (some 1) (.call { callee := .value (.func 46), args := #[(.const (.string ⟨#[97, 110, 100, 32, 97, 114, 114, 97, 121, 32, 98, 101, 103, 105, 110, 32, 98, 111, 111, 108, 32, 98, 114, 101, 97, 107, 32, 99, 108, 117, 115, 116, 101, 114, 32, 100, 111, 32, 100, 111, 119, 110, 32, 101, 108, 115, 101, 32, 101, 108, 115, 101, 105, 102, 32, 101, 110, 100, 32, 101, 120, 99, 101, 112, 116, 32, 102, 97, 108, 115, 101, 32, 102, 111, 114, 32, 104, 97, 115, 32, 105, 102, 32, 105, 110, 32, 105, 110, 116, 32, 105, 115, 32, 105, 116, 101, 114, 32, 109, 111, 100, 32, 110, 105, 108, 32, 110, 111, 116, 32, 110, 117, 108, 108, 32, 111, 110, 101, 111, 102, 32, 111, 114, 32, 111, 116, 104, 101, 114, 115, 32, 112, 114, 111, 99, 32, 112, 117, 116, 32, 114, 101, 99, 111, 114, 100, 32, 114, 101, 112, 32, 114, 101, 116, 117, 114, 110, 32, 114, 101, 116, 117, 114, 110, 115, 32, 115, 105, 103, 110, 97, 108, 32, 115, 105, 103, 110, 97, 108, 115, 32, 116, 97, 103, 32, 116, 97, 103, 99, 97, 115, 101, 32, 116, 104, 101, 110, 32, 116, 114, 117, 101, 32, 117, 112, 32, 118, 97, 114, 32, 119, 104, 101, 110, 32, 119, 104, 101, 114, 101, 32, 119, 104, 105, 108, 101, 32, 121, 105, 101, 108, 100, 32, 121, 105, 101, 108, 100, 115]⟩))], argTypes := #[9] }) 25,
     .asg none 0 (.var 1)]) <|
  .ret
def ir18_V : List Nat := [0, 1]
theorem ir18_ok : (comp Tryz.prog Tryz.f18.ntmps ir18_V [] (Tryz.f18.body.getD .skip)).map IR.norm = some ir18 := by kernel_rfl
theorem ir18_calls {w : World} {R : Ending → World → Prop} (h : ∀ ρ : Env, ir18.wp ⟨Tryz.prog, 2, ir18_V, []⟩ (retK [.tmp 0] R) (ksOf [.tmp 0] R) ρ w) :
    Calls Tryz.prog 18 #[] w R := by
  obtain ⟨ir0, h1, h2⟩ := Option.map_eq_some_iff.1 ir18_ok
  exact calls_ir (args := #[]) Tryz.func18 (c := Tryz.f18.body.getD .skip) rfl h1 h2 (by kernel_rfl) (show rvsOf Tryz.prog ir18_V Tryz.f18.results.toList = some [.tmp 0] by kernel_rfl) (Nat.le_of_ble_eq_true rfl) (h _ )

/-! ### 19: argus/argusref01.Words  params #[] results #[25]  slots [] -/
noncomputable def ir19 : IR :=
  .seq (.reg [.asg none 0 (.const (.slice none 0 0)),
     .eff none (some 1) (.buildSlice 25 46 #[(0, (.const (.string ⟨#[97, 110, 100]⟩))), (1, (.const (.string ⟨#[97, 114, 114, 97, 121]⟩))), (2, (.const (.string ⟨#[98, 101, 103, 105, 110]⟩))), (3, (.const (.string ⟨#[98, 111, 111, 108]⟩))), (4, (.const (.string ⟨#[98, 114, 101, 97, 107]⟩))), (5, (.const (.string ⟨#[99, 108, 117, 115, 116, 101, 114]⟩))), (6, (.const (.string ⟨#[100, 111]⟩))), (7, (.const (.string ⟨#[100, 111, 119, 110]⟩))), (8, (.const (.string ⟨#[101, 108, 115, 101]⟩))), (9, (.const (.string ⟨#[101, 108, 115, 101, 105, 102]⟩))), (10, (.const (.string ⟨#[101, 110, 100]⟩))), (11, (.const (.string ⟨#[101, 120, 99, 101, 112, 116]⟩))), (12, (.const (.string ⟨#[102, 97, 108, 115, 101]⟩))), (13, (.const (.string ⟨#[102, 111, 114]⟩))), (14, (.const (.string ⟨#[104, 97, 115]⟩))), (15, (.const (.string ⟨#[105, 102]⟩))), (16, (.const (.string ⟨#[105, 110]⟩))), (17, (.const (.string ⟨#[105, 110, 116]⟩))), (18, (.const (.string ⟨#[105, 115]⟩))), (19, (.const (.string ⟨#[105, 116, 101, 114]⟩))), (20, (.const (.string ⟨#[109, 111, 100]⟩))), (21, (.const (.string ⟨#[110, 105, 108]⟩))), (22, (.const (.string ⟨#[110, 111, 116]⟩))), (23, (.const (.string ⟨#[110, 117, 108, 108]⟩))), (24, (.const (.string ⟨#[111, 110, 101, 111, 102]⟩))), (25, (.const (.string ⟨#[111, 114]⟩))), (26, (.const (.string ⟨#[111, 116, 104, 101, 114, 115]⟩))), (27, (.const (.string ⟨#[112, 114, 111, 99]⟩))), (28, (.const (.string ⟨#[112, 117, 116]⟩))), (29, (.const (.string ⟨#[114, 101, 99, 111, 114, 100]⟩))), (30, (.const (.string ⟨#[114, 101, 112]⟩))), (31, (.const (.string ⟨#[114, 101, 116, 117, 114, 110]⟩))), (32, (.const (.string ⟨#[114, 101, 116, 117, 114, 110, 115]⟩))), (33, (.const (.string ⟨#[115, 105, 103, 110, 97, 108]⟩))), (34, (.const (.string ⟨#[115, 105, 103, 110, 97, 108, 115]⟩))), (35, (.const (.string ⟨#[116, 97, 103]⟩))), (36, (.const (.string ⟨#[116, 97, 103, 99, 97, 115, 101]⟩))), (37, (.const (.string ⟨#[116, 104, 101, 110]⟩))), (38, (.const (.string ⟨#[116, 114, 117, 101]⟩))), (39, (.const (.string ⟨#[117, 112]⟩))), (40, (.const (.string ⟨#[118, 97, 114]⟩))), (41, (.const (.string ⟨#[119, 104, 101, 110]⟩))), (42, (.const (.string ⟨#[119, 104, 101, 114, 101]⟩))), (43, (.const (.string ⟨#[119, 104, 105, 108, 101]⟩))), (44, (.const (.string ⟨#[121, 105, 101, 108, 100]⟩))), (45, (.const (.string ⟨#[121, 105, 101, 108, 100, 115]⟩)))]) 25,
     .asg none 0 (.var 1)]) <|
  .ret
def ir19_V : List Nat := [0, 1]
theorem ir19_ok : (comp Tryz.prog Tryz.f19.ntmps ir19_V [] (Tryz.f19.body.getD .skip)).map IR.norm = some ir19 := by kernel_rfl
theorem ir19_calls {w : World} {R : Ending → World → Prop} (h : ∀ ρ : Env, ir19.wp ⟨Tryz.prog, 2, ir19_V, []⟩ (retK [.tmp 0] R) (ksOf [.tmp 0] R) ρ w) :
    Calls Tryz.prog 19 #[] w R := by
  obtain ⟨ir0, h1, h2⟩ := Option.map_eq_some_iff.1 ir19_ok
  exact calls_ir (args := #[]) Tryz.func19 (c := Tryz.f19.body.getD .skip) rfl h1 h2 (by kernel_rfl) (show rvsOf Tryz.prog ir19_V Tryz.f19.results.toList = some [.tmp 0] by kernel_rfl) (Nat.le_of_ble_eq_true rfl) (h _ )

/-! ### 20: argus/token.Signs  params #[] results #[25]  slots [(1, l)] -/
noncomputable def ir20 : IR :=
  .seq (.reg [.asg none 0 (.const (.slice none 0 0)),
     .eff none (some 2) (.call { callee := .value (.func 46), args := #[(.const (.string ⟨#[36, 32, 40, 32, 41, 32, 42, 32, 43, 32, 44, 32, 45, 32, 46, 32, 47, 32, 58, 32, 58, 61, 32, 59, 32, 60, 32, 60, 61, 32, 61, 32, 63, 32, 91, 32, 93, 32, 95, 32, 123, 32, 125]⟩))], argTypes := #[9] }) 25,
     .asg none 1 (.var 2),
     .asg none 3 (.var 1),
     .eff none (some 4) (.call { callee := .value (.func 47), args := #[(.tmp 3)], argTypes := #[25] }) 0,
     .asg none 0 (.var 1)]) <|
  .ret
def ir20_V : List Nat := [0, 1, 2, 3, 4]
theorem ir20_ok : (comp Tryz.prog Tryz.f20.ntmps ir20_V [] (Tryz.f20.body.getD .skip)).map IR.norm = some ir20 := by kernel_rfl
theorem ir20_calls {w : World} {R : Ending → World → Prop} (h : ∀ ρ : Env, ir20.wp ⟨Tryz.prog, 6, ir20_V, []⟩ (retK [.tmp 0] R) (ksOf [.tmp 0] R) ρ w) :
    Calls Tryz.prog 20 #[] w R := by
  obtain ⟨ir0, h1, h2⟩ := Option.map_eq_some_iff.1 ir20_ok
  exact calls_ir (args := #[]) Tryz.func20 (c := Tryz.f20.body.getD .skip) rfl h1 h2 (by kernel_rfl) (show rvsOf Tryz.prog ir20_V Tryz.f20.results.toList = some [.tmp 0] by kernel_rfl) (Nat.le_of_ble_eq_true rfl) (h _ )

/-! ### 21: argus/argusref01.Signs  params #[] results #[25]  slots [] -/
noncomputable def ir21 : IR :=
  .seq (.reg [.asg none 0 (.const (.slice none 0 0)),
     .eff none (some 1) (.buildSlice 25 21 #[(0, (.const (.string ⟨#[36]⟩))), (1, (.const (.string ⟨#[40]⟩))), (2, (.const (.string ⟨#[41]⟩))), (3, (.const (.string ⟨#[42]⟩))), (4, (.const (.string ⟨#[43]⟩))), (5, (.const (.string ⟨#[44]⟩))), (6, (.const (.string ⟨#[45]⟩))), (7, (.const (.string ⟨#[46]⟩))), (8, (.const (.string ⟨#[47]⟩))), (9, (.const (.string ⟨#[58]⟩))), (10, (.const (.string ⟨#[58, 61]⟩))), (11, (.const (.string ⟨#[59]⟩))), (12, (.const (.string ⟨#[60]⟩))), (13, (.const (.string ⟨#[60, 61]⟩))), (14, (.const (.string ⟨#[61]⟩))), (15, (.const (.string ⟨#[63]⟩))), (16, (.const (.string ⟨#[91]⟩))), (17, (.const (.string ⟨#[93]⟩))), (18, (.const (.string ⟨#[95]⟩))), (19, (.const (.string ⟨#[123]⟩))), (20, (.const (.string ⟨#[125]⟩)))]) 25,
     .asg none 0 (.var 1)]) <|
  .ret
def ir21_V : List Nat := [0, 1]
theorem ir21_ok : (comp Tryz.prog Tryz.f21.ntmps ir21_V [] (Tryz.f21.body.getD .skip)).map IR.norm = some ir21 := by kernel_rfl
theorem ir21_calls {w : World} {R : Ending → World → Prop} (h : ∀ ρ : Env, ir21.wp ⟨Tryz.prog, 2, ir21_V, []⟩ (retK [.tmp 0] R) (ksOf [.tmp 0] R) ρ w) :
    Calls Tryz.prog 21 #[] w R := by
  obtain ⟨ir0, h1, h2⟩ := Option.map_eq_some_iff.1 ir21_ok
  exact calls_ir (args := #[]) Tryz.func21 (c := Tryz.f21.body.getD .skip) rfl h1 h2 (by kernel_rfl) (show rvsOf Tryz.prog ir21_V Tryz.f21.results.toList = some [.tmp 0] by kernel_rfl) (Nat.le_of_ble_eq_true rfl) (h _ )

/-! ### 22: argus/arguslaw01.short  params #[25] results #[4]  slots [(0, l), (3, i)] -/
noncomputable def ir22_k0 : IR :=
  .reg [.asg none 3 (.op2 (.ibin .add .i64) (.var 3) (.const (.int .i64 1)))]
noncomputable def ir22_k1 : IR :=
  .seq (.block 1 (.seq (.reg [.asg none 31 (.ite (.ite (.op2 (.ibin .gtr .i64) (.op1 .lenT (.op1 .load1 (.op2 (.ixa 1) (.var 0) (.var 3)))) (.const (.int .i64 1500))) (.op2 (.ibin .leq .i64) (.op1 .lenT (.op1 .load1 (.op2 (.ixa 1) (.var 0) (.var 3)))) (.const (.int .i64 20000))) (.const (.bool false))) (.const (.bool true)) (.op2 (.ibin .gtr .i64) (.op1 .lenT (.op1 .load1 (.op2 (.ixa 1) (.var 0) (.var 3)))) (.const (.int .i64 20100))))]) <|
    .cond (.var 31)
     (.seq (.reg [.asg none 2 (.const (.bool false))]) <|
      .ret)
     (.skip)))
  (ir22_k0)
noncomputable def ir22_l2 : IR :=
  .seq (.reg [.asg none 7 (.op2 (.ibin .lss .i64) (.var 3) (.op1 .lenS (.var 0)))]) <|
  .seq (.cond (.var 7)
    (.skip)
    (.exit 0))
  (ir22_k1)
noncomputable def ir22_k3 : IR :=
  .seq (.reg [.asg none 2 (.const (.bool true))]) <|
  .ret
noncomputable def ir22 : IR :=
  .seq (.reg [.asg none 2 (.const (.bool false)),
     .asg none 3 (.const (.int .i64 0))]) <|
  .seq (.block 0 (.loop ir22_l2))
  (ir22_k3)
def ir22_V : List Nat := [0, 2, 3, 7, 31]
theorem ir22_ok : (comp Tryz.prog Tryz.f22.ntmps ir22_V [] (Tryz.f22.body.getD .skip)).map IR.norm = some ir22 := by kernel_rfl
theorem ir22_calls {v0 : Value} {w : World} {R : Ending → World → Prop} (h : ∀ ρ : Env, ρ 0 = v0 → ir22.wp ⟨Tryz.prog, 32, ir22_V, []⟩ (retK [.tmp 2] R) (ksOf [.tmp 2] R) ρ w) :
    Calls Tryz.prog 22 #[v0] w R := by
  obtain ⟨ir0, h1, h2⟩ := Option.map_eq_some_iff.1 ir22_ok
  exact calls_ir (args := #[v0]) Tryz.func22 (c := Tryz.f22.body.getD .skip) rfl h1 h2 (by kernel_rfl) (show rvsOf Tryz.prog ir22_V Tryz.f22.results.toList = some [.tmp 2] by kernel_rfl) (Nat.le_of_ble_eq_true rfl) (h _ rfl)

/-! ### 23: argus/token.Scan  params #[9] results #[28, 31]  slots [(0, src), (4, l), (5, _), (6, fault)] -/
noncomputable def ir23_body : Code := (Tryz.f23.body).getD .skip
noncomputable def ir23_k0 : IR :=
  .ret
noncomputable def ir23 : IR :=
  .seq (.reg [.asg none 2 (.const (.slice none 0 0)),
     .eff none (some 3) (.alloc 31) 0,
     .asg none 8 (.var 0),
     .eff none (some 9) (.call { callee := .value (.func 48), args := #[(.tmp 8)], argTypes := #[9] }) 62,
     .asg none 7 (.var 9),
     .asg none 10 (.op1 (.ext 0) (.var 7)),
     .asg none 11 (.op1 (.ext 1) (.var 7)),
     .asg none 12 (.op1 (.ext 2) (.var 7)),
     .eff none (some 6) (.alloc 31) 0,
     .asg none 4 (.var 10),
     .asg none 5 (.var 11),
     .eff none none (.store 31 (.tmp 6) (.tmp 12)) 0]) <|
  .seq (.raw (rawReg ir23_body 2))
  (ir23_k0)
def ir23_V : List Nat := [0, 2, 3, 4, 5, 6, 7, 8, 9, 10, 11, 12, 13, 14]
theorem ir23_ok : (comp Tryz.prog Tryz.f23.ntmps ir23_V [2] (Tryz.f23.body.getD .skip)).map IR.norm = some ir23 := by kernel_rfl
theorem ir23_calls {v0 : Value} {w : World} {R : Ending → World → Prop} (h : ∀ ρ : Env, ρ 0 = v0 → ir23.wp ⟨Tryz.prog, 15, ir23_V, []⟩ (retK [.tmp 2, .cellN 3 2] R) (ksOf [.tmp 2, .cellN 3 2] R) ρ w) :
    Calls Tryz.prog 23 #[v0] w R := by
  obtain ⟨ir0, h1, h2⟩ := Option.map_eq_some_iff.1 ir23_ok
  exact calls_ir (args := #[v0]) Tryz.func23 (c := Tryz.f23.body.getD .skip) rfl h1 h2 (by kernel_rfl) (show rvsOf Tryz.prog ir23_V Tryz.f23.results.toList = some [.tmp 2, .cellN 3 2] by kernel_rfl) (Nat.le_of_ble_eq_true rfl) (h _ rfl)
/-! 23 argus/token.Scan region 2: 4 operations, tail 3, size 5 -/
noncomputable def ir23_o2 : OT :=
  .take none 13 (.var 4) <|
  .take none 14 (.op1 (.loadN 2) (.var 6)) <|
  .take none 2 (.var 13) <|
  .step (.eff none none (.store 31 (.tmp 3) (.tmp 14)) 0) false <|
  .done
theorem ir23_o2_ok : ordOf Tryz.prog 15 ir23_V 3 (rawReg ir23_body 2) = some ir23_o2 := by kernel_rfl

/-! ### 24: argus/argusref01.Scan  params #[9] results #[28, 31]  slots [(0, src), (4, l), (5, _), (6, f)] -/
noncomputable def ir24_body : Code := (Tryz.f24.body).getD .skip
noncomputable def ir24_k0 : IR :=
  .ret
noncomputable def ir24 : IR :=
  .seq (.reg [.asg none 2 (.const (.slice none 0 0)),
     .eff none (some 3) (.alloc 31) 0,
     .asg none 8 (.var 0),
     .eff none (some 9) (.call { callee := .value (.func 49), args := #[(.tmp 8)], argTypes := #[9] }) 62,
     .asg none 7 (.var 9),
     .asg none 10 (.op1 (.ext 0) (.var 7)),
     .asg none 11 (.op1 (.ext 1) (.var 7)),
     .asg none 12 (.op1 (.ext 2) (.var 7)),
     .eff none (some 6) (.alloc 31) 0,
     .asg none 4 (.var 10),
     .asg none 5 (.var 11),
     .eff none none (.store 31 (.tmp 6) (.tmp 12)) 0]) <|
  .seq (.raw (rawReg ir24_body 2))
  (ir24_k0)
def ir24_V : List Nat := [0, 2, 3, 4, 5, 6, 7, 8, 9, 10, 11, 12, 13, 14]
theorem ir24_ok : (comp Tryz.prog Tryz.f24.ntmps ir24_V [2] (Tryz.f24.body.getD .skip)).map IR.norm = some ir24 := by kernel_rfl
theorem ir24_calls {v0 : Value} {w : World} {R : Ending → World → Prop} (h : ∀ ρ : Env, ρ 0 = v0 → ir24.wp ⟨Tryz.prog, 15, ir24_V, []⟩ (retK [.tmp 2, .cellN 3 2] R) (ksOf [.tmp 2, .cellN 3 2] R) ρ w) :
    Calls Tryz.prog 24 #[v0] w R := by
  obtain ⟨ir0, h1, h2⟩ := Option.map_eq_some_iff.1 ir24_ok
  exact calls_ir (args := #[v0]) Tryz.func24 (c := Tryz.f24.body.getD .skip) rfl h1 h2 (by kernel_rfl) (show rvsOf Tryz.prog ir24_V Tryz.f24.results.toList = some [.tmp 2, .cellN 3 2] by kernel_rfl) (Nat.le_of_ble_eq_true rfl) (h _ rfl)
/-! 24 argus/argusref01.Scan region 2: 4 operations, tail 3, size 5 -/
noncomputable def ir24_o2 : OT :=
  .take none 13 (.var 4) <|
  .take none 14 (.op1 (.loadN 2) (.var 6)) <|
  .take none 2 (.var 13) <|
  .step (.eff none none (.store 31 (.tmp 3) (.tmp 14)) 0) false <|
  .done
theorem ir24_o2_ok : ordOf Tryz.prog 15 ir24_V 3 (rawReg ir24_body 2) = some ir24_o2 := by kernel_rfl

/-! ### 25: argus/token.Comments  params #[9] results #[25, 31]  slots [(0, src), (4, _), (5, comments), (6, fault)] -/
noncomputable def ir25_body : Code := (Tryz.f25.body).getD .skip
noncomputable def ir25_k0 : IR :=
  .ret
noncomputable def ir25 : IR :=
  .seq (.reg [.asg none 2 (.const (.slice none 0 0)),
     .eff none (some 3) (.alloc 31) 0,
     .asg none 8 (.var 0),
     .eff none (some 9) (.call { callee := .value (.func 48), args := #[(.tmp 8)], argTypes := #[9] }) 62,
     .asg none 7 (.var 9),
     .asg none 10 (.op1 (.ext 0) (.var 7)),
     .asg none 11 (.op1 (.ext 1) (.var 7)),
     .asg none 12 (.op1 (.ext 2) (.var 7)),
     .eff none (some 6) (.alloc 31) 0,
     .asg none 4 (.var 10),
     .asg none 5 (.var 11),
     .eff none none (.store 31 (.tmp 6) (.tmp 12)) 0]) <|
  .seq (.raw (rawReg ir25_body 2))
  (ir25_k0)
def ir25_V : List Nat := [0, 2, 3, 4, 5, 6, 7, 8, 9, 10, 11, 12, 13, 14]
theorem ir25_ok : (comp Tryz.prog Tryz.f25.ntmps ir25_V [2] (Tryz.f25.body.getD .skip)).map IR.norm = some ir25 := by kernel_rfl
theorem ir25_calls {v0 : Value} {w : World} {R : Ending → World → Prop} (h : ∀ ρ : Env, ρ 0 = v0 → ir25.wp ⟨Tryz.prog, 15, ir25_V, []⟩ (retK [.tmp 2, .cellN 3 2] R) (ksOf [.tmp 2, .cellN 3 2] R) ρ w) :
    Calls Tryz.prog 25 #[v0] w R := by
  obtain ⟨ir0, h1, h2⟩ := Option.map_eq_some_iff.1 ir25_ok
  exact calls_ir (args := #[v0]) Tryz.func25 (c := Tryz.f25.body.getD .skip) rfl h1 h2 (by kernel_rfl) (show rvsOf Tryz.prog ir25_V Tryz.f25.results.toList = some [.tmp 2, .cellN 3 2] by kernel_rfl) (Nat.le_of_ble_eq_true rfl) (h _ rfl)
/-! 25 argus/token.Comments region 2: 4 operations, tail 3, size 5 -/
noncomputable def ir25_o2 : OT :=
  .take none 13 (.var 5) <|
  .take none 14 (.op1 (.loadN 2) (.var 6)) <|
  .take none 2 (.var 13) <|
  .step (.eff none none (.store 31 (.tmp 3) (.tmp 14)) 0) false <|
  .done
theorem ir25_o2_ok : ordOf Tryz.prog 15 ir25_V 3 (rawReg ir25_body 2) = some ir25_o2 := by kernel_rfl

/-! ### 26: argus/argusref01.Comments  params #[9] results #[25, 31]  slots [(0, src), (4, _), (5, c), (6, f)] -/
noncomputable def ir26_body : Code := (Tryz.f26.body).getD .skip
noncomputable def ir26_k0 : IR :=
  .ret
noncomputable def ir26 : IR :=
  .seq (.reg [.asg none 2 (.const (.slice none 0 0)),
     .eff none (some 3) (.alloc 31) 0,
     .asg none 8 (.var 0),
     .eff none (some 9) (.call { callee := .value (.func 49), args := #[(.tmp 8)], argTypes := #[9] }) 62,
     .asg none 7 (.var 9),
     .asg none 10 (.op1 (.ext 0) (.var 7)),
     .asg none 11 (.op1 (.ext 1) (.var 7)),
     .asg none 12 (.op1 (.ext 2) (.var 7)),
     .eff none (some 6) (.alloc 31) 0,
     .asg none 4 (.var 10),
     .asg none 5 (.var 11),
     .eff none none (.store 31 (.tmp 6) (.tmp 12)) 0]) <|
  .seq (.raw (rawReg ir26_body 2))
  (ir26_k0)
def ir26_V : List Nat := [0, 2, 3, 4, 5, 6, 7, 8, 9, 10, 11, 12, 13, 14]
theorem ir26_ok : (comp Tryz.prog Tryz.f26.ntmps ir26_V [2] (Tryz.f26.body.getD .skip)).map IR.norm = some ir26 := by kernel_rfl
theorem ir26_calls {v0 : Value} {w : World} {R : Ending → World → Prop} (h : ∀ ρ : Env, ρ 0 = v0 → ir26.wp ⟨Tryz.prog, 15, ir26_V, []⟩ (retK [.tmp 2, .cellN 3 2] R) (ksOf [.tmp 2, .cellN 3 2] R) ρ w) :
    Calls Tryz.prog 26 #[v0] w R := by
  obtain ⟨ir0, h1, h2⟩ := Option.map_eq_some_iff.1 ir26_ok
  exact calls_ir (args := #[v0]) Tryz.func26 (c := Tryz.f26.body.getD .skip) rfl h1 h2 (by kernel_rfl) (show rvsOf Tryz.prog ir26_V Tryz.f26.results.toList = some [.tmp 2, .cellN 3 2] by kernel_rfl) (Nat.le_of_ble_eq_true rfl) (h _ rfl)
/-! 26 argus/argusref01.Comments region 2: 4 operations, tail 3, size 5 -/
noncomputable def ir26_o2 : OT :=
  .take none 13 (.var 5) <|
  .take none 14 (.op1 (.loadN 2) (.var 6)) <|
  .take none 2 (.var 13) <|
  .step (.eff none none (.store 31 (.tmp 3) (.tmp 14)) 0) false <|
  .done
theorem ir26_o2_ok : ordOf Tryz.prog 15 ir26_V 3 (rawReg ir26_body 2) = some ir26_o2 := by kernel_rfl

/-! ### 27: argus/argusref01.Same  params #[28, 28] results #[4]  slots [(0, a), (1, b), (5, i)] -/
noncomputable def ir27_body : Code := (Tryz.f27.body).getD .skip
noncomputable def ir27_k0 : IR :=
  .cond (.var 25)
   (.seq (.reg [.asg none 4 (.const (.bool false))]) <|
    .ret)
   (.skip)
noncomputable def ir27_k1 : IR :=
  .reg [.asg none 5 (.op2 (.ibin .add .i64) (.var 5) (.const (.int .i64 1)))]
noncomputable def ir27_k2 : IR :=
  .seq (.block 1 (.seq (.raw (rawReg ir27_body 6))
    (ir27_k0)))
  (ir27_k1)
noncomputable def ir27_l3 : IR :=
  .seq (.reg [.asg none 14 (.op2 (.ibin .lss .i64) (.var 5) (.op1 .lenS (.var 0)))]) <|
  .seq (.cond (.var 14)
    (.skip)
    (.exit 0))
  (ir27_k2)
noncomputable def ir27_k4 : IR :=
  .seq (.reg [.asg none 4 (.const (.bool true))]) <|
  .ret
noncomputable def ir27_k5 : IR :=
  .seq (.reg [.asg none 5 (.const (.int .i64 0))]) <|
  .seq (.block 0 (.loop ir27_l3))
  (ir27_k4)
noncomputable def ir27 : IR :=
  .seq (.reg [.asg none 4 (.const (.bool false)),
     .asg none 10 (.op2 (.ibin .neq .i64) (.op1 .lenS (.var 0)) (.op1 .lenS (.var 1)))]) <|
  .seq (.cond (.var 10)
    (.seq (.reg [.asg none 4 (.const (.bool false))]) <|
     .ret)
    (.skip))
  (ir27_k5)
def ir27_V : List Nat := [0, 1, 4, 5, 10, 14, 17, 18, 19, 20, 21, 22, 23, 24, 25]
theorem ir27_ok : (comp Tryz.prog Tryz.f27.ntmps ir27_V [6] (Tryz.f27.body.getD .skip)).map IR.norm = some ir27 := by kernel_rfl
theorem ir27_calls {v0 v1 : Value} {w : World} {R : Ending → World → Prop} (h : ∀ ρ : Env, ρ 0 = v0 → ρ 1 = v1 → ir27.wp ⟨Tryz.prog, 26, ir27_V, []⟩ (retK [.tmp 4] R) (ksOf [.tmp 4] R) ρ w) :
    Calls Tryz.prog 27 #[v0, v1] w R := by
  obtain ⟨ir0, h1, h2⟩ := Option.map_eq_some_iff.1 ir27_ok
  exact calls_ir (args := #[v0, v1]) Tryz.func27 (c := Tryz.f27.body.getD .skip) rfl h1 h2 (by kernel_rfl) (show rvsOf Tryz.prog ir27_V Tryz.f27.results.toList = some [.tmp 4] by kernel_rfl) (Nat.le_of_ble_eq_true rfl) (h _ rfl rfl)
/-! 27 argus/argusref01.Same region 6: 9 operations, tail 8, size 10 -/
noncomputable def ir27_o6 : OT :=
  .take none 17 (.var 0) <|
  .take none 18 (.var 5) <|
  .take none 19 (.op2 (.ixa 3) (.var 17) (.var 18)) <|
  .take none 20 (.op1 (.loadN 3) (.var 19)) <|
  .take none 21 (.var 1) <|
  .take none 22 (.var 5) <|
  .take none 23 (.op2 (.ixa 3) (.var 21) (.var 22)) <|
  .take none 24 (.op1 (.loadN 3) (.var 23)) <|
  .step (.eff none (some 25) (.binOp .neq 38 (.tmp 20) (.tmp 24) 38) 4) false <|
  .done
theorem ir27_o6_ok : ordOf Tryz.prog 26 ir27_V 8 (rawReg ir27_body 6) = some ir27_o6 := by kernel_rfl

/-! ### 28: argus/arguslaw01.few  params #[28] results #[4]  slots [(0, l), (3, i)] -/
noncomputable def ir28_k0 : IR :=
  .reg [.asg none 3 (.op2 (.ibin .add .i64) (.var 3) (.const (.int .i64 1)))]
noncomputable def ir28_k1 : IR :=
  .seq (.block 1 (.seq (.reg [.asg none 20 (.op2 (.ibin .gtr .i64) (.op1 .lenT (.op1 .load1 (.op1 (.fadr 1) (.op2 (.ixa 3) (.var 0) (.var 3))))) (.const (.int .i64 40)))]) <|
    .cond (.var 20)
     (.seq (.reg [.asg none 2 (.const (.bool false))]) <|
      .ret)
     (.skip)))
  (ir28_k0)
noncomputable def ir28_l2 : IR :=
  .seq (.reg [.asg none 11 (.ite (.op2 (.ibin .lss .i64) (.var 3) (.op1 .lenS (.var 0))) (.op2 (.ibin .lss .i64) (.var 3) (.const (.int .i64 400))) (.const (.bool false)))]) <|
  .seq (.cond (.var 11)
    (.skip)
    (.exit 0))
  (ir28_k1)
noncomputable def ir28_k3 : IR :=
  .seq (.reg [.asg none 2 (.op2 (.ibin .leq .i64) (.op1 .lenS (.var 0)) (.const (.int .i64 300)))]) <|
  .ret
noncomputable def ir28 : IR :=
  .seq (.reg [.asg none 2 (.const (.bool false)),
     .asg none 3 (.const (.int .i64 0))]) <|
  .seq (.block 0 (.loop ir28_l2))
  (ir28_k3)
def ir28_V : List Nat := [0, 2, 3, 11, 20]
theorem ir28_ok : (comp Tryz.prog Tryz.f28.ntmps ir28_V [] (Tryz.f28.body.getD .skip)).map IR.norm = some ir28 := by kernel_rfl
theorem ir28_calls {v0 : Value} {w : World} {R : Ending → World → Prop} (h : ∀ ρ : Env, ρ 0 = v0 → ir28.wp ⟨Tryz.prog, 24, ir28_V, []⟩ (retK [.tmp 2] R) (ksOf [.tmp 2] R) ρ w) :
    Calls Tryz.prog 28 #[v0] w R := by
  obtain ⟨ir0, h1, h2⟩ := Option.map_eq_some_iff.1 ir28_ok
  exact calls_ir (args := #[v0]) Tryz.func28 (c := Tryz.f28.body.getD .skip) rfl h1 h2 (by kernel_rfl) (show rvsOf Tryz.prog ir28_V Tryz.f28.results.toList = some [.tmp 2] by kernel_rfl) (Nat.le_of_ble_eq_true rfl) (h _ rfl)

/-! ### 29: argus/token.Check  params #[28] results #[3, 29]  slots [(0, l), (4, line), (5, i), (6, t)] -/
noncomputable def ir29_k0 : IR :=
  .reg [.asg none 4 (.op1 .load1 (.op1 (.fadr 2) (.var 6)))]
noncomputable def ir29_k1 : IR :=
  .seq (.reg [.asg none 17 (.op1 (.loadN 3) (.var 6)),
     .eff none (some 18) (.call { callee := .value (.func 50), args := #[(.tmp 17)], argTypes := #[38] }) 4,
     .asg none 30 (.ite (.ite (.op1 .not (.var 18)) (.const (.bool true)) (.op2 (.ibin .lss .i64) (.op1 .load1 (.op1 (.fadr 2) (.var 6))) (.var 4))) (.const (.bool true)) (.op2 (.ibin .gtr .i64) (.op1 .load1 (.op1 (.fadr 2) (.var 6))) (.const (.int .i64 20000))))]) <|
  .seq (.cond (.var 30)
    (.seq (.reg [.asg none 2 (.var 5),
        .asg none 3 (.const (.int .i64 1))]) <|
     .ret)
    (.skip))
  (ir29_k0)
noncomputable def ir29_k2 : IR :=
  .reg [.asg none 9 (.op2 (.ibin .add .i64) (.var 9) (.const (.int .i64 1)))]
noncomputable def ir29_k3 : IR :=
  .seq (.block 1 (.seq (.reg [.asg none 11 (.var 9),
       .asg none 13 (.op1 (.loadN 3) (.op2 (.ixa 3) (.var 7) (.var 9))),
       .eff none (some 6) (.alloc 38) 0,
       .asg none 5 (.var 11),
       .eff none none (.store 38 (.tmp 6) (.tmp 13)) 0,
       .asg none 15 (.op2 (.ibin .geq .i64) (.var 5) (.const (.int .i64 20000)))]) <|
    .seq (.cond (.var 15)
      (.seq (.reg [.asg none 2 (.var 5),
          .asg none 3 (.const (.int .i64 2))]) <|
       .ret)
      (.skip))
    (ir29_k1)))
  (ir29_k2)
noncomputable def ir29_l4 : IR :=
  .seq (.reg [.asg none 10 (.op2 (.ibin .lss .i64) (.var 9) (.var 8))]) <|
  .seq (.cond (.var 10)
    (.skip)
    (.exit 0))
  (ir29_k3)
noncomputable def ir29_k5 : IR :=
  .seq (.reg [.asg none 2 (.const (.int .i64 0)),
     .asg none 3 (.const (.int .i64 0))]) <|
  .ret
noncomputable def ir29 : IR :=
  .seq (.reg [.asg none 2 (.const (.int .i64 0)),
     .asg none 3 (.const (.int .i64 0)),
     .asg none 4 (.const (.int .i64 1)),
     .asg none 7 (.var 0),
     .asg none 8 (.op1 .lenS (.var 7)),
     .asg none 9 (.const (.int .i64 0))]) <|
  .seq (.block 0 (.loop ir29_l4))
  (ir29_k5)
def ir29_V : List Nat := [0, 2, 3, 4, 5, 6, 7, 8, 9, 10, 11, 13, 15, 17, 18, 30]
theorem ir29_ok : (comp Tryz.prog Tryz.f29.ntmps ir29_V [] (Tryz.f29.body.getD .skip)).map IR.norm = some ir29 := by kernel_rfl
theorem ir29_calls {v0 : Value} {w : World} {R : Ending → World → Prop} (h : ∀ ρ : Env, ρ 0 = v0 → ir29.wp ⟨Tryz.prog, 35, ir29_V, []⟩ (retK [.tmp 2, .tmp 3] R) (ksOf [.tmp 2, .tmp 3] R) ρ w) :
    Calls Tryz.prog 29 #[v0] w R := by
  obtain ⟨ir0, h1, h2⟩ := Option.map_eq_some_iff.1 ir29_ok
  exact calls_ir (args := #[v0]) Tryz.func29 (c := Tryz.f29.body.getD .skip) rfl h1 h2 (by kernel_rfl) (show rvsOf Tryz.prog ir29_V Tryz.f29.results.toList = some [.tmp 2, .tmp 3] by kernel_rfl) (Nat.le_of_ble_eq_true rfl) (h _ rfl)

/-! ### 30: argus/argusref01.Check  params #[28] results #[3, 29]  slots [(0, l), (4, i), (5, t)] -/
noncomputable def ir30_k0 : IR :=
  .cond (.var 49)
   (.seq (.reg [.asg none 2 (.var 4),
       .asg none 3 (.const (.int .i64 1))]) <|
    .ret)
   (.skip)
noncomputable def ir30_k1 : IR :=
  .seq (.reg [.asg none 18 (.op1 (.loadN 3) (.op2 (.ixa 3) (.var 0) (.var 4))),
     .eff none (some 5) (.alloc 38) 0,
     .eff none none (.store 38 (.tmp 5) (.tmp 18)) 0]) <|
  .seq (.drw [.asg none 20 (.op1 .load1 (.op1 (.fadr 0) (.var 5))),
     .asg none 22 (.op1 .load1 (.op1 (.fadr 1) (.var 5))),
     .eff none (some 23) (.call { callee := .value (.func 51), args := #[(.tmp 20), (.tmp 22)], argTypes := #[5, 9] }) 4,
     .asg none 49 (.ite (.ite (.ite (.op1 .not (.var 23)) (.const (.bool true)) (.op2 (.ibin .lss .i64) (.op1 .load1 (.op1 (.fadr 2) (.var 5))) (.const (.int .i64 1)))) (.const (.bool true)) (.op2 (.ibin .gtr .i64) (.op1 .load1 (.op1 (.fadr 2) (.var 5))) (.const (.int .i64 20000)))) (.const (.bool true)) (.ite (.op2 (.ibin .gtr .i64) (.var 4) (.const (.int .i64 0))) (.op2 (.ibin .lss .i64) (.op1 .load1 (.op1 (.fadr 2) (.var 5))) (.op1 .load1 (.op1 (.fadr 2) (.op2 (.ixa 3) (.var 0) (.op2 (.ibin .sub .i64) (.var 4) (.const (.int .i64 1))))))) (.const (.bool false))))])
  (ir30_k0)
noncomputable def ir30_k2 : IR :=
  .reg [.asg none 4 (.op2 (.ibin .add .i64) (.var 4) (.const (.int .i64 1)))]
noncomputable def ir30_k3 : IR :=
  .seq (.block 1 (.seq (.reg [.asg none 13 (.op2 (.ibin .geq .i64) (.var 4) (.const (.int .i64 20000)))]) <|
    .seq (.cond (.var 13)
      (.seq (.reg [.asg none 2 (.var 4),
          .asg none 3 (.const (.int .i64 2))]) <|
       .ret)
      (.skip))
    (ir30_k1)))
  (ir30_k2)
noncomputable def ir30_l4 : IR :=
  .seq (.reg [.asg none 9 (.op2 (.ibin .lss .i64) (.var 4) (.op1 .lenS (.var 0)))]) <|
  .seq (.cond (.var 9)
    (.skip)
    (.exit 0))
  (ir30_k3)
noncomputable def ir30_k5 : IR :=
  .seq (.reg [.asg none 2 (.const (.int .i64 0)),
     .asg none 3 (.const (.int .i64 0))]) <|
  .ret
noncomputable def ir30 : IR :=
  .seq (.reg [.asg none 2 (.const (.int .i64 0)),
     .asg none 3 (.const (.int .i64 0)),
     .asg none 4 (.const (.int .i64 0))]) <|
  .seq (.block 0 (.loop ir30_l4))
  (ir30_k5)
def ir30_V : List Nat := [0, 2, 3, 4, 5, 9, 13, 18, 20, 22, 23, 49]
theorem ir30_ok : (comp Tryz.prog Tryz.f30.ntmps ir30_V [] (Tryz.f30.body.getD .skip)).map IR.norm = some ir30 := by kernel_rfl
theorem ir30_calls {v0 : Value} {w : World} {R : Ending → World → Prop} (h : ∀ ρ : Env, ρ 0 = v0 → ir30.wp ⟨Tryz.prog, 51, ir30_V, []⟩ (retK [.tmp 2, .tmp 3] R) (ksOf [.tmp 2, .tmp 3] R) ρ w) :
    Calls Tryz.prog 30 #[v0] w R := by
  obtain ⟨ir0, h1, h2⟩ := Option.map_eq_some_iff.1 ir30_ok
  exact calls_ir (args := #[v0]) Tryz.func30 (c := Tryz.f30.body.getD .skip) rfl h1 h2 (by kernel_rfl) (show rvsOf Tryz.prog ir30_V Tryz.f30.results.toList = some [.tmp 2, .tmp 3] by kernel_rfl) (Nat.le_of_ble_eq_true rfl) (h _ rfl)

/-! ### 31: argus/token.Print  params #[28] results #[9, 29]  slots [(0, l), (4, _), (5, e), (6, out), (7, line), (8, i), (9, t)] -/
noncomputable def ir31_k0 : IR :=
  .reg [.asg none 7 (.op2 (.ibin .add .i64) (.var 7) (.const (.int .i64 1)))]
noncomputable def ir31_k1 : IR :=
  .seq (.block 3 (.reg [.eff none (some 40) (.call { callee := .value (.func 52), args := #[(.tmp 6), (.const (.int .u8 10))], argTypes := #[69, 5] }) 71]))
  (ir31_k0)
noncomputable def ir31_l2 : IR :=
  .seq (.reg [.asg none 37 (.op2 (.ibin .lss .i64) (.var 7) (.op1 .load1 (.op1 (.fadr 2) (.var 9))))]) <|
  .seq (.cond (.var 37)
    (.skip)
    (.exit 2))
  (ir31_k1)
noncomputable def ir31_k3 : IR :=
  .reg [.asg none 42 (.op1 .load1 (.op1 (.fadr 1) (.var 9))),
    .eff none (some 43) (.call { callee := .value (.func 53), args := #[(.tmp 6), (.tmp 42)], argTypes := #[69, 9] }) 73]
noncomputable def ir31_k4 : IR :=
  .seq (.block 2 (.loop ir31_l2))
  (ir31_k3)
noncomputable def ir31_k5 : IR :=
  .reg [.asg none 20 (.op2 (.ibin .add .i64) (.var 20) (.const (.int .i64 1)))]
noncomputable def ir31_k6 : IR :=
  .seq (.block 1 (.seq (.reg [.asg none 22 (.var 20),
       .asg none 24 (.op1 (.loadN 3) (.op2 (.ixa 3) (.var 18) (.var 20))),
       .eff none (some 9) (.alloc 38) 0,
       .asg none 8 (.var 22),
       .eff none none (.store 38 (.tmp 9) (.tmp 24)) 0,
       .asg none 32 (.ite (.op2 (.ibin .gtr .i64) (.var 8) (.const (.int .i64 0))) (.op2 (.ibin .eql .i64) (.op1 .load1 (.op1 (.fadr 2) (.var 9))) (.var 7)) (.const (.bool false)))]) <|
    .seq (.cond (.var 32)
      (.reg [.eff none (some 33) (.call { callee := .value (.func 52), args := #[(.tmp 6), (.const (.int .u8 32))], argTypes := #[69, 5] }) 71])
      (.skip))
    (ir31_k4)))
  (ir31_k5)
noncomputable def ir31_l7 : IR :=
  .seq (.reg [.asg none 21 (.op2 (.ibin .lss .i64) (.var 20) (.var 19))]) <|
  .seq (.cond (.var 21)
    (.skip)
    (.exit 0))
  (ir31_k6)
noncomputable def ir31_k8 : IR :=
  .seq (.reg [.eff none (some 51) (.call { callee := .value (.func 55), args := #[(.tmp 6)], argTypes := #[69] }) 9,
     .asg none 2 (.var 51),
     .asg none 3 (.const (.int .i64 0))]) <|
  .ret
noncomputable def ir31_k9 : IR :=
  .seq (.reg [.eff none (some 49) (.call { callee := .value (.func 54), args := #[(.tmp 6)], argTypes := #[69] }) 3,
     .asg none 50 (.op2 (.ibin .gtr .i64) (.var 49) (.const (.int .i64 20000)))]) <|
  .seq (.cond (.var 50)
    (.seq (.reg [.asg none 2 (.const (.string ⟨#[]⟩)),
        .asg none 3 (.const (.int .i64 2))]) <|
     .ret)
    (.skip))
  (ir31_k8)
noncomputable def ir31_k10 : IR :=
  .seq (.reg [.asg none 47 (.op2 (.ibin .gtr .i64) (.op1 .lenS (.var 0)) (.const (.int .i64 0)))]) <|
  .seq (.cond (.var 47)
    (.reg [.eff none (some 48) (.call { callee := .value (.func 52), args := #[(.tmp 6), (.const (.int .u8 10))], argTypes := #[69, 5] }) 71])
    (.skip))
  (ir31_k9)
noncomputable def ir31_k11 : IR :=
  .seq (.reg [.eff none (some 6) (.alloc 69) 0,
     .asg none 7 (.const (.int .i64 1)),
     .asg none 18 (.var 0),
     .asg none 19 (.op1 .lenS (.var 18)),
     .asg none 20 (.const (.int .i64 0))]) <|
  .seq (.block 0 (.loop ir31_l7))
  (ir31_k10)
noncomputable def ir31 : IR :=
  .seq (.reg [.asg none 2 (.const (.string ⟨#[]⟩)),
     .asg none 3 (.const (.int .i64 0)),
     .asg none 11 (.var 0),
     .eff none (some 12) (.call { callee := .value (.func 29), args := #[(.tmp 11)], argTypes := #[28] }) 40,
     .asg none 10 (.var 12),
     .asg none 13 (.op1 (.ext 0) (.var 10)),
     .asg none 14 (.op1 (.ext 1) (.var 10)),
     .asg none 4 (.var 13),
     .asg none 5 (.var 14),
     .asg none 16 (.op2 (.ibin .neq .i64) (.var 5) (.const (.int .i64 0)))]) <|
  .seq (.cond (.var 16)
    (.seq (.reg [.asg none 17 (.var 5),
        .asg none 2 (.const (.string ⟨#[]⟩)),
        .asg none 3 (.var 17)]) <|
     .ret)
    (.skip))
  (ir31_k11)
def ir31_V : List Nat := [0, 2, 3, 4, 5, 6, 7, 8, 9, 10, 11, 12, 13, 14, 16, 17, 18, 19, 20, 21, 22, 24, 32, 33, 37, 40, 42, 43, 47, 48, 49, 50, 51]
theorem ir31_ok : (comp Tryz.prog Tryz.f31.ntmps ir31_V [] (Tryz.f31.body.getD .skip)).map IR.norm = some ir31 := by kernel_rfl
theorem ir31_calls {v0 : Value} {w : World} {R : Ending → World → Prop} (h : ∀ ρ : Env, ρ 0 = v0 → ir31.wp ⟨Tryz.prog, 52, ir31_V, []⟩ (retK [.tmp 2, .tmp 3] R) (ksOf [.tmp 2, .tmp 3] R) ρ w) :
    Calls Tryz.prog 31 #[v0] w R := by
  obtain ⟨ir0, h1, h2⟩ := Option.map_eq_some_iff.1 ir31_ok
  exact calls_ir (args := #[v0]) Tryz.func31 (c := Tryz.f31.body.getD .skip) rfl h1 h2 (by kernel_rfl) (show rvsOf Tryz.prog ir31_V Tryz.f31.results.toList = some [.tmp 2, .tmp 3] by kernel_rfl) (Nat.le_of_ble_eq_true rfl) (h _ rfl)

/-! ### 32: argus/argusref01.Print  params #[28] results #[9, 29]  slots [(0, l), (4, _), (5, e), (6, s), (7, line), (8, i)] -/
noncomputable def ir32_k0 : IR :=
  .block 3 (.reg [.asg none 6 (.op2 (.sbin .add) (.var 6) (.const (.string ⟨#[10]⟩))),
     .asg none 7 (.op2 (.ibin .add .i64) (.var 7) (.const (.int .i64 1)))])
noncomputable def ir32_l1 : IR :=
  .seq (.reg [.asg none 29 (.op2 (.ibin .lss .i64) (.var 7) (.op1 .load1 (.op1 (.fadr 2) (.op2 (.ixa 3) (.var 0) (.var 8)))))]) <|
  .seq (.cond (.var 29)
    (.skip)
    (.exit 2))
  (ir32_k0)
noncomputable def ir32_k2 : IR :=
  .reg [.asg none 6 (.op2 (.sbin .add) (.var 6) (.op1 .load1 (.op1 (.fadr 1) (.op2 (.ixa 3) (.var 0) (.var 8)))))]
noncomputable def ir32_k3 : IR :=
  .seq (.cond (.var 49)
    (.reg [.asg none 6 (.op2 (.sbin .add) (.var 6) (.const (.string ⟨#[32]⟩)))])
    (.skip))
  (ir32_k2)
noncomputable def ir32_k4 : IR :=
  .seq (.drw [.asg none 49 (.ite (.op2 (.ibin .gtr .i64) (.var 8) (.const (.int .i64 0))) (.op2 (.ibin .eql .i64) (.op1 .load1 (.op1 (.fadr 2) (.op2 (.ixa 3) (.var 0) (.op2 (.ibin .sub .i64) (.var 8) (.const (.int .i64 1)))))) (.op1 .load1 (.op1 (.fadr 2) (.op2 (.ixa 3) (.var 0) (.var 8))))) (.const (.bool false)))])
  (ir32_k3)
noncomputable def ir32_k5 : IR :=
  .reg [.asg none 8 (.op2 (.ibin .add .i64) (.var 8) (.const (.int .i64 1)))]
noncomputable def ir32_k6 : IR :=
  .seq (.block 1 (.seq (.block 2 (.loop ir32_l1))
    (ir32_k4)))
  (ir32_k5)
noncomputable def ir32_l7 : IR :=
  .seq (.reg [.asg none 20 (.op2 (.ibin .lss .i64) (.var 8) (.op1 .lenS (.var 0)))]) <|
  .seq (.cond (.var 20)
    (.skip)
    (.exit 0))
  (ir32_k6)
noncomputable def ir32_k8 : IR :=
  .seq (.reg [.asg none 2 (.var 6),
     .asg none 3 (.const (.int .i64 0))]) <|
  .ret
noncomputable def ir32_k9 : IR :=
  .seq (.reg [.asg none 66 (.op2 (.ibin .gtr .i64) (.op1 .lenT (.var 6)) (.const (.int .i64 20000)))]) <|
  .seq (.cond (.var 66)
    (.seq (.reg [.asg none 2 (.const (.string ⟨#[]⟩)),
        .asg none 3 (.const (.int .i64 2))]) <|
     .ret)
    (.skip))
  (ir32_k8)
noncomputable def ir32_k10 : IR :=
  .seq (.reg [.asg none 61 (.op2 (.ibin .gtr .i64) (.op1 .lenS (.var 0)) (.const (.int .i64 0)))]) <|
  .seq (.cond (.var 61)
    (.reg [.asg none 6 (.op2 (.sbin .add) (.var 6) (.const (.string ⟨#[10]⟩)))])
    (.skip))
  (ir32_k9)
noncomputable def ir32_k11 : IR :=
  .seq (.reg [.asg none 6 (.const (.string ⟨#[]⟩)),
     .asg none 7 (.const (.int .i64 1)),
     .asg none 8 (.const (.int .i64 0))]) <|
  .seq (.block 0 (.loop ir32_l7))
  (ir32_k10)
noncomputable def ir32 : IR :=
  .seq (.reg [.asg none 2 (.const (.string ⟨#[]⟩)),
     .asg none 3 (.const (.int .i64 0)),
     .asg none 10 (.var 0),
     .eff none (some 11) (.call { callee := .value (.func 30), args := #[(.tmp 10)], argTypes := #[28] }) 40,
     .asg none 9 (.var 11),
     .asg none 12 (.op1 (.ext 0) (.var 9)),
     .asg none 13 (.op1 (.ext 1) (.var 9)),
     .asg none 4 (.var 12),
     .asg none 5 (.var 13),
     .asg none 15 (.op2 (.ibin .neq .i64) (.var 5) (.const (.int .i64 0)))]) <|
  .seq (.cond (.var 15)
    (.seq (.reg [.asg none 16 (.var 5),
        .asg none 2 (.const (.string ⟨#[]⟩)),
        .asg none 3 (.var 16)]) <|
     .ret)
    (.skip))
  (ir32_k11)
def ir32_V : List Nat := [0, 2, 3, 4, 5, 6, 7, 8, 9, 10, 11, 12, 13, 15, 16, 20, 29, 49, 61, 66]
theorem ir32_ok : (comp Tryz.prog Tryz.f32.ntmps ir32_V [] (Tryz.f32.body.getD .skip)).map IR.norm = some ir32 := by kernel_rfl
theorem ir32_calls {v0 : Value} {w : World} {R : Ending → World → Prop} (h : ∀ ρ : Env, ρ 0 = v0 → ir32.wp ⟨Tryz.prog, 68, ir32_V, []⟩ (retK [.tmp 2, .tmp 3] R) (ksOf [.tmp 2, .tmp 3] R) ρ w) :
    Calls Tryz.prog 32 #[v0] w R := by
  obtain ⟨ir0, h1, h2⟩ := Option.map_eq_some_iff.1 ir32_ok
  exact calls_ir (args := #[v0]) Tryz.func32 (c := Tryz.f32.body.getD .skip) rfl h1 h2 (by kernel_rfl) (show rvsOf Tryz.prog ir32_V Tryz.f32.results.toList = some [.tmp 2, .tmp 3] by kernel_rfl) (Nat.le_of_ble_eq_true rfl) (h _ rfl)

/-! ### 33: argus/token.Apart  params #[38, 38] results #[4, 29]  slots [(0, a), (1, b), (2, a), (3, b), (6, l), (7, fault)] -/
noncomputable def ir33_body : Code := (Tryz.f33.body).getD .skip
noncomputable def ir33_k0 : IR :=
  .ret
noncomputable def ir33_k1 : IR :=
  .seq (.reg [.asg none 16 (.op1 (.fadr 2) (.var 2)),
     .eff none none (.store 3 (.tmp 16) (.const (.int .i64 1))) 0,
     .asg none 17 (.op1 (.fadr 2) (.var 3)),
     .eff none none (.store 3 (.tmp 17) (.const (.int .i64 1))) 0,
     .asg none 23 (.op2 (.sbin .add) (.op1 .load1 (.op1 (.fadr 1) (.var 2))) (.op1 .load1 (.op1 (.fadr 1) (.var 3)))),
     .eff none (some 24) (.call { callee := .value (.func 23), args := #[(.tmp 23)], argTypes := #[9] }) 32,
     .asg none 18 (.var 24),
     .asg none 25 (.op1 (.ext 0) (.var 18)),
     .asg none 26 (.op1 (.ext 1) (.var 18)),
     .eff none (some 7) (.alloc 31) 0,
     .asg none 6 (.var 25),
     .eff none none (.store 31 (.tmp 7) (.tmp 26)) 0]) <|
  .seq (.raw (rawReg ir33_body 5))
  (ir33_k0)
noncomputable def ir33 : IR :=
  .seq (.reg [.eff none (some 2) (.box 38 (.tmp 0)) 0,
     .eff none (some 3) (.box 38 (.tmp 1)) 0,
     .asg none 4 (.const (.bool false)),
     .asg none 5 (.const (.int .i64 0)),
     .asg none 8 (.op1 (.loadN 3) (.var 2)),
     .eff none (some 9) (.call { callee := .value (.func 50), args := #[(.tmp 8)], argTypes := #[38] }) 4,
     .asg none 11 (.op1 .not (.var 9)),
     .asg (some (11, false)) 12 (.op1 (.loadN 3) (.var 3)),
     .eff (some (11, false)) (some 13) (.call { callee := .value (.func 50), args := #[(.tmp 12)], argTypes := #[38] }) 4,
     .asg none 15 (.ite (.var 11) (.const (.bool true)) (.op1 .not (.var 13)))]) <|
  .seq (.cond (.var 15)
    (.seq (.reg [.asg none 4 (.const (.bool false)),
        .asg none 5 (.const (.int .i64 1))]) <|
     .ret)
    (.skip))
  (ir33_k1)
def ir33_V : List Nat := [0, 1, 2, 3, 4, 5, 6, 7, 8, 9, 11, 12, 13, 15, 16, 17, 18, 23, 24, 25, 26, 27, 28, 29, 30, 31, 32, 33, 34, 35, 36, 37, 38, 39, 40, 41, 42, 43, 44, 45, 46, 47, 48]
theorem ir33_ok : (comp Tryz.prog Tryz.f33.ntmps ir33_V [5] (Tryz.f33.body.getD .skip)).map IR.norm = some ir33 := by kernel_rfl
theorem ir33_calls {v0 v1 : Value} {w : World} {R : Ending → World → Prop} (h : ∀ ρ : Env, ρ 0 = v0 → ρ 1 = v1 → ir33.wp ⟨Tryz.prog, 49, ir33_V, []⟩ (retK [.tmp 4, .tmp 5] R) (ksOf [.tmp 4, .tmp 5] R) ρ w) :
    Calls Tryz.prog 33 #[v0, v1] w R := by
  obtain ⟨ir0, h1, h2⟩ := Option.map_eq_some_iff.1 ir33_ok
  exact calls_ir (args := #[v0, v1]) Tryz.func33 (c := Tryz.f33.body.getD .skip) rfl h1 h2 (by kernel_rfl) (show rvsOf Tryz.prog ir33_V Tryz.f33.results.toList = some [.tmp 4, .tmp 5] by kernel_rfl) (Nat.le_of_ble_eq_true rfl) (h _ rfl rfl)
/-! 33 argus/token.Apart region 5: 24 operations, tail 20, size 25 -/
noncomputable def ir33_o5 : OT :=
  .take none 27 (.op1 (.loadN 2) (.var 7)) <|
  .step (.eff none (some 28) (.build 31 #[]) 31) true <|
  .step (.eff none (some 29) (.binOp .neq 31 (.tmp 27) (.tmp 28) 31) 4) true <|
  .take none 30 (.var 29) <|
  .take (some (30, false)) 31 (.var 6) <|
  .take (some (30, false)) 32 (.op1 .lenS (.var 31)) <|
  .take (some (30, false)) 33 (.op2 (.ibin .neq .i64) (.var 32) (.const (.int .i64 2))) <|
  .take none 34 (.ite (.var 30) (.const (.bool true)) (.var 33)) <|
  .take none 35 (.var 34) <|
  .take (some (35, false)) 36 (.var 6) <|
  .take (some (35, false)) 37 (.op2 (.ixa 3) (.var 36) (.const (.int .i64 0))) <|
  .take (some (35, false)) 38 (.op1 (.loadN 3) (.var 37)) <|
  .take (some (35, false)) 39 (.op1 (.loadN 3) (.var 2)) <|
  .step (.eff (some (35, false)) (some 40) (.binOp .neq 38 (.tmp 38) (.tmp 39) 38) 4) true <|
  .take none 41 (.ite (.var 35) (.const (.bool true)) (.var 40)) <|
  .take none 42 (.var 41) <|
  .take (some (42, false)) 43 (.var 6) <|
  .take (some (42, false)) 44 (.op2 (.ixa 3) (.var 43) (.const (.int .i64 1))) <|
  .take (some (42, false)) 45 (.op1 (.loadN 3) (.var 44)) <|
  .take (some (42, false)) 46 (.op1 (.loadN 3) (.var 3)) <|
  .step (.eff (some (42, false)) (some 47) (.binOp .neq 38 (.tmp 45) (.tmp 46) 38) 4) false <|
  .step (.asg none 48 (.ite (.var 42) (.const (.bool true)) (.var 47))) false <|
  .step (.asg none 4 (.var 48)) false <|
  .step (.asg none 5 (.const (.int .i64 0))) false <|
  .done
theorem ir33_o5_ok : ordOf Tryz.prog 49 ir33_V 20 (rawReg ir33_body 5) = some ir33_o5 := by kernel_rfl

/-! ### 34: argus/argusref01.Apart  params #[38, 38] results #[4, 29]  slots [(0, a), (1, b), (2, a), (3, b), (6, l), (7, f)] -/
noncomputable def ir34_body : Code := (Tryz.f34.body).getD .skip
noncomputable def ir34_k0 : IR :=
  .ret
noncomputable def ir34_k1 : IR :=
  .seq (.reg [.asg none 27 (.op2 (.sbin .add) (.op1 .load1 (.op1 (.fadr 1) (.var 2))) (.op1 .load1 (.op1 (.fadr 1) (.var 3)))),
     .eff none (some 28) (.call { callee := .value (.func 24), args := #[(.tmp 27)], argTypes := #[9] }) 32,
     .asg none 22 (.var 28),
     .asg none 29 (.op1 (.ext 0) (.var 22)),
     .asg none 30 (.op1 (.ext 1) (.var 22)),
     .eff none (some 7) (.alloc 31) 0,
     .asg none 6 (.var 29),
     .eff none none (.store 31 (.tmp 7) (.tmp 30)) 0]) <|
  .seq (.raw (rawReg ir34_body 4))
  (ir34_k0)
noncomputable def ir34 : IR :=
  .seq (.reg [.eff none (some 2) (.box 38 (.tmp 0)) 0,
     .eff none (some 3) (.box 38 (.tmp 1)) 0,
     .asg none 4 (.const (.bool false)),
     .asg none 5 (.const (.int .i64 0)),
     .asg none 9 (.op1 .load1 (.op1 (.fadr 0) (.var 2))),
     .asg none 11 (.op1 .load1 (.op1 (.fadr 1) (.var 2))),
     .eff none (some 12) (.call { callee := .value (.func 51), args := #[(.tmp 9), (.tmp 11)], argTypes := #[5, 9] }) 4,
     .asg none 14 (.op1 .not (.var 12)),
     .asg (some (14, false)) 16 (.op1 .load1 (.op1 (.fadr 0) (.var 3))),
     .asg (some (14, false)) 18 (.op1 .load1 (.op1 (.fadr 1) (.var 3))),
     .eff (some (14, false)) (some 19) (.call { callee := .value (.func 51), args := #[(.tmp 16), (.tmp 18)], argTypes := #[5, 9] }) 4,
     .asg none 21 (.ite (.var 14) (.const (.bool true)) (.op1 .not (.var 19)))]) <|
  .seq (.cond (.var 21)
    (.seq (.reg [.asg none 4 (.const (.bool false)),
        .asg none 5 (.const (.int .i64 1))]) <|
     .ret)
    (.skip))
  (ir34_k1)
def ir34_V : List Nat := [0, 1, 2, 3, 4, 5, 6, 7, 9, 11, 12, 14, 16, 18, 19, 21, 22, 27, 28, 29, 30, 31, 32, 33, 34, 35, 36, 37, 38, 39, 40, 41, 42, 43, 44, 45, 46, 47, 48, 49, 50, 51, 52, 53, 54, 55, 56]
theorem ir34_ok : (comp Tryz.prog Tryz.f34.ntmps ir34_V [4] (Tryz.f34.body.getD .skip)).map IR.norm = some ir34 := by kernel_rfl
theorem ir34_calls {v0 v1 : Value} {w : World} {R : Ending → World → Prop} (h : ∀ ρ : Env, ρ 0 = v0 → ρ 1 = v1 → ir34.wp ⟨Tryz.prog, 57, ir34_V, []⟩ (retK [.tmp 4, .tmp 5] R) (ksOf [.tmp 4, .tmp 5] R) ρ w) :
    Calls Tryz.prog 34 #[v0, v1] w R := by
  obtain ⟨ir0, h1, h2⟩ := Option.map_eq_some_iff.1 ir34_ok
  exact calls_ir (args := #[v0, v1]) Tryz.func34 (c := Tryz.f34.body.getD .skip) rfl h1 h2 (by kernel_rfl) (show rvsOf Tryz.prog ir34_V Tryz.f34.results.toList = some [.tmp 4, .tmp 5] by kernel_rfl) (Nat.le_of_ble_eq_true rfl) (h _ rfl rfl)
/-! 34 argus/argusref01.Apart region 4: 28 operations, tail 24, size 29 -/
noncomputable def ir34_o4 : OT :=
  .take none 31 (.op1 (.loadN 2) (.var 7)) <|
  .step (.eff none (some 32) (.build 31 #[]) 31) true <|
  .step (.eff none (some 33) (.binOp .neq 31 (.tmp 31) (.tmp 32) 31) 4) true <|
  .take none 34 (.var 33) <|
  .take (some (34, false)) 35 (.var 6) <|
  .take (some (34, false)) 36 (.op1 .lenS (.var 35)) <|
  .take (some (34, false)) 37 (.op2 (.ibin .neq .i64) (.var 36) (.const (.int .i64 2))) <|
  .take none 38 (.ite (.var 34) (.const (.bool true)) (.var 37)) <|
  .take none 39 (.var 38) <|
  .take (some (39, false)) 40 (.var 6) <|
  .take (some (39, false)) 41 (.op2 (.ixa 3) (.var 40) (.const (.int .i64 0))) <|
  .take (some (39, false)) 42 (.op1 (.fadr 1) (.var 41)) <|
  .take (some (39, false)) 43 (.op1 .load1 (.var 42)) <|
  .take (some (39, false)) 44 (.op1 (.fadr 1) (.var 2)) <|
  .take (some (39, false)) 45 (.op1 .load1 (.var 44)) <|
  .take (some (39, false)) 46 (.op2 (.sbin .neq) (.var 43) (.var 45)) <|
  .take none 47 (.ite (.var 39) (.const (.bool true)) (.var 46)) <|
  .take none 48 (.var 47) <|
  .take (some (48, false)) 49 (.var 6) <|
  .take (some (48, false)) 50 (.op2 (.ixa 3) (.var 49) (.const (.int .i64 1))) <|
  .take (some (48, false)) 51 (.op1 (.fadr 1) (.var 50)) <|
  .take (some (48, false)) 52 (.op1 .load1 (.var 51)) <|
  .take (some (48, false)) 53 (.op1 (.fadr 1) (.var 3)) <|
  .take (some (48, false)) 54 (.op1 .load1 (.var 53)) <|
  .step (.asg (some (48, false)) 55 (.op2 (.sbin .neq) (.var 52) (.var 54))) false <|
  .step (.asg none 56 (.ite (.var 48) (.const (.bool true)) (.var 55))) false <|
  .step (.asg none 4 (.var 56)) false <|
  .step (.asg none 5 (.const (.int .i64 0))) false <|
  .done
theorem ir34_o4_ok : ordOf Tryz.prog 57 ir34_V 24 (rawReg ir34_body 4) = some ir34_o4 := by kernel_rfl

/-! ### 35: argus/token.Tight  params #[9] results #[9, 31]  slots [(0, src), (4, l), (5, fault), (6, out), (7, i), (8, t), (9, apart), (10, _)] -/
noncomputable def ir35_body : Code := (Tryz.f35.body).getD .skip
noncomputable def ir35_k0 : IR :=
  .seq (.reg [.asg none 35 (.var 9)]) <|
  .cond (.var 35)
   (.reg [.eff none (some 36) (.call { callee := .value (.func 52), args := #[(.tmp 6), (.const (.int .u8 32))], argTypes := #[69, 5] }) 71])
   (.skip)
noncomputable def ir35_k1 : IR :=
  .reg [.asg none 38 (.op1 .load1 (.op1 (.fadr 1) (.var 8))),
    .eff none (some 39) (.call { callee := .value (.func 53), args := #[(.tmp 6), (.tmp 38)], argTypes := #[69, 9] }) 73]
noncomputable def ir35_k2 : IR :=
  .reg [.asg none 18 (.op2 (.ibin .add .i64) (.var 18) (.const (.int .i64 1)))]
noncomputable def ir35_k3 : IR :=
  .seq (.block 1 (.seq (.reg [.asg none 20 (.var 18),
       .asg none 22 (.op1 (.loadN 3) (.op2 (.ixa 3) (.var 16) (.var 18))),
       .eff none (some 8) (.alloc 38) 0,
       .asg none 7 (.var 20),
       .eff none none (.store 38 (.tmp 8) (.tmp 22)) 0,
       .asg none 24 (.op2 (.ibin .gtr .i64) (.var 7) (.const (.int .i64 0)))]) <|
    .seq (.cond (.var 24)
      (.seq (.drw [.asg none 30 (.op1 (.loadN 3) (.op2 (.ixa 3) (.var 4) (.op2 (.ibin .sub .i64) (.var 7) (.const (.int .i64 1))))),
          .asg none 31 (.op1 (.loadN 3) (.var 8)),
          .eff none (some 32) (.call { callee := .value (.func 33), args := #[(.tmp 30), (.tmp 31)], argTypes := #[38, 38] }) 44,
          .asg none 25 (.var 32),
          .asg none 33 (.op1 (.ext 0) (.var 25)),
          .asg none 34 (.op1 (.ext 1) (.var 25)),
          .asg none 9 (.var 33),
          .asg none 10 (.var 34)])
       (ir35_k0))
      (.skip))
    (ir35_k1)))
  (ir35_k2)
noncomputable def ir35_l4 : IR :=
  .seq (.reg [.asg none 19 (.op2 (.ibin .lss .i64) (.var 18) (.var 17))]) <|
  .seq (.cond (.var 19)
    (.skip)
    (.exit 0))
  (ir35_k3)
noncomputable def ir35_k5 : IR :=
  .ret
noncomputable def ir35_k6 : IR :=
  .seq (.raw (rawReg ir35_body 12))
  (ir35_k5)
noncomputable def ir35 : IR :=
  .seq (.reg [.asg none 2 (.const (.string ⟨#[]⟩)),
     .eff none (some 3) (.alloc 31) 0,
     .asg none 12 (.var 0),
     .eff none (some 13) (.call { callee := .value (.func 23), args := #[(.tmp 12)], argTypes := #[9] }) 32,
     .asg none 11 (.var 13),
     .asg none 14 (.op1 (.ext 0) (.var 11)),
     .asg none 15 (.op1 (.ext 1) (.var 11)),
     .eff none (some 5) (.alloc 31) 0,
     .asg none 4 (.var 14),
     .eff none none (.store 31 (.tmp 5) (.tmp 15)) 0,
     .eff none (some 6) (.alloc 69) 0,
     .asg none 16 (.var 4),
     .asg none 17 (.op1 .lenS (.var 16)),
     .asg none 18 (.const (.int .i64 0))]) <|
  .seq (.block 0 (.loop ir35_l4))
  (ir35_k6)
def ir35_V : List Nat := [0, 2, 3, 4, 5, 6, 7, 8, 9, 10, 11, 12, 13, 14, 15, 16, 17, 18, 19, 20, 22, 24, 25, 30, 31, 32, 33, 34, 35, 36, 38, 39, 41, 42]
theorem ir35_ok : (comp Tryz.prog Tryz.f35.ntmps ir35_V [12] (Tryz.f35.body.getD .skip)).map IR.norm = some ir35 := by kernel_rfl
theorem ir35_calls {v0 : Value} {w : World} {R : Ending → World → Prop} (h : ∀ ρ : Env, ρ 0 = v0 → ir35.wp ⟨Tryz.prog, 43, ir35_V, []⟩ (retK [.tmp 2, .cellN 3 2] R) (ksOf [.tmp 2, .cellN 3 2] R) ρ w) :
    Calls Tryz.prog 35 #[v0] w R := by
  obtain ⟨ir0, h1, h2⟩ := Option.map_eq_some_iff.1 ir35_ok
  exact calls_ir (args := #[v0]) Tryz.func35 (c := Tryz.f35.body.getD .skip) rfl h1 h2 (by kernel_rfl) (show rvsOf Tryz.prog ir35_V Tryz.f35.results.toList = some [.tmp 2, .cellN 3 2] by kernel_rfl) (Nat.le_of_ble_eq_true rfl) (h _ rfl)
/-! 35 argus/token.Tight region 12: 4 operations, tail 3, size 5 -/
noncomputable def ir35_o12 : OT :=
  .take none 42 (.op1 (.loadN 2) (.var 5)) <|
  .step (.eff none (some 41) (.call { callee := .value (.func 55), args := #[(.tmp 6)], argTypes := #[69] }) 9) true <|
  .take none 2 (.var 41) <|
  .step (.eff none none (.store 31 (.tmp 3) (.tmp 42)) 0) false <|
  .done
theorem ir35_o12_ok : ordOf Tryz.prog 43 ir35_V 3 (rawReg ir35_body 12) = some ir35_o12 := by kernel_rfl

/-! ### 36: argus/argusref01.Tight  params #[9] results #[9, 31]  slots [(0, src), (4, l), (5, f), (6, s), (7, i), (8, between), (9, _)] -/
noncomputable def ir36_body : Code := (Tryz.f36.body).getD .skip
noncomputable def ir36_k0 : IR :=
  .ret
noncomputable def ir36_k1 : IR :=
  .seq (.reg [.asg none 40 (.var 8)]) <|
  .cond (.var 40)
   (.reg [.asg none 6 (.op2 (.sbin .add) (.var 6) (.const (.string ⟨#[32]⟩)))])
   (.skip)
noncomputable def ir36_k2 : IR :=
  .reg [.asg none 6 (.op2 (.sbin .add) (.var 6) (.op1 .load1 (.op1 (.fadr 1) (.op2 (.ixa 3) (.var 4) (.var 7)))))]
noncomputable def ir36_k3 : IR :=
  .reg [.asg none 7 (.op2 (.ibin .add .i64) (.var 7) (.const (.int .i64 1)))]
noncomputable def ir36_k4 : IR :=
  .seq (.block 1 (.seq (.reg [.asg none 26 (.op2 (.ibin .gtr .i64) (.var 7) (.const (.int .i64 0)))]) <|
    .seq (.cond (.var 26)
      (.seq (.drw [.asg none 32 (.op1 (.loadN 3) (.op2 (.ixa 3) (.var 4) (.op2 (.ibin .sub .i64) (.var 7) (.const (.int .i64 1))))),
          .asg none 36 (.op1 (.loadN 3) (.op2 (.ixa 3) (.var 4) (.var 7))),
          .eff none (some 37) (.call { callee := .value (.func 34), args := #[(.tmp 32), (.tmp 36)], argTypes := #[38, 38] }) 44,
          .asg none 27 (.var 37),
          .asg none 38 (.op1 (.ext 0) (.var 27)),
          .asg none 39 (.op1 (.ext 1) (.var 27)),
          .asg none 8 (.var 38),
          .asg none 9 (.var 39)])
       (ir36_k1))
      (.skip))
    (ir36_k2)))
  (ir36_k3)
noncomputable def ir36_l5 : IR :=
  .seq (.reg [.asg none 22 (.op2 (.ibin .lss .i64) (.var 7) (.op1 .lenS (.var 4)))]) <|
  .seq (.cond (.var 22)
    (.skip)
    (.exit 0))
  (ir36_k4)
noncomputable def ir36_k6 : IR :=
  .seq (.reg [.asg none 50 (.var 6),
     .eff none (some 51) (.build 31 #[]) 31,
     .asg none 2 (.var 50),
     .eff none none (.store 31 (.tmp 3) (.tmp 51)) 0]) <|
  .ret
noncomputable def ir36_k7 : IR :=
  .seq (.reg [.asg none 6 (.const (.string ⟨#[]⟩)),
     .asg none 7 (.const (.int .i64 0))]) <|
  .seq (.block 0 (.loop ir36_l5))
  (ir36_k6)
noncomputable def ir36 : IR :=
  .seq (.reg [.asg none 2 (.const (.string ⟨#[]⟩)),
     .eff none (some 3) (.alloc 31) 0,
     .asg none 11 (.var 0),
     .eff none (some 12) (.call { callee := .value (.func 24), args := #[(.tmp 11)], argTypes := #[9] }) 32,
     .asg none 10 (.var 12),
     .asg none 13 (.op1 (.ext 0) (.var 10)),
     .asg none 14 (.op1 (.ext 1) (.var 10)),
     .eff none (some 5) (.alloc 31) 0,
     .asg none 4 (.var 13),
     .eff none none (.store 31 (.tmp 5) (.tmp 14)) 0,
     .asg none 17 (.op2 (.ibin .neq .i64) (.op1 .load1 (.op1 (.fadr 0) (.var 5))) (.const (.int .i64 0)))]) <|
  .seq (.cond (.var 17)
    (.seq (.raw (rawReg ir36_body 3))
     (ir36_k0))
    (.skip))
  (ir36_k7)
def ir36_V : List Nat := [0, 2, 3, 4, 5, 6, 7, 8, 9, 10, 11, 12, 13, 14, 17, 18, 22, 26, 27, 32, 36, 37, 38, 39, 40, 50, 51]
theorem ir36_ok : (comp Tryz.prog Tryz.f36.ntmps ir36_V [3] (Tryz.f36.body.getD .skip)).map IR.norm = some ir36 := by kernel_rfl
theorem ir36_calls {v0 : Value} {w : World} {R : Ending → World → Prop} (h : ∀ ρ : Env, ρ 0 = v0 → ir36.wp ⟨Tryz.prog, 52, ir36_V, []⟩ (retK [.tmp 2, .cellN 3 2] R) (ksOf [.tmp 2, .cellN 3 2] R) ρ w) :
    Calls Tryz.prog 36 #[v0] w R := by
  obtain ⟨ir0, h1, h2⟩ := Option.map_eq_some_iff.1 ir36_ok
  exact calls_ir (args := #[v0]) Tryz.func36 (c := Tryz.f36.body.getD .skip) rfl h1 h2 (by kernel_rfl) (show rvsOf Tryz.prog ir36_V Tryz.f36.results.toList = some [.tmp 2, .cellN 3 2] by kernel_rfl) (Nat.le_of_ble_eq_true rfl) (h _ rfl)
/-! 36 argus/argusref01.Tight region 3: 3 operations, tail 2, size 4 -/
noncomputable def ir36_o3 : OT :=
  .take none 18 (.op1 (.loadN 2) (.var 5)) <|
  .take none 2 (.const (.string ⟨#[]⟩)) <|
  .step (.eff none none (.store 31 (.tmp 3) (.tmp 18)) 0) false <|
  .done
theorem ir36_o3_ok : ordOf Tryz.prog 52 ir36_V 2 (rawReg ir36_body 3) = some ir36_o3 := by kernel_rfl

/-! ### 37: argus/argusref01.Alike  params #[28, 28] results #[4]  slots [(0, a), (1, b), (5, i)] -/
noncomputable def ir37_k0 : IR :=
  .cond (.var 40)
   (.seq (.reg [.asg none 4 (.const (.bool false))]) <|
    .ret)
   (.skip)
noncomputable def ir37_k1 : IR :=
  .reg [.asg none 5 (.op2 (.ibin .add .i64) (.var 5) (.const (.int .i64 1)))]
noncomputable def ir37_k2 : IR :=
  .seq (.block 1 (.seq (.drw [.asg none 40 (.ite (.op2 (.ibin .neq .u8) (.op1 .load1 (.op1 (.fadr 0) (.op2 (.ixa 3) (.var 0) (.var 5)))) (.op1 .load1 (.op1 (.fadr 0) (.op2 (.ixa 3) (.var 1) (.var 5))))) (.const (.bool true)) (.op2 (.sbin .neq) (.op1 .load1 (.op1 (.fadr 1) (.op2 (.ixa 3) (.var 0) (.var 5)))) (.op1 .load1 (.op1 (.fadr 1) (.op2 (.ixa 3) (.var 1) (.var 5))))))])
    (ir37_k0)))
  (ir37_k1)
noncomputable def ir37_l3 : IR :=
  .seq (.reg [.asg none 14 (.op2 (.ibin .lss .i64) (.var 5) (.op1 .lenS (.var 0)))]) <|
  .seq (.cond (.var 14)
    (.skip)
    (.exit 0))
  (ir37_k2)
noncomputable def ir37_k4 : IR :=
  .seq (.reg [.asg none 4 (.const (.bool true))]) <|
  .ret
noncomputable def ir37_k5 : IR :=
  .seq (.reg [.asg none 5 (.const (.int .i64 0))]) <|
  .seq (.block 0 (.loop ir37_l3))
  (ir37_k4)
noncomputable def ir37 : IR :=
  .seq (.reg [.asg none 4 (.const (.bool false)),
     .asg none 10 (.op2 (.ibin .neq .i64) (.op1 .lenS (.var 0)) (.op1 .lenS (.var 1)))]) <|
  .seq (.cond (.var 10)
    (.seq (.reg [.asg none 4 (.const (.bool false))]) <|
     .ret)
    (.skip))
  (ir37_k5)
def ir37_V : List Nat := [0, 1, 4, 5, 10, 14, 40]
theorem ir37_ok : (comp Tryz.prog Tryz.f37.ntmps ir37_V [] (Tryz.f37.body.getD .skip)).map IR.norm = some ir37 := by kernel_rfl
theorem ir37_calls {v0 v1 : Value} {w : World} {R : Ending → World → Prop} (h : ∀ ρ : Env, ρ 0 = v0 → ρ 1 = v1 → ir37.wp ⟨Tryz.prog, 41, ir37_V, []⟩ (retK [.tmp 4] R) (ksOf [.tmp 4] R) ρ w) :
    Calls Tryz.prog 37 #[v0, v1] w R := by
  obtain ⟨ir0, h1, h2⟩ := Option.map_eq_some_iff.1 ir37_ok
  exact calls_ir (args := #[v0, v1]) Tryz.func37 (c := Tryz.f37.body.getD .skip) rfl h1 h2 (by kernel_rfl) (show rvsOf Tryz.prog ir37_V Tryz.f37.results.toList = some [.tmp 4] by kernel_rfl) (Nat.le_of_ble_eq_true rfl) (h _ rfl rfl)

/-! ### 38: (argus/token.class).letter  params #[52] results #[4]  slots [(0, c)] -/
noncomputable def ir38 : IR :=
  .seq (.reg [.asg none 2 (.const (.bool false)),
     .asg none 2 (.ite (.op2 (.ibin .geq .u8) (.var 0) (.const (.int .u8 97))) (.op2 (.ibin .leq .u8) (.var 0) (.const (.int .u8 122))) (.const (.bool false)))]) <|
  .ret
def ir38_V : List Nat := [0, 2]
theorem ir38_ok : (comp Tryz.prog Tryz.f38.ntmps ir38_V [] (Tryz.f38.body.getD .skip)).map IR.norm = some ir38 := by kernel_rfl
theorem ir38_calls {v0 : Value} {w : World} {R : Ending → World → Prop} (h : ∀ ρ : Env, ρ 0 = v0 → ir38.wp ⟨Tryz.prog, 9, ir38_V, []⟩ (retK [.tmp 2] R) (ksOf [.tmp 2] R) ρ w) :
    Calls Tryz.prog 38 #[v0] w R := by
  obtain ⟨ir0, h1, h2⟩ := Option.map_eq_some_iff.1 ir38_ok
  exact calls_ir (args := #[v0]) Tryz.func38 (c := Tryz.f38.body.getD .skip) rfl h1 h2 (by kernel_rfl) (show rvsOf Tryz.prog ir38_V Tryz.f38.results.toList = some [.tmp 2] by kernel_rfl) (Nat.le_of_ble_eq_true rfl) (h _ rfl)

end Go.L01
/- Layer 1: readings: the inner functions. -/
namespace Go.L01
open Go Go.Eng Go.Proofs
set_option maxRecDepth 100000
set_option maxHeartbeats 2000000
/-! ### 39: strings.IndexFunc  params #[9, 54] results #[3]  slots [(0, s), (1, f)] -/
noncomputable def ir39 : IR :=
  .seq (.reg [.asg none 4 (.const (.int .i64 0)),
     .asg none 5 (.var 0),
     .asg none 6 (.var 1),
     .eff none (some 7) (.call { callee := .value (.func 56), args := #[(.tmp 5), (.tmp 6), (.const (.bool true))], argTypes := #[9, 54, 4] }) 3,
     .asg none 4 (.var 7)]) <|
  .ret
def ir39_V : List Nat := [0, 1, 4, 5, 6, 7]
theorem ir39_ok : (comp Tryz.prog Tryz.f39.ntmps ir39_V [] (Tryz.f39.body.getD .skip)).map IR.norm = some ir39 := by kernel_rfl
theorem ir39_calls {v0 v1 : Value} {w : World} {R : Ending → World → Prop} (h : ∀ ρ : Env, ρ 0 = v0 → ρ 1 = v1 → ir39.wp ⟨Tryz.prog, 8, ir39_V, []⟩ (retK [.tmp 4] R) (ksOf [.tmp 4] R) ρ w) :
    Calls Tryz.prog 39 #[v0, v1] w R := by
  obtain ⟨ir0, h1, h2⟩ := Option.map_eq_some_iff.1 ir39_ok
  exact calls_ir (args := #[v0, v1]) Tryz.func39 (c := Tryz.f39.body.getD .skip) rfl h1 h2 (by kernel_rfl) (show rvsOf Tryz.prog ir39_V Tryz.f39.results.toList = some [.tmp 4] by kernel_rfl) (Nat.le_of_ble_eq_true rfl) (h _ rfl rfl)

/-! ### 40: argus/token.IsName$1  params #[21] results #[4]  slots [(0, r)] -/
noncomputable def ir40 : IR :=
  .seq (.reg [.asg none 2 (.const (.bool false)),
     .asg none 5 (.op2 (.ibin .gtr .i32) (.var 0) (.const (.int .i32 126))),
     .asg (some (5, false)) 7 (.op1 (.conv .u8) (.var 0)),
     .eff (some (5, false)) (some 8) (.call { callee := .value (.func 41), args := #[(.tmp 7)], argTypes := #[52] }) 4,
     .asg none 2 (.ite (.var 5) (.const (.bool true)) (.op1 .not (.var 8)))]) <|
  .ret
def ir40_V : List Nat := [0, 2, 5, 7, 8]
theorem ir40_ok : (comp Tryz.prog Tryz.f40.ntmps ir40_V [] (Tryz.f40.body.getD .skip)).map IR.norm = some ir40 := by kernel_rfl
theorem ir40_calls {v0 : Value} {w : World} {R : Ending → World → Prop} (h : ∀ ρ : Env, ρ 0 = v0 → ir40.wp ⟨Tryz.prog, 11, ir40_V, []⟩ (retK [.tmp 2] R) (ksOf [.tmp 2] R) ρ w) :
    Calls Tryz.prog 40 #[v0] w R := by
  obtain ⟨ir0, h1, h2⟩ := Option.map_eq_some_iff.1 ir40_ok
  exact calls_ir (args := #[v0]) Tryz.func40 (c := Tryz.f40.body.getD .skip) rfl h1 h2 (by kernel_rfl) (show rvsOf Tryz.prog ir40_V Tryz.f40.results.toList = some [.tmp 2] by kernel_rfl) (Nat.le_of_ble_eq_true rfl) (h _ rfl)

/-! ### 41: (argus/token.class).part  params #[52] results #[4]  slots [(0, c)] -/
noncomputable def ir41 : IR :=
  .seq (.reg [.asg none 2 (.const (.bool false)),
     .asg none 3 (.var 0),
     .eff none (some 4) (.call { callee := .value (.func 38), args := #[(.tmp 3)], argTypes := #[52] }) 4,
     .asg none 5 (.var 4),
     .asg (some (5, false)) 6 (.var 0),
     .eff (some (5, false)) (some 7) (.call { callee := .value (.func 57), args := #[(.tmp 6)], argTypes := #[52] }) 4,
     .asg none 2 (.ite (.var 5) (.const (.bool true)) (.var 7))]) <|
  .ret
def ir41_V : List Nat := [0, 2, 3, 4, 5, 6, 7]
theorem ir41_ok : (comp Tryz.prog Tryz.f41.ntmps ir41_V [] (Tryz.f41.body.getD .skip)).map IR.norm = some ir41 := by kernel_rfl
theorem ir41_calls {v0 : Value} {w : World} {R : Ending → World → Prop} (h : ∀ ρ : Env, ρ 0 = v0 → ir41.wp ⟨Tryz.prog, 9, ir41_V, []⟩ (retK [.tmp 2] R) (ksOf [.tmp 2] R) ρ w) :
    Calls Tryz.prog 41 #[v0] w R := by
  obtain ⟨ir0, h1, h2⟩ := Option.map_eq_some_iff.1 ir41_ok
  exact calls_ir (args := #[v0]) Tryz.func41 (c := Tryz.f41.body.getD .skip) rfl h1 h2 (by kernel_rfl) (show rvsOf Tryz.prog ir41_V Tryz.f41.results.toList = some [.tmp 2] by kernel_rfl) (Nat.le_of_ble_eq_true rfl) (h _ rfl)

/-! ### 42: argus/argusref01.letter  params #[5] results #[4]  slots [(0, c)] -/
noncomputable def ir42 : IR :=
  .seq (.reg [.asg none 2 (.const (.bool false)),
     .asg none 2 (.ite (.op2 (.ibin .geq .u8) (.var 0) (.const (.int .u8 97))) (.op2 (.ibin .leq .u8) (.var 0) (.const (.int .u8 122))) (.const (.bool false)))]) <|
  .ret
def ir42_V : List Nat := [0, 2]
theorem ir42_ok : (comp Tryz.prog Tryz.f42.ntmps ir42_V [] (Tryz.f42.body.getD .skip)).map IR.norm = some ir42 := by kernel_rfl
theorem ir42_calls {v0 : Value} {w : World} {R : Ending → World → Prop} (h : ∀ ρ : Env, ρ 0 = v0 → ir42.wp ⟨Tryz.prog, 9, ir42_V, []⟩ (retK [.tmp 2] R) (ksOf [.tmp 2] R) ρ w) :
    Calls Tryz.prog 42 #[v0] w R := by
  obtain ⟨ir0, h1, h2⟩ := Option.map_eq_some_iff.1 ir42_ok
  exact calls_ir (args := #[v0]) Tryz.func42 (c := Tryz.f42.body.getD .skip) rfl h1 h2 (by kernel_rfl) (show rvsOf Tryz.prog ir42_V Tryz.f42.results.toList = some [.tmp 2] by kernel_rfl) (Nat.le_of_ble_eq_true rfl) (h _ rfl)

/-! ### 43: argus/argusref01.run  params #[9] results #[3]  slots [(0, s), (3, n)] -/
noncomputable def ir43_k0 : IR :=
  .block 1 (.reg [.asg none 3 (.op2 (.ibin .add .i64) (.var 3) (.const (.int .i64 1)))])
noncomputable def ir43_l1 : IR :=
  .seq (.reg [.asg none 8 (.op2 (.ibin .lss .i64) (.var 3) (.op1 .lenT (.var 0))),
     .asg (some (8, true)) 11 (.op2 .ixs (.var 0) (.var 3)),
     .eff (some (8, true)) (some 12) (.call { callee := .value (.func 42), args := #[(.tmp 11)], argTypes := #[5] }) 4,
     .asg (some (8, true)) 13 (.var 12),
     .asg (some (13, false)) 16 (.op2 .ixs (.var 0) (.var 3)),
     .eff (some (13, false)) (some 17) (.call { callee := .value (.func 58), args := #[(.tmp 16)], argTypes := #[5] }) 4,
     .asg none 19 (.ite (.var 8) (.ite (.var 13) (.const (.bool true)) (.var 17)) (.const (.bool false)))]) <|
  .seq (.cond (.var 19)
    (.skip)
    (.exit 0))
  (ir43_k0)
noncomputable def ir43_k2 : IR :=
  .seq (.reg [.asg none 2 (.var 3)]) <|
  .ret
noncomputable def ir43 : IR :=
  .seq (.reg [.asg none 2 (.const (.int .i64 0)),
     .asg none 3 (.const (.int .i64 0))]) <|
  .seq (.block 0 (.loop ir43_l1))
  (ir43_k2)
def ir43_V : List Nat := [0, 2, 3, 8, 11, 12, 13, 16, 17, 19]
theorem ir43_ok : (comp Tryz.prog Tryz.f43.ntmps ir43_V [] (Tryz.f43.body.getD .skip)).map IR.norm = some ir43 := by kernel_rfl
theorem ir43_calls {v0 : Value} {w : World} {R : Ending → World → Prop} (h : ∀ ρ : Env, ρ 0 = v0 → ir43.wp ⟨Tryz.prog, 23, ir43_V, []⟩ (retK [.tmp 2] R) (ksOf [.tmp 2] R) ρ w) :
    Calls Tryz.prog 43 #[v0] w R := by
  obtain ⟨ir0, h1, h2⟩ := Option.map_eq_some_iff.1 ir43_ok
  exact calls_ir (args := #[v0]) Tryz.func43 (c := Tryz.f43.body.getD .skip) rfl h1 h2 (by kernel_rfl) (show rvsOf Tryz.prog ir43_V Tryz.f43.results.toList = some [.tmp 2] by kernel_rfl) (Nat.le_of_ble_eq_true rfl) (h _ rfl)

/-! ### 44: argus/token.reserved  params #[] results #[57]  slots [(1, out), (3, w)] -/
noncomputable def ir44_k0 : IR :=
  .reg [.asg none 7 (.op2 (.ibin .add .i64) (.var 7) (.const (.int .i64 1)))]
noncomputable def ir44_k1 : IR :=
  .seq (.block 1 (.reg [.asg none 3 (.op1 .load1 (.op2 (.ixa 1) (.var 5) (.var 7))),
      .asg none 11 (.var 1),
      .asg none 12 (.var 3),
      .eff none none (.mapUpdate 57 (.tmp 11) (.tmp 12) (.const (.bool true))) 0]))
  (ir44_k0)
noncomputable def ir44_l2 : IR :=
  .seq (.reg [.asg none 8 (.op2 (.ibin .lss .i64) (.var 7) (.var 6))]) <|
  .seq (.cond (.var 8)
    (.skip)
    (.exit 0))
  (ir44_k1)
noncomputable def ir44_k3 : IR :=
  .seq (.reg [.asg none 0 (.var 1)]) <|
  .ret
noncomputable def ir44 : IR :=
  .seq (.reg [.asg none 0 (.const (.map none)),
     .eff none (some 4) (.makeMap 57 none) 57,
     .asg none 1 (.var 4),
     .eff none (some 5) (.call { callee := .value (.func 18), args := #[], argTypes := #[] }) 25,
     .asg none 6 (.op1 .lenS (.var 5)),
     .asg none 7 (.const (.int .i64 0))]) <|
  .seq (.block 0 (.loop ir44_l2))
  (ir44_k3)
def ir44_V : List Nat := [0, 1, 3, 4, 5, 6, 7, 8, 11, 12]
theorem ir44_ok : (comp Tryz.prog Tryz.f44.ntmps ir44_V [] (Tryz.f44.body.getD .skip)).map IR.norm = some ir44 := by kernel_rfl
theorem ir44_calls {w : World} {R : Ending → World → Prop} (h : ∀ ρ : Env, ir44.wp ⟨Tryz.prog, 15, ir44_V, []⟩ (retK [.tmp 0] R) (ksOf [.tmp 0] R) ρ w) :
    Calls Tryz.prog 44 #[] w R := by
  obtain ⟨ir0, h1, h2⟩ := Option.map_eq_some_iff.1 ir44_ok
  exact calls_ir (args := #[]) Tryz.func44 (c := Tryz.f44.body.getD .skip) rfl h1 h2 (by kernel_rfl) (show rvsOf Tryz.prog ir44_V Tryz.f44.results.toList = some [.tmp 0] by kernel_rfl) (Nat.le_of_ble_eq_true rfl) (h _ )

/-! ### 45: argus/argusref01.in  params #[25, 9] results #[4]  slots [(0, l), (1, s), (5, i)] -/
noncomputable def ir45_k0 : IR :=
  .reg [.asg none 5 (.op2 (.ibin .add .i64) (.var 5) (.const (.int .i64 1)))]
noncomputable def ir45_k1 : IR :=
  .seq (.block 1 (.seq (.reg [.asg none 17 (.op2 (.sbin .eql) (.op1 .load1 (.op2 (.ixa 1) (.var 0) (.var 5))) (.var 1))]) <|
    .cond (.var 17)
     (.seq (.reg [.asg none 4 (.const (.bool true))]) <|
      .ret)
     (.skip)))
  (ir45_k0)
noncomputable def ir45_l2 : IR :=
  .seq (.reg [.asg none 9 (.op2 (.ibin .lss .i64) (.var 5) (.op1 .lenS (.var 0)))]) <|
  .seq (.cond (.var 9)
    (.skip)
    (.exit 0))
  (ir45_k1)
noncomputable def ir45_k3 : IR :=
  .seq (.reg [.asg none 4 (.const (.bool false))]) <|
  .ret
noncomputable def ir45 : IR :=
  .seq (.reg [.asg none 4 (.const (.bool false)),
     .asg none 5 (.const (.int .i64 0))]) <|
  .seq (.block 0 (.loop ir45_l2))
  (ir45_k3)
def ir45_V : List Nat := [0, 1, 4, 5, 9, 17]
theorem ir45_ok : (comp Tryz.prog Tryz.f45.ntmps ir45_V [] (Tryz.f45.body.getD .skip)).map IR.norm = some ir45 := by kernel_rfl
theorem ir45_calls {v0 v1 : Value} {w : World} {R : Ending → World → Prop} (h : ∀ ρ : Env, ρ 0 = v0 → ρ 1 = v1 → ir45.wp ⟨Tryz.prog, 18, ir45_V, []⟩ (retK [.tmp 4] R) (ksOf [.tmp 4] R) ρ w) :
    Calls Tryz.prog 45 #[v0, v1] w R := by
  obtain ⟨ir0, h1, h2⟩ := Option.map_eq_some_iff.1 ir45_ok
  exact calls_ir (args := #[v0, v1]) Tryz.func45 (c := Tryz.f45.body.getD .skip) rfl h1 h2 (by kernel_rfl) (show rvsOf Tryz.prog ir45_V Tryz.f45.results.toList = some [.tmp 4] by kernel_rfl) (Nat.le_of_ble_eq_true rfl) (h _ rfl rfl)

/-! ### 48: argus/token.scanned  params #[9] results #[28, 25, 31]  slots [(0, src), (2, l), (3, comments), (4, fault), (5, s), (6, t)] -/
noncomputable def ir48_body : Code := (Tryz.f48.body).getD .skip
noncomputable def ir48_c0 : Code := (rfList ir48_body).getD 0 .skip
noncomputable def ir48_k0 : IR :=
  .ret
noncomputable def ir48_k1 : IR :=
  .seq (.raw (rawReg ir48_body 8))
  (ir48_k0)
noncomputable def ir48_k2 : IR :=
  .seq (.reg [.eff none (some 11) (.makeFunc (.func 63) #[] #[(.tmp 2), (.tmp 3), (.tmp 4)]) 1,
     .eff none none (.defer { callee := .value (.tmp 11), args := #[], argTypes := #[] }) 0,
     .asg none 12 (.var 0),
     .eff none (some 13) (.build 87 #[(0, (.tmp 12)), (2, (.const (.int .i64 1)))]) 87,
     .eff none (some 14) (.build 89 #[(0, (.tmp 13))]) 89,
     .eff none (some 15) (.box 89 (.tmp 14)) 85,
     .asg none 5 (.var 15),
     .asg none 16 (.var 5),
     .eff none (some 17) (.makeFunc (.func 64) #[(.tmp 16)] #[]) 90]) <|
  .seq (.block 0 (.raw ir48_c0))
  (ir48_k1)
noncomputable def ir48 : IR :=
  .seq (.reg [.eff none (some 2) (.alloc 28) 0,
     .eff none (some 3) (.alloc 25) 0,
     .eff none (some 4) (.alloc 31) 0,
     .asg none 9 (.op2 (.ibin .gtr .i64) (.op1 .lenT (.var 0)) (.const (.int .i64 20000)))]) <|
  .seq (.cond (.var 9)
    (.seq (.reg [.eff none (some 10) (.build 31 #[(0, (.const (.int .i64 2)))]) 31,
        .eff none none (.store 28 (.tmp 2) (.const (.slice none 0 0))) 0,
        .eff none none (.store 25 (.tmp 3) (.const (.slice none 0 0))) 0,
        .eff none none (.store 31 (.tmp 4) (.tmp 10)) 0]) <|
     .ret)
    (.skip))
  (ir48_k2)
def ir48_V : List Nat := [0, 2, 3, 4, 5, 6, 9, 10, 11, 12, 13, 14, 15, 16, 17, 18, 19, 20, 21, 22, 23, 24, 25, 26, 27, 28]
noncomputable def ir48_a0 : IR :=
  .reg [.eff none (some 6) (.alloc 38) 0,
    .eff none none (.store 38 (.tmp 6) (.tmp 18)) 0]
noncomputable def ir48_b0 : IR :=
  .block 1 (.reg [.asg none 19 (.op1 .load1 (.var 2)),
     .asg none 20 (.op1 (.loadN 3) (.var 6)),
     .eff none (some 21) (.buildSlice 28 1 #[(0, (.tmp 20))]) 28,
     .eff none (some 22) (.call { callee := .builtin .append, args := #[(.tmp 19), (.tmp 21)], argTypes := #[28, 28] }) 28,
     .eff none none (.store 28 (.tmp 2) (.tmp 22)) 0])
theorem ir48_rf0 : ∃ A B, ir48_c0 = .rangeFunc (.tmp 17) #[18] A B ∧ Part Tryz.prog 29 ir48_V A ir48_a0 ∧ Part Tryz.prog 29 ir48_V B ir48_b0 :=
  ⟨rfA ir48_c0, rfB ir48_c0, by kernel_rfl, ⟨by kernel_rfl, by kernel_rfl⟩, ⟨by kernel_rfl, by kernel_rfl⟩⟩
theorem ir48_ok : (comp Tryz.prog Tryz.f48.ntmps ir48_V [8] (Tryz.f48.body.getD .skip)).map IR.norm = some ir48 := by kernel_rfl
theorem ir48_calls {v0 : Value} {w : World} {R : Ending → World → Prop} (h : ∀ ρ : Env, ρ 0 = v0 → ρ gS = .tuple #[] → ir48.wp ⟨Tryz.prog, 29, ir48_V, dAny⟩ (endK Tryz.prog [.cell1 2, .cell1 3, .cellN 4 2] R .returning) (ksD Tryz.prog [.cell1 2, .cell1 3, .cellN 4 2] R) ρ w) :
    Calls Tryz.prog 48 #[v0] w R := by
  obtain ⟨ir0, h1, h2⟩ := Option.map_eq_some_iff.1 ir48_ok
  exact calls_irD (args := #[v0]) Tryz.func48 (c := Tryz.f48.body.getD .skip) rfl h1 h2 (by kernel_rfl) (show rvsOf Tryz.prog ir48_V Tryz.f48.results.toList = some [.cell1 2, .cell1 3, .cellN 4 2] by kernel_rfl) (Nat.le_of_ble_eq_true rfl) (h _ rfl rfl)
/-! 48 argus/token.scanned region 8: 9 operations, tail 8, size 19 -/
noncomputable def ir48_o8 : OT :=
  .take none 23 (.op1 .load1 (.var 2)) <|
  .take none 24 (.var 5) <|
  .take none 25 (.op1 .nilc (.var 24)) <|
  .take none 26 (.op1 (.fadr 3) (.var 25)) <|
  .take none 27 (.op1 .load1 (.var 26)) <|
  .both (.step (.eff none (some 28) (.build 31 #[]) 31) true <|
    .step (.eff none none (.store 28 (.tmp 2) (.tmp 23)) 0) true <|
    .step (.eff none none (.store 25 (.tmp 3) (.tmp 27)) 0) true <|
    .step (.eff none none (.store 31 (.tmp 4) (.tmp 28)) 0) false <|
    .done) <|
  .step (.eff none none (.store 28 (.tmp 2) (.tmp 23)) 0) true <|
  .both (.step (.eff none (some 28) (.build 31 #[]) 31) true <|
    .step (.eff none none (.store 25 (.tmp 3) (.tmp 27)) 0) true <|
    .step (.eff none none (.store 31 (.tmp 4) (.tmp 28)) 0) false <|
    .done) <|
  .step (.eff none none (.store 25 (.tmp 3) (.tmp 27)) 0) true <|
  .step (.eff none (some 28) (.build 31 #[]) 31) true <|
  .step (.eff none none (.store 31 (.tmp 4) (.tmp 28)) 0) false <|
  .done
theorem ir48_o8_ok : ordOf Tryz.prog 29 ir48_V 8 (rawReg ir48_body 8) = some ir48_o8 := by kernel_rfl

/-! ### 49: argus/argusref01.read  params #[9] results #[28, 25, 31]  slots [(0, src), (5, out), (6, comments), (7, line), (8, at), (9, n), (10, kind), (11, n), (12, e)] -/
noncomputable def ir49_k0 : IR :=
  .reg [.asg none 37 (.var 5),
    .asg none 38 (.var 10),
    .asg none 44 (.op3 .stLoHi (.var 0) (.var 8) (.op2 (.ibin .add .i64) (.var 8) (.var 11))),
    .asg none 45 (.var 7),
    .eff none (some 46) (.build 38 #[(0, (.tmp 38)), (1, (.tmp 44)), (2, (.tmp 45))]) 38,
    .eff none (some 47) (.buildSlice 28 1 #[(0, (.tmp 46))]) 28,
    .eff none (some 48) (.call { callee := .builtin .append, args := #[(.tmp 37), (.tmp 47)], argTypes := #[28, 28] }) 28,
    .asg none 5 (.var 48),
    .asg none 8 (.op2 (.ibin .add .i64) (.var 8) (.var 11))]
noncomputable def ir49_k1 : IR :=
  .cond (.var 58)
   (.reg [.asg none 8 (.op2 (.ibin .add .i64) (.var 8) (.const (.int .i64 1)))])
   (.seq (.reg [.asg none 63 (.op2 (.ibin .eql .u8) (.var 23) (.const (.int .u8 37)))]) <|
    .cond (.var 63)
     (.reg [.asg none 67 (.op2 .stLo (.var 0) (.var 8)),
        .eff none (some 68) (.call { callee := .value (.func 65), args := #[(.tmp 67)], argTypes := #[9] }) 3,
        .asg none 9 (.var 68),
        .asg none 69 (.var 6),
        .asg none 75 (.op3 .stLoHi (.var 0) (.var 8) (.op2 (.ibin .add .i64) (.var 8) (.var 9))),
        .eff none (some 76) (.buildSlice 25 1 #[(0, (.tmp 75))]) 25,
        .eff none (some 77) (.call { callee := .builtin .append, args := #[(.tmp 69), (.tmp 76)], argTypes := #[25, 25] }) 25,
        .asg none 6 (.var 77),
        .asg none 8 (.op2 (.ibin .add .i64) (.var 8) (.var 9))])
     (.seq (.reg [.asg none 27 (.op2 .stLo (.var 0) (.var 8)),
         .eff none (some 28) (.call { callee := .value (.func 66), args := #[(.tmp 27)], argTypes := #[9] }) 91,
         .asg none 24 (.var 28),
         .asg none 29 (.op1 (.ext 0) (.var 24)),
         .asg none 30 (.op1 (.ext 1) (.var 24)),
         .asg none 31 (.op1 (.ext 2) (.var 24)),
         .asg none 10 (.var 29),
         .asg none 11 (.var 30),
         .asg none 12 (.var 31),
         .asg none 33 (.op2 (.ibin .neq .i64) (.var 12) (.const (.int .i64 0)))]) <|
      .seq (.cond (.var 33)
        (.seq (.reg [.asg none 34 (.var 12),
            .asg none 35 (.var 7),
            .eff none (some 36) (.build 31 #[(0, (.tmp 34)), (1, (.tmp 35))]) 31,
            .asg none 2 (.const (.slice none 0 0)),
            .asg none 3 (.const (.slice none 0 0)),
            .eff none none (.store 31 (.tmp 4) (.tmp 36)) 0]) <|
         .ret)
        (.skip))
      (ir49_k0)))
noncomputable def ir49_k2 : IR :=
  .block 1 (.seq (.reg [.asg none 23 (.op2 .ixs (.var 0) (.var 8))]) <|
   .block 2 (.seq (.reg [.asg none 52 (.op2 (.ibin .eql .u8) (.var 23) (.const (.int .u8 10)))]) <|
    .cond (.var 52)
     (.reg [.asg none 7 (.op2 (.ibin .add .i64) (.var 7) (.const (.int .i64 1))),
        .asg none 8 (.op2 (.ibin .add .i64) (.var 8) (.const (.int .i64 1)))])
     (.seq (.reg [.asg none 58 (.op2 (.ibin .eql .u8) (.var 23) (.const (.int .u8 32)))]) <|
      .seq (.cond (.var 58)
        (.skip)
        (.reg [.asg none 58 (.op2 (.ibin .eql .u8) (.var 23) (.const (.int .u8 9)))]))
      (ir49_k1))))
noncomputable def ir49_l3 : IR :=
  .seq (.reg [.asg none 20 (.op2 (.ibin .lss .i64) (.var 8) (.op1 .lenT (.var 0)))]) <|
  .seq (.cond (.var 20)
    (.skip)
    (.exit 0))
  (ir49_k2)
noncomputable def ir49_k4 : IR :=
  .seq (.reg [.asg none 81 (.var 5),
     .asg none 82 (.var 6),
     .eff none (some 83) (.build 31 #[]) 31,
     .asg none 2 (.var 81),
     .asg none 3 (.var 82),
     .eff none none (.store 31 (.tmp 4) (.tmp 83)) 0]) <|
  .ret
noncomputable def ir49_k5 : IR :=
  .seq (.reg [.asg none 5 (.const (.slice none 0 0)),
     .asg none 6 (.const (.slice none 0 0)),
     .asg none 7 (.const (.int .i64 1)),
     .asg none 8 (.const (.int .i64 0))]) <|
  .seq (.block 0 (.loop ir49_l3))
  (ir49_k4)
noncomputable def ir49 : IR :=
  .seq (.reg [.asg none 2 (.const (.slice none 0 0)),
     .asg none 3 (.const (.slice none 0 0)),
     .eff none (some 4) (.alloc 31) 0,
     .asg none 15 (.op2 (.ibin .gtr .i64) (.op1 .lenT (.var 0)) (.const (.int .i64 20000)))]) <|
  .seq (.cond (.var 15)
    (.seq (.reg [.eff none (some 16) (.build 31 #[(0, (.const (.int .i64 2)))]) 31,
        .asg none 2 (.const (.slice none 0 0)),
        .asg none 3 (.const (.slice none 0 0)),
        .eff none none (.store 31 (.tmp 4) (.tmp 16)) 0]) <|
     .ret)
    (.skip))
  (ir49_k5)
def ir49_V : List Nat := [0, 2, 3, 4, 5, 6, 7, 8, 9, 10, 11, 12, 15, 16, 20, 23, 24, 27, 28, 29, 30, 31, 33, 34, 35, 36, 37, 38, 44, 45, 46, 47, 48, 52, 58, 63, 67, 68, 69, 75, 76, 77, 81, 82, 83]
theorem ir49_ok : (comp Tryz.prog Tryz.f49.ntmps ir49_V [] (Tryz.f49.body.getD .skip)).map IR.norm = some ir49 := by kernel_rfl
theorem ir49_calls {v0 : Value} {w : World} {R : Ending → World → Prop} (h : ∀ ρ : Env, ρ 0 = v0 → ir49.wp ⟨Tryz.prog, 84, ir49_V, []⟩ (retK [.tmp 2, .tmp 3, .cellN 4 2] R) (ksOf [.tmp 2, .tmp 3, .cellN 4 2] R) ρ w) :
    Calls Tryz.prog 49 #[v0] w R := by
  obtain ⟨ir0, h1, h2⟩ := Option.map_eq_some_iff.1 ir49_ok
  exact calls_ir (args := #[v0]) Tryz.func49 (c := Tryz.f49.body.getD .skip) rfl h1 h2 (by kernel_rfl) (show rvsOf Tryz.prog ir49_V Tryz.f49.results.toList = some [.tmp 2, .tmp 3, .cellN 4 2] by kernel_rfl) (Nat.le_of_ble_eq_true rfl) (h _ rfl)

/-! ### 50: argus/token.right  params #[38] results #[4]  slots [(0, t), (1, t)] -/
noncomputable def ir50_body : Code := ((Tryz.f50.body).getD .skip)
noncomputable def ir50_k0 : IR :=
  .ret
noncomputable def ir50_k1 : IR :=
  .seq (.reg [.asg none 2 (.const (.bool false))]) <|
  .ret
noncomputable def ir50 : IR :=
  .seq (.reg [.eff none (some 1) (.box 38 (.tmp 0)) 0,
     .asg none 2 (.const (.bool false)),
     .asg none 4 (.op1 .load1 (.op1 (.fadr 0) (.var 1)))]) <|
  .seq (.block 0 (.seq (.reg [.asg none 5 (.op2 (.ibin .eql .u8) (.var 4) (.const (.int .u8 1)))]) <|
    .cond (.var 5)
     (.seq (.reg [.asg none 8 (.op1 .load1 (.op1 (.fadr 1) (.var 1))),
         .eff none (some 9) (.call { callee := .value (.func 13), args := #[(.tmp 8)], argTypes := #[9] }) 4,
         .asg none 2 (.var 9)]) <|
      .ret)
     (.seq (.reg [.asg none 10 (.op2 (.ibin .eql .u8) (.var 4) (.const (.int .u8 2)))]) <|
      .cond (.var 10)
       (.seq (.reg [.asg none 13 (.op1 .load1 (.op1 (.fadr 1) (.var 1))),
           .eff none (some 14) (.call { callee := .value (.func 15), args := #[(.tmp 13)], argTypes := #[9] }) 4,
           .asg none 2 (.var 14)]) <|
        .ret)
       (.seq (.reg [.asg none 15 (.op2 (.ibin .eql .u8) (.var 4) (.const (.int .u8 3)))]) <|
        .cond (.var 15)
         (.seq (.reg [.asg none 18 (.op1 .load1 (.op1 (.fadr 1) (.var 1))),
             .eff none (some 19) (.call { callee := .value (.func 67), args := #[(.tmp 18)], argTypes := #[9] }) 4,
             .asg none 2 (.var 19)]) <|
          .ret)
         (.seq (.reg [.asg none 20 (.op2 (.ibin .eql .u8) (.var 4) (.const (.int .u8 4)))]) <|
          .cond (.var 20)
           (.seq (.raw (rawReg ir50_body 9))
            (ir50_k0))
           (.skip))))))
  (ir50_k1)
def ir50_V : List Nat := [0, 1, 2, 4, 5, 8, 9, 10, 13, 14, 15, 18, 19, 20, 22, 23, 24, 25]
theorem ir50_ok : (comp Tryz.prog Tryz.f50.ntmps ir50_V [9] (Tryz.f50.body.getD .skip)).map IR.norm = some ir50 := by kernel_rfl
theorem ir50_calls {v0 : Value} {w : World} {R : Ending → World → Prop} (h : ∀ ρ : Env, ρ 0 = v0 → ir50.wp ⟨Tryz.prog, 26, ir50_V, []⟩ (retK [.tmp 2] R) (ksOf [.tmp 2] R) ρ w) :
    Calls Tryz.prog 50 #[v0] w R := by
  obtain ⟨ir0, h1, h2⟩ := Option.map_eq_some_iff.1 ir50_ok
  exact calls_ir (args := #[v0]) Tryz.func50 (c := (Tryz.f50.body.getD .skip)) rfl h1 h2 (by kernel_rfl) (show rvsOf Tryz.prog ir50_V Tryz.f50.results.toList = some [.tmp 2] by kernel_rfl) (Nat.le_of_ble_eq_true rfl) (h _ rfl)
/-! 50 argus/token.right region 9: 5 operations, tail 3, size 6 -/
noncomputable def ir50_o9 : OT :=
  .take none 23 (.op1 (.fadr 1) (.var 1)) <|
  .take none 24 (.op1 .load1 (.var 23)) <|
  .step (.eff none (some 22) (.call { callee := .value (.func 20), args := #[], argTypes := #[] }) 25) true <|
  .step (.eff none (some 25) (.call { callee := .value (.func 68), args := #[(.tmp 22), (.tmp 24)], argTypes := #[25, 9] }) 4) false <|
  .step (.asg none 2 (.var 25)) false <|
  .done
theorem ir50_o9_ok : ordOf Tryz.prog 26 ir50_V 3 (rawReg ir50_body 9) = some ir50_o9 := by kernel_rfl


/-! ### 51: argus/argusref01.right  params #[5, 9] results #[4]  slots [(0, kind), (1, s)] -/
noncomputable def ir51_k0 : IR :=
  .seq (.reg [.asg none 4 (.const (.bool false))]) <|
  .ret
noncomputable def ir51 : IR :=
  .seq (.reg [.asg none 4 (.const (.bool false)),
     .asg none 5 (.var 0)]) <|
  .seq (.block 0 (.seq (.reg [.asg none 6 (.op2 (.ibin .eql .u8) (.var 5) (.const (.int .u8 1)))]) <|
    .cond (.var 6)
     (.seq (.reg [.asg none 8 (.var 1),
         .eff none (some 9) (.call { callee := .value (.func 14), args := #[(.tmp 8)], argTypes := #[9] }) 4,
         .asg none 4 (.var 9)]) <|
      .ret)
     (.seq (.reg [.asg none 10 (.op2 (.ibin .eql .u8) (.var 5) (.const (.int .u8 2)))]) <|
      .cond (.var 10)
       (.seq (.reg [.asg none 12 (.var 1),
           .eff none (some 13) (.call { callee := .value (.func 16), args := #[(.tmp 12)], argTypes := #[9] }) 4,
           .asg none 4 (.var 13)]) <|
        .ret)
       (.seq (.reg [.asg none 14 (.op2 (.ibin .eql .u8) (.var 5) (.const (.int .u8 3)))]) <|
        .cond (.var 14)
         (.seq (.reg [.asg none 16 (.var 1),
             .eff none (some 17) (.call { callee := .value (.func 69), args := #[(.tmp 16)], argTypes := #[9] }) 4,
             .asg none 4 (.var 17)]) <|
          .ret)
         (.seq (.reg [.asg none 18 (.op2 (.ibin .eql .u8) (.var 5) (.const (.int .u8 4)))]) <|
          .cond (.var 18)
           (.seq (.reg [.eff none (some 20) (.call { callee := .value (.func 21), args := #[], argTypes := #[] }) 25,
               .asg none 21 (.var 1),
               .eff none (some 22) (.call { callee := .value (.func 45), args := #[(.tmp 20), (.tmp 21)], argTypes := #[25, 9] }) 4,
               .asg none 4 (.var 22)]) <|
            .ret)
           (.skip))))))
  (ir51_k0)
def ir51_V : List Nat := [0, 1, 4, 5, 6, 8, 9, 10, 12, 13, 14, 16, 17, 18, 20, 21, 22]
theorem ir51_ok : (comp Tryz.prog Tryz.f51.ntmps ir51_V [] (Tryz.f51.body.getD .skip)).map IR.norm = some ir51 := by kernel_rfl
theorem ir51_calls {v0 v1 : Value} {w : World} {R : Ending → World → Prop} (h : ∀ ρ : Env, ρ 0 = v0 → ρ 1 = v1 → ir51.wp ⟨Tryz.prog, 23, ir51_V, []⟩ (retK [.tmp 4] R) (ksOf [.tmp 4] R) ρ w) :
    Calls Tryz.prog 51 #[v0, v1] w R := by
  obtain ⟨ir0, h1, h2⟩ := Option.map_eq_some_iff.1 ir51_ok
  exact calls_ir (args := #[v0, v1]) Tryz.func51 (c := Tryz.f51.body.getD .skip) rfl h1 h2 (by kernel_rfl) (show rvsOf Tryz.prog ir51_V Tryz.f51.results.toList = some [.tmp 4] by kernel_rfl) (Nat.le_of_ble_eq_true rfl) (h _ rfl rfl)

/-! ### 56: strings.indexFunc  params #[9, 54, 4] results #[3]  slots [(0, s), (1, f), (2, truth), (7, i), (8, r)] -/
noncomputable def ir56_k0 : IR :=
  .block 1 (.seq (.reg [.asg none 13 (.op1 (.ext 1) (.var 11)),
      .asg none 14 (.op1 (.ext 2) (.var 11)),
      .asg none 7 (.var 13),
      .asg none 8 (.var 14),
      .asg none 15 (.var 1),
      .asg none 16 (.var 8),
      .eff none (some 17) (.call { callee := .value (.tmp 15), args := #[(.tmp 16)], argTypes := #[21] }) 4,
      .asg none 19 (.op2 (.bbin .eql) (.var 17) (.var 2))]) <|
   .cond (.var 19)
    (.seq (.reg [.asg none 6 (.var 7)]) <|
     .ret)
    (.skip))
noncomputable def ir56_l1 : IR :=
  .seq (.reg [.eff none (some 11) (.next (.tmp 10) true) 0,
     .asg none 12 (.op1 (.ext 0) (.var 11))]) <|
  .seq (.cond (.var 12)
    (.skip)
    (.exit 0))
  (ir56_k0)
noncomputable def ir56_k2 : IR :=
  .seq (.reg [.asg none 6 (.const (.int .i64 (-1)))]) <|
  .ret
noncomputable def ir56 : IR :=
  .seq (.reg [.asg none 6 (.const (.int .i64 0)),
     .asg none 9 (.var 0),
     .eff none (some 10) (.range 9 (.tmp 9)) 0]) <|
  .seq (.block 0 (.loop ir56_l1))
  (ir56_k2)
def ir56_V : List Nat := [0, 1, 2, 6, 7, 8, 9, 10, 11, 12, 13, 14, 15, 16, 17, 19]
theorem ir56_ok : (comp Tryz.prog Tryz.f56.ntmps ir56_V [] (Tryz.f56.body.getD .skip)).map IR.norm = some ir56 := by kernel_rfl
theorem ir56_calls {v0 v1 v2 : Value} {w : World} {R : Ending → World → Prop} (h : ∀ ρ : Env, ρ 0 = v0 → ρ 1 = v1 → ρ 2 = v2 → ir56.wp ⟨Tryz.prog, 21, ir56_V, []⟩ (retK [.tmp 6] R) (ksOf [.tmp 6] R) ρ w) :
    Calls Tryz.prog 56 #[v0, v1, v2] w R := by
  obtain ⟨ir0, h1, h2⟩ := Option.map_eq_some_iff.1 ir56_ok
  exact calls_ir (args := #[v0, v1, v2]) Tryz.func56 (c := Tryz.f56.body.getD .skip) rfl h1 h2 (by kernel_rfl) (show rvsOf Tryz.prog ir56_V Tryz.f56.results.toList = some [.tmp 6] by kernel_rfl) (Nat.le_of_ble_eq_true rfl) (h _ rfl rfl rfl)

/-! ### 57: (argus/token.class).digit  params #[52] results #[4]  slots [(0, c)] -/
noncomputable def ir57 : IR :=
  .seq (.reg [.asg none 2 (.const (.bool false)),
     .asg none 2 (.ite (.op2 (.ibin .geq .u8) (.var 0) (.const (.int .u8 48))) (.op2 (.ibin .leq .u8) (.var 0) (.const (.int .u8 57))) (.const (.bool false)))]) <|
  .ret
def ir57_V : List Nat := [0, 2]
theorem ir57_ok : (comp Tryz.prog Tryz.f57.ntmps ir57_V [] (Tryz.f57.body.getD .skip)).map IR.norm = some ir57 := by kernel_rfl
theorem ir57_calls {v0 : Value} {w : World} {R : Ending → World → Prop} (h : ∀ ρ : Env, ρ 0 = v0 → ir57.wp ⟨Tryz.prog, 9, ir57_V, []⟩ (retK [.tmp 2] R) (ksOf [.tmp 2] R) ρ w) :
    Calls Tryz.prog 57 #[v0] w R := by
  obtain ⟨ir0, h1, h2⟩ := Option.map_eq_some_iff.1 ir57_ok
  exact calls_ir (args := #[v0]) Tryz.func57 (c := Tryz.f57.body.getD .skip) rfl h1 h2 (by kernel_rfl) (show rvsOf Tryz.prog ir57_V Tryz.f57.results.toList = some [.tmp 2] by kernel_rfl) (Nat.le_of_ble_eq_true rfl) (h _ rfl)

/-! ### 58: argus/argusref01.digit  params #[5] results #[4]  slots [(0, c)] -/
noncomputable def ir58 : IR :=
  .seq (.reg [.asg none 2 (.const (.bool false)),
     .asg none 2 (.ite (.op2 (.ibin .geq .u8) (.var 0) (.const (.int .u8 48))) (.op2 (.ibin .leq .u8) (.var 0) (.const (.int .u8 57))) (.const (.bool false)))]) <|
  .ret
def ir58_V : List Nat := [0, 2]
theorem ir58_ok : (comp Tryz.prog Tryz.f58.ntmps ir58_V [] (Tryz.f58.body.getD .skip)).map IR.norm = some ir58 := by kernel_rfl
theorem ir58_calls {v0 : Value} {w : World} {R : Ending → World → Prop} (h : ∀ ρ : Env, ρ 0 = v0 → ir58.wp ⟨Tryz.prog, 9, ir58_V, []⟩ (retK [.tmp 2] R) (ksOf [.tmp 2] R) ρ w) :
    Calls Tryz.prog 58 #[v0] w R := by
  obtain ⟨ir0, h1, h2⟩ := Option.map_eq_some_iff.1 ir58_ok
  exact calls_ir (args := #[v0]) Tryz.func58 (c := Tryz.f58.body.getD .skip) rfl h1 h2 (by kernel_rfl) (show rvsOf Tryz.prog ir58_V Tryz.f58.results.toList = some [.tmp 2] by kernel_rfl) (Nat.le_of_ble_eq_true rfl) (h _ rfl)

/-! ### 64: (*argus/token.scanner).tokens  params #[85, 64] results #[]  slots [(0, s), (1, yield)] -/
noncomputable def ir64_k0 : IR :=
  .reg [.asg none 18 (.var 0),
    .eff none (some 19) (.call { callee := .value (.func 83), args := #[(.tmp 18)], argTypes := #[85] }) 0]
noncomputable def ir64_k1 : IR :=
  .seq (.block 1 (.seq (.reg [.asg none 20 (.var 1),
       .asg none 21 (.var 0),
       .eff none (some 22) (.call { callee := .value (.func 84), args := #[(.tmp 21)], argTypes := #[85] }) 38,
       .eff none (some 23) (.call { callee := .value (.tmp 20), args := #[(.tmp 22)], argTypes := #[38] }) 4,
       .asg none 24 (.op1 .not (.var 23))]) <|
    .cond (.var 24)
     (.ret)
     (.skip)))
  (ir64_k0)
noncomputable def ir64_k2 : IR :=
  .seq (.cond (.var 17)
    (.skip)
    (.exit 0))
  (ir64_k1)
noncomputable def ir64_l3 : IR :=
  .seq (.drw [.asg none 17 (.op2 (.ibin .lss .i64) (.op1 .load1 (.op1 (.fadr 1) (.op1 (.fadr 0) (.op1 .nilc (.var 0))))) (.op1 .lenT (.op1 .load1 (.op1 (.fadr 0) (.op1 (.fadr 0) (.op1 .nilc (.var 0)))))))])
  (ir64_k2)
noncomputable def ir64 : IR :=
  .seq (.reg [.asg none 4 (.var 0),
     .eff none (some 5) (.call { callee := .value (.func 83), args := #[(.tmp 4)], argTypes := #[85] }) 0]) <|
  .block 0 (.loop ir64_l3)
def ir64_V : List Nat := [0, 1, 4, 5, 17, 18, 19, 20, 21, 22, 23, 24]
theorem ir64_ok : (comp Tryz.prog Tryz.f64.ntmps ir64_V [] (Tryz.f64.body.getD .skip)).map IR.norm = some ir64 := by kernel_rfl
theorem ir64_calls {v0 v1 : Value} {w : World} {R : Ending → World → Prop} (h : ∀ ρ : Env, ρ 0 = v0 → ρ 1 = v1 → ir64.wp ⟨Tryz.prog, 25, ir64_V, []⟩ (retK [] R) (ksOf [] R) ρ w) :
    Calls Tryz.prog 64 #[v0, v1] w R := by
  obtain ⟨ir0, h1, h2⟩ := Option.map_eq_some_iff.1 ir64_ok
  exact calls_ir (args := #[v0, v1]) Tryz.func64 (c := Tryz.f64.body.getD .skip) rfl h1 h2 (by kernel_rfl) (show rvsOf Tryz.prog ir64_V Tryz.f64.results.toList = some [] by kernel_rfl) (Nat.le_of_ble_eq_true rfl) (h _ rfl rfl)

/-! ### 65: argus/argusref01.comment  params #[9] results #[3]  slots [(0, s), (3, n)] -/
noncomputable def ir65_k0 : IR :=
  .block 1 (.reg [.asg none 3 (.op2 (.ibin .add .i64) (.var 3) (.const (.int .i64 1)))])
noncomputable def ir65_l1 : IR :=
  .seq (.reg [.asg none 13 (.ite (.op2 (.ibin .lss .i64) (.var 3) (.op1 .lenT (.var 0))) (.op2 (.ibin .neq .u8) (.op2 .ixs (.var 0) (.var 3)) (.const (.int .u8 10))) (.const (.bool false)))]) <|
  .seq (.cond (.var 13)
    (.skip)
    (.exit 0))
  (ir65_k0)
noncomputable def ir65_k2 : IR :=
  .seq (.reg [.asg none 2 (.var 3)]) <|
  .ret
noncomputable def ir65 : IR :=
  .seq (.reg [.asg none 2 (.const (.int .i64 0)),
     .asg none 3 (.const (.int .i64 0))]) <|
  .seq (.block 0 (.loop ir65_l1))
  (ir65_k2)
def ir65_V : List Nat := [0, 2, 3, 13]
theorem ir65_ok : (comp Tryz.prog Tryz.f65.ntmps ir65_V [] (Tryz.f65.body.getD .skip)).map IR.norm = some ir65 := by kernel_rfl
theorem ir65_calls {v0 : Value} {w : World} {R : Ending → World → Prop} (h : ∀ ρ : Env, ρ 0 = v0 → ir65.wp ⟨Tryz.prog, 17, ir65_V, []⟩ (retK [.tmp 2] R) (ksOf [.tmp 2] R) ρ w) :
    Calls Tryz.prog 65 #[v0] w R := by
  obtain ⟨ir0, h1, h2⟩ := Option.map_eq_some_iff.1 ir65_ok
  exact calls_ir (args := #[v0]) Tryz.func65 (c := Tryz.f65.body.getD .skip) rfl h1 h2 (by kernel_rfl) (show rvsOf Tryz.prog ir65_V Tryz.f65.results.toList = some [.tmp 2] by kernel_rfl) (Nat.le_of_ble_eq_true rfl) (h _ rfl)

/-! ### 66: argus/argusref01.first  params #[9] results #[5, 3, 29]  slots [(0, s), (5, c), (6, n), (7, n)] -/
noncomputable def ir66_body : Code := ((Tryz.f66.body).getD .skip)
noncomputable def ir66_k0 : IR :=
  .seq (.reg [.asg none 21 (.var 6),
     .asg none 2 (.const (.int .u8 1)),
     .asg none 3 (.var 21),
     .asg none 4 (.const (.int .i64 0))]) <|
  .ret
noncomputable def ir66_k1 : IR :=
  .seq (.reg [.asg none 20 (.op2 (.ibin .gtr .i64) (.var 6) (.const (.int .i64 12)))]) <|
  .seq (.cond (.var 20)
    (.seq (.reg [.asg none 2 (.const (.int .u8 0)),
        .asg none 3 (.const (.int .i64 0)),
        .asg none 4 (.const (.int .i64 12))]) <|
     .ret)
    (.skip))
  (ir66_k0)
noncomputable def ir66_k2 : IR :=
  .seq (.reg [.asg none 31 (.var 7),
     .asg none 2 (.const (.int .u8 3)),
     .asg none 3 (.var 31),
     .asg none 4 (.const (.int .i64 0))]) <|
  .ret
noncomputable def ir66_k3 : IR :=
  .seq (.reg [.asg none 2 (.const (.int .u8 0)),
     .asg none 3 (.const (.int .i64 0)),
     .asg none 4 (.const (.int .i64 10))]) <|
  .ret
noncomputable def ir66_k4 : IR :=
  .seq (.cond (.var 44)
    (.seq (.reg [.asg none 2 (.const (.int .u8 4)),
        .asg none 3 (.const (.int .i64 1)),
        .asg none 4 (.const (.int .i64 0))]) <|
     .ret)
    (.skip))
  (ir66_k3)
noncomputable def ir66_k5 : IR :=
  .seq (.raw (rawReg ir66_body 16))
  (ir66_k4)
noncomputable def ir66_k6 : IR :=
  .seq (.cond (.var 40)
    (.seq (.reg [.asg none 2 (.const (.int .u8 4)),
        .asg none 3 (.const (.int .i64 2)),
        .asg none 4 (.const (.int .i64 0))]) <|
     .ret)
    (.skip))
  (ir66_k5)
noncomputable def ir66_k7 : IR :=
  .seq (.raw (rawReg ir66_body 14))
  (ir66_k6)
noncomputable def ir66_k8 : IR :=
  .seq (.reg [.asg none 22 (.var 5),
     .eff none (some 23) (.call { callee := .value (.func 58), args := #[(.tmp 22)], argTypes := #[5] }) 4]) <|
  .seq (.cond (.var 23)
    (.seq (.reg [.asg none 24 (.var 0),
        .eff none (some 25) (.call { callee := .value (.func 85), args := #[(.tmp 24)], argTypes := #[9] }) 3,
        .asg none 7 (.var 25),
        .asg none 28 (.op3 .stLoHi (.var 0) (.const (.int .i64 0)) (.var 7)),
        .eff none (some 29) (.call { callee := .value (.func 69), args := #[(.tmp 28)], argTypes := #[9] }) 4,
        .asg none 30 (.op1 .not (.var 29))]) <|
     .seq (.cond (.var 30)
       (.seq (.reg [.asg none 2 (.const (.int .u8 0)),
           .asg none 3 (.const (.int .i64 0)),
           .asg none 4 (.const (.int .i64 11))]) <|
        .ret)
       (.skip))
     (ir66_k2))
    (.skip))
  (ir66_k7)
noncomputable def ir66 : IR :=
  .seq (.reg [.asg none 2 (.const (.int .u8 0)),
     .asg none 3 (.const (.int .i64 0)),
     .asg none 4 (.const (.int .i64 0)),
     .asg none 5 (.op2 .ixs (.var 0) (.const (.int .i64 0))),
     .asg none 10 (.var 5),
     .eff none (some 11) (.call { callee := .value (.func 42), args := #[(.tmp 10)], argTypes := #[5] }) 4]) <|
  .seq (.cond (.var 11)
    (.seq (.reg [.asg none 12 (.var 0),
        .eff none (some 13) (.call { callee := .value (.func 43), args := #[(.tmp 12)], argTypes := #[9] }) 3,
        .asg none 6 (.var 13),
        .asg none 16 (.op3 .stLoHi (.var 0) (.const (.int .i64 0)) (.var 6)),
        .eff none (some 17) (.call { callee := .value (.func 16), args := #[(.tmp 16)], argTypes := #[9] }) 4]) <|
     .seq (.cond (.var 17)
       (.seq (.reg [.asg none 18 (.var 6),
           .asg none 2 (.const (.int .u8 2)),
           .asg none 3 (.var 18),
           .asg none 4 (.const (.int .i64 0))]) <|
        .ret)
       (.skip))
     (ir66_k1))
    (.skip))
  (ir66_k8)
def ir66_V : List Nat := [0, 2, 3, 4, 5, 6, 7, 10, 11, 12, 13, 16, 17, 18, 20, 21, 22, 23, 24, 25, 28, 29, 30, 31, 32, 33, 34, 35, 36, 37, 38, 39, 40, 41, 42, 43, 44]
theorem ir66_ok : (comp Tryz.prog Tryz.f66.ntmps ir66_V [16, 14] (Tryz.f66.body.getD .skip)).map IR.norm = some ir66 := by kernel_rfl
theorem ir66_calls {v0 : Value} {w : World} {R : Ending → World → Prop} (h : ∀ ρ : Env, ρ 0 = v0 → ir66.wp ⟨Tryz.prog, 45, ir66_V, []⟩ (retK [.tmp 2, .tmp 3, .tmp 4] R) (ksOf [.tmp 2, .tmp 3, .tmp 4] R) ρ w) :
    Calls Tryz.prog 66 #[v0] w R := by
  obtain ⟨ir0, h1, h2⟩ := Option.map_eq_some_iff.1 ir66_ok
  exact calls_ir (args := #[v0]) Tryz.func66 (c := (Tryz.f66.body.getD .skip)) rfl h1 h2 (by kernel_rfl) (show rvsOf Tryz.prog ir66_V Tryz.f66.results.toList = some [.tmp 2, .tmp 3, .tmp 4] by kernel_rfl) (Nat.le_of_ble_eq_true rfl) (h _ rfl)
/-! 66 argus/argusref01.first region 14: 9 operations, tail 7, size 10 -/
noncomputable def ir66_o14 : OT :=
  .take none 32 (.var 0) <|
  .take none 33 (.op1 .lenT (.var 32)) <|
  .take none 34 (.op2 (.ibin .gtr .i64) (.var 33) (.const (.int .i64 1))) <|
  .take none 35 (.var 34) <|
  .take (some (35, true)) 37 (.var 0) <|
  .take (some (35, true)) 38 (.op3 .stLoHi (.var 37) (.const (.int .i64 0)) (.const (.int .i64 2))) <|
  .step (.eff (some (35, true)) (some 36) (.call { callee := .value (.func 21), args := #[], argTypes := #[] }) 25) true <|
  .step (.eff (some (35, true)) (some 39) (.call { callee := .value (.func 45), args := #[(.tmp 36), (.tmp 38)], argTypes := #[25, 9] }) 4) false <|
  .step (.asg none 40 (.ite (.var 35) (.var 39) (.const (.bool false)))) false <|
  .done
theorem ir66_o14_ok : ordOf Tryz.prog 45 ir66_V 7 (rawReg ir66_body 14) = some ir66_o14 := by kernel_rfl
/-! 66 argus/argusref01.first region 16: 4 operations, tail 3, size 5 -/
noncomputable def ir66_o16 : OT :=
  .take none 42 (.var 0) <|
  .take none 43 (.op3 .stLoHi (.var 42) (.const (.int .i64 0)) (.const (.int .i64 1))) <|
  .step (.eff none (some 41) (.call { callee := .value (.func 21), args := #[], argTypes := #[] }) 25) true <|
  .step (.eff none (some 44) (.call { callee := .value (.func 45), args := #[(.tmp 41), (.tmp 43)], argTypes := #[25, 9] }) 4) false <|
  .done
theorem ir66_o16_ok : ordOf Tryz.prog 45 ir66_V 3 (rawReg ir66_body 16) = some ir66_o16 := by kernel_rfl


/-! ### 67: argus/token.isNumber  params #[9] results #[4]  slots [(0, s), (3, n), (4, e)] -/
noncomputable def ir67 : IR :=
  .seq (.reg [.asg none 2 (.const (.bool false)),
     .asg none 6 (.var 0),
     .eff none (some 7) (.call { callee := .value (.func 86), args := #[(.tmp 6)], argTypes := #[9] }) 73,
     .asg none 5 (.var 7),
     .asg none 8 (.op1 (.ext 0) (.var 5)),
     .asg none 9 (.op1 (.ext 1) (.var 5)),
     .asg none 3 (.var 8),
     .asg none 4 (.var 9),
     .asg none 10 (.var 4),
     .eff none (some 11) (.binOp .eql 71 (.tmp 10) (.const .nilIface) 71) 4,
     .asg none 20 (.ite (.ite (.var 11) (.op2 (.ibin .geq .i64) (.var 3) (.const (.int .i64 0))) (.const (.bool false))) (.op2 (.ibin .leq .i64) (.var 3) (.const (.int .i64 1000000000))) (.const (.bool false))),
     .asg (some (20, true)) 21 (.var 3),
     .eff (some (20, true)) (some 22) (.call { callee := .value (.func 87), args := #[(.tmp 21)], argTypes := #[3] }) 9,
     .asg none 2 (.ite (.var 20) (.op2 (.sbin .eql) (.var 22) (.var 0)) (.const (.bool false)))]) <|
  .ret
def ir67_V : List Nat := [0, 2, 3, 4, 5, 6, 7, 8, 9, 10, 11, 20, 21, 22]
theorem ir67_ok : (comp Tryz.prog Tryz.f67.ntmps ir67_V [] (Tryz.f67.body.getD .skip)).map IR.norm = some ir67 := by kernel_rfl
theorem ir67_calls {v0 : Value} {w : World} {R : Ending → World → Prop} (h : ∀ ρ : Env, ρ 0 = v0 → ir67.wp ⟨Tryz.prog, 26, ir67_V, []⟩ (retK [.tmp 2] R) (ksOf [.tmp 2] R) ρ w) :
    Calls Tryz.prog 67 #[v0] w R := by
  obtain ⟨ir0, h1, h2⟩ := Option.map_eq_some_iff.1 ir67_ok
  exact calls_ir (args := #[v0]) Tryz.func67 (c := Tryz.f67.body.getD .skip) rfl h1 h2 (by kernel_rfl) (show rvsOf Tryz.prog ir67_V Tryz.f67.results.toList = some [.tmp 2] by kernel_rfl) (Nat.le_of_ble_eq_true rfl) (h _ rfl)

/-! ### 68: slices.Contains[[]string,string]  params #[25, 9] results #[4]  slots [(0, s), (1, v)] -/
noncomputable def ir68 : IR :=
  .seq (.reg [.asg none 4 (.const (.bool false)),
     .asg none 5 (.var 0),
     .asg none 6 (.var 1),
     .eff none (some 7) (.call { callee := .value (.func 88), args := #[(.tmp 5), (.tmp 6)], argTypes := #[25, 9] }) 3,
     .asg none 4 (.op2 (.ibin .geq .i64) (.var 7) (.const (.int .i64 0)))]) <|
  .ret
def ir68_V : List Nat := [0, 1, 4, 5, 6, 7]
theorem ir68_ok : (comp Tryz.prog Tryz.f68.ntmps ir68_V [] (Tryz.f68.body.getD .skip)).map IR.norm = some ir68 := by kernel_rfl
theorem ir68_calls {v0 v1 : Value} {w : World} {R : Ending → World → Prop} (h : ∀ ρ : Env, ρ 0 = v0 → ρ 1 = v1 → ir68.wp ⟨Tryz.prog, 9, ir68_V, []⟩ (retK [.tmp 4] R) (ksOf [.tmp 4] R) ρ w) :
    Calls Tryz.prog 68 #[v0, v1] w R := by
  obtain ⟨ir0, h1, h2⟩ := Option.map_eq_some_iff.1 ir68_ok
  exact calls_ir (args := #[v0, v1]) Tryz.func68 (c := Tryz.f68.body.getD .skip) rfl h1 h2 (by kernel_rfl) (show rvsOf Tryz.prog ir68_V Tryz.f68.results.toList = some [.tmp 4] by kernel_rfl) (Nat.le_of_ble_eq_true rfl) (h _ rfl rfl)

/-! ### 69: argus/argusref01.isNumber  params #[9] results #[4]  slots [(0, s)] -/
noncomputable def ir69_k0 : IR :=
  .seq (.reg [.asg none 2 (.ite (.op2 (.ibin .lss .i64) (.op1 .lenT (.var 0)) (.const (.int .i64 10))) (.const (.bool true)) (.op2 (.sbin .eql) (.var 0) (.const (.string ⟨#[49, 48, 48, 48, 48, 48, 48, 48, 48, 48]⟩))))]) <|
  .ret
noncomputable def ir69 : IR :=
  .seq (.reg [.asg none 2 (.const (.bool false)),
     .asg none 11 (.ite (.op2 (.ibin .eql .i64) (.op1 .lenT (.var 0)) (.const (.int .i64 0))) (.const (.bool true)) (.op2 (.ibin .gtr .i64) (.op1 .lenT (.var 0)) (.const (.int .i64 10)))),
     .asg (some (11, false)) 12 (.var 0),
     .eff (some (11, false)) (some 13) (.call { callee := .value (.func 85), args := #[(.tmp 12)], argTypes := #[9] }) 3,
     .asg none 27 (.ite (.ite (.var 11) (.const (.bool true)) (.op2 (.ibin .neq .i64) (.var 13) (.op1 .lenT (.var 0)))) (.const (.bool true)) (.ite (.op2 (.ibin .gtr .i64) (.op1 .lenT (.var 0)) (.const (.int .i64 1))) (.op2 (.ibin .eql .u8) (.op2 .ixs (.var 0) (.const (.int .i64 0))) (.const (.int .u8 48))) (.const (.bool false))))]) <|
  .seq (.cond (.var 27)
    (.seq (.reg [.asg none 2 (.const (.bool false))]) <|
     .ret)
    (.skip))
  (ir69_k0)
def ir69_V : List Nat := [0, 2, 11, 12, 13, 27]
theorem ir69_ok : (comp Tryz.prog Tryz.f69.ntmps ir69_V [] (Tryz.f69.body.getD .skip)).map IR.norm = some ir69 := by kernel_rfl
theorem ir69_calls {v0 : Value} {w : World} {R : Ending → World → Prop} (h : ∀ ρ : Env, ρ 0 = v0 → ir69.wp ⟨Tryz.prog, 35, ir69_V, []⟩ (retK [.tmp 2] R) (ksOf [.tmp 2] R) ρ w) :
    Calls Tryz.prog 69 #[v0] w R := by
  obtain ⟨ir0, h1, h2⟩ := Option.map_eq_some_iff.1 ir69_ok
  exact calls_ir (args := #[v0]) Tryz.func69 (c := Tryz.f69.body.getD .skip) rfl h1 h2 (by kernel_rfl) (show rvsOf Tryz.prog ir69_V Tryz.f69.results.toList = some [.tmp 2] by kernel_rfl) (Nat.le_of_ble_eq_true rfl) (h _ rfl)

/-! ### 83: (*argus/token.scanner).skip  params #[85] results #[]  slots [(0, s), (2, blank), (3, n)] -/
noncomputable def ir83_body : Code := (scopeBody ((Tryz.f83.body).getD .skip))
noncomputable def ir83_k0 : IR :=
  .raw (rawReg ir83_body 8)
noncomputable def ir83_k1 : IR :=
  .cond (.var 36)
   (.seq (.reg [.asg none 51 (.op1 (.fadr 0) (.op1 .nilc (.var 0))),
       .eff none (some 52) (.call { callee := .value (.func 101), args := #[(.tmp 51)], argTypes := #[87] }) 9,
       .eff none (some 53) (.call { callee := .value (.func 100), args := #[(.tmp 52), (.const (.int .u8 10))], argTypes := #[9, 5] }) 3,
       .asg none 3 (.var 53),
       .asg none 55 (.op2 (.ibin .lss .i64) (.var 3) (.const (.int .i64 0)))]) <|
    .seq (.cond (.var 55)
      (.reg [.asg none 58 (.op1 (.fadr 0) (.op1 .nilc (.var 0))),
         .eff none (some 59) (.call { callee := .value (.func 101), args := #[(.tmp 58)], argTypes := #[87] }) 9,
         .asg none 3 (.op1 .lenT (.var 59))])
      (.skip))
    (ir83_k0))
   (.exit 0)
noncomputable def ir83_k2 : IR :=
  .cond (.var 18)
   (.reg [.asg none 34 (.op1 (.fadr 0) (.op1 .nilc (.var 0))),
      .eff none (some 35) (.call { callee := .value (.func 99), args := #[(.tmp 34), (.const (.int .i64 1))], argTypes := #[87, 3] }) 9])
   (.seq (.drw [.asg none 36 (.op2 (.ibin .eql .u8) (.op2 .ixs (.op1 .load1 (.op1 (.fadr 0) (.op1 (.fadr 0) (.op1 .nilc (.var 0))))) (.op1 .load1 (.op1 (.fadr 1) (.op1 (.fadr 0) (.op1 .nilc (.var 0)))))) (.const (.int .u8 37)))])
    (ir83_k1))
noncomputable def ir83_k3 : IR :=
  .block 1 (.block 2 (.seq (.raw (rawReg ir83_body 2))
    (ir83_k2)))
noncomputable def ir83_k4 : IR :=
  .seq (.cond (.var 17)
    (.skip)
    (.exit 0))
  (ir83_k3)
noncomputable def ir83_l5 : IR :=
  .seq (.drw [.asg none 17 (.op2 (.ibin .lss .i64) (.op1 .load1 (.op1 (.fadr 1) (.op1 (.fadr 0) (.op1 .nilc (.var 0))))) (.op1 .lenT (.op1 .load1 (.op1 (.fadr 0) (.op1 (.fadr 0) (.op1 .nilc (.var 0)))))))])
  (ir83_k4)
noncomputable def ir83_k6 : IR :=
  .block 0 (.loop ir83_l5)
noncomputable def ir83 : IR :=
  .seq (.reg [.eff none (some 4) (.call { callee := .value (.func 98), args := #[], argTypes := #[] }) 134,
     .eff none (some 5) (.index 134 (.tmp 4) (.const (.int .i64 2))) 133,
     .asg none 2 (.var 5)]) <|
  .seq (.raw (.label 0))
  (ir83_k6)
def ir83_V : List Nat := [0, 2, 3, 4, 5, 17, 18, 19, 20, 21, 22, 23, 24, 25, 26, 27, 28, 29, 30, 31, 34, 35, 36, 51, 52, 53, 55, 58, 59, 61, 62, 63, 64, 65, 66, 67, 68, 69, 70, 71, 72, 73, 74]
theorem ir83_ok : (comp Tryz.prog Tryz.f83.ntmps ir83_V [8, 2] (scopeBody (Tryz.f83.body.getD .skip))).map IR.norm = some ir83 := by kernel_rfl
theorem ir83_calls {v0 : Value} {w : World} {R : Ending → World → Prop} (h : ∀ ρ : Env, ρ 0 = v0 → ir83.wp ⟨Tryz.prog, 75, ir83_V, []⟩ (retK [] R) (ksOf [] R) ρ w) :
    Calls Tryz.prog 83 #[v0] w R := by
  obtain ⟨ir0, h1, h2⟩ := Option.map_eq_some_iff.1 ir83_ok
  exact calls_irS (args := #[v0]) Tryz.func83 (c := (scopeBody (Tryz.f83.body.getD .skip))) rfl h1 h2 (by kernel_rfl) (show rvsOf Tryz.prog ir83_V Tryz.f83.results.toList = some [] by kernel_rfl) (Nat.le_of_ble_eq_true rfl) (h _ rfl)
/-! 83 (*argus/token.scanner).skip region 2: 14 operations, tail 12, size 15 -/
noncomputable def ir83_o2 : OT :=
  .take none 19 (.var 2) <|
  .take none 20 (.var 0) <|
  .take none 21 (.op1 .nilc (.var 20)) <|
  .take none 22 (.op1 (.fadr 0) (.var 21)) <|
  .take none 23 (.op1 (.fadr 0) (.var 22)) <|
  .take none 24 (.op1 .load1 (.var 23)) <|
  .take none 25 (.var 0) <|
  .take none 26 (.op1 .nilc (.var 25)) <|
  .take none 27 (.op1 (.fadr 0) (.var 26)) <|
  .take none 28 (.op1 (.fadr 1) (.var 27)) <|
  .take none 29 (.op1 .load1 (.var 28)) <|
  .take none 30 (.op2 .ixs (.var 24) (.var 29)) <|
  .step (.eff none (some 31) (.call { callee := .value (.tmp 19), args := #[(.tmp 30)], argTypes := #[52] }) 4) false <|
  .step (.asg none 18 (.var 31)) false <|
  .done
theorem ir83_o2_ok : ordOf Tryz.prog 75 ir83_V 12 (rawReg ir83_body 2) = some ir83_o2 := by kernel_rfl
/-! 83 (*argus/token.scanner).skip region 8: 15 operations, tail 12, size 16 -/
noncomputable def ir83_o8 : OT :=
  .take none 61 (.var 0) <|
  .take none 62 (.var 0) <|
  .take none 63 (.op1 .nilc (.var 62)) <|
  .take none 64 (.op1 (.fadr 3) (.var 63)) <|
  .take none 65 (.op1 .load1 (.var 64)) <|
  .take none 66 (.var 0) <|
  .take none 67 (.op1 .nilc (.var 66)) <|
  .take none 68 (.op1 (.fadr 0) (.var 67)) <|
  .take none 69 (.var 3) <|
  .step (.eff none (some 70) (.call { callee := .value (.func 99), args := #[(.tmp 68), (.tmp 69)], argTypes := #[87, 3] }) 9) true <|
  .step (.eff none (some 71) (.buildSlice 25 1 #[(0, (.tmp 70))]) 25) true <|
  .step (.eff none (some 72) (.call { callee := .builtin .append, args := #[(.tmp 65), (.tmp 71)], argTypes := #[25, 25] }) 25) true <|
  .step (.asg none 73 (.op1 .nilc (.var 61))) false <|
  .step (.asg none 74 (.op1 (.fadr 3) (.var 73))) false <|
  .step (.eff none none (.store 25 (.tmp 74) (.tmp 72)) 0) false <|
  .done
theorem ir83_o8_ok : ordOf Tryz.prog 75 ir83_V 12 (rawReg ir83_body 8) = some ir83_o8 := by kernel_rfl

/-! ### 84: (*argus/token.scanner).next  params #[85] results #[38]  slots [(0, s), (3, out), (4, of), (5, c), (6, n), (7, word), (8, n), (9, n), (11, sign)] -/
noncomputable def ir84_body : Code := (Tryz.f84.body).getD .skip
noncomputable def ir84_k0 : IR :=
  .reg [.asg none 83 (.op1 (.fadr 0) (.op1 .nilc (.var 0))),
    .asg none 84 (.var 6),
    .eff none (some 85) (.call { callee := .value (.func 99), args := #[(.tmp 83), (.tmp 84)], argTypes := #[87, 3] }) 9,
    .asg none 86 (.op1 (.fadr 1) (.var 3)),
    .eff none none (.store 9 (.tmp 86) (.tmp 85)) 0]
noncomputable def ir84_k1 : IR :=
  .seq (.reg [.asg none 69 (.op1 (.fadr 0) (.op1 .nilc (.var 0))),
     .eff none (some 70) (.call { callee := .value (.func 101), args := #[(.tmp 69)], argTypes := #[87] }) 9,
     .asg none 7 (.op3 .stLoHi (.var 70) (.const (.int .i64 0)) (.var 6)),
     .asg none 73 (.op1 (.fadr 0) (.var 3)),
     .eff none none (.store 5 (.tmp 73) (.const (.int .u8 1))) 0,
     .asg none 74 (.var 7),
     .eff none (some 75) (.call { callee := .value (.func 15), args := #[(.tmp 74)], argTypes := #[9] }) 4]) <|
  .seq (.cond (.var 75)
    (.reg [.asg none 76 (.op1 (.fadr 0) (.var 3)),
       .eff none none (.store 5 (.tmp 76) (.const (.int .u8 2))) 0])
    (.seq (.reg [.asg none 78 (.op2 (.ibin .gtr .i64) (.var 6) (.const (.int .i64 12)))]) <|
     .cond (.var 78)
      (.reg [.asg none 79 (.var 0),
         .eff none (some 80) (.call { callee := .value (.func 103), args := #[(.tmp 79), (.const (.int .i64 12))], argTypes := #[85, 29] }) 0])
      (.skip)))
  (ir84_k0)
noncomputable def ir84_k2 : IR :=
  .reg [.asg none 106 (.op1 (.fadr 0) (.var 3)),
    .eff none none (.store 5 (.tmp 106) (.const (.int .u8 3))) 0,
    .asg none 109 (.op1 (.fadr 0) (.op1 .nilc (.var 0))),
    .asg none 110 (.var 8),
    .eff none (some 111) (.call { callee := .value (.func 99), args := #[(.tmp 109), (.tmp 110)], argTypes := #[87, 3] }) 9,
    .asg none 112 (.op1 (.fadr 1) (.var 3)),
    .eff none none (.store 9 (.tmp 112) (.tmp 111)) 0]
noncomputable def ir84_k3 : IR :=
  .seq (.reg [.asg none 98 (.op1 (.fadr 0) (.op1 .nilc (.var 0))),
     .eff none (some 99) (.call { callee := .value (.func 101), args := #[(.tmp 98)], argTypes := #[87] }) 9,
     .asg none 101 (.op3 .stLoHi (.var 99) (.const (.int .i64 0)) (.var 8)),
     .eff none (some 102) (.call { callee := .value (.func 67), args := #[(.tmp 101)], argTypes := #[9] }) 4,
     .asg none 103 (.op1 .not (.var 102))]) <|
  .seq (.cond (.var 103)
    (.reg [.asg none 104 (.var 0),
       .eff none (some 105) (.call { callee := .value (.func 103), args := #[(.tmp 104), (.const (.int .i64 11))], argTypes := #[85, 29] }) 0])
    (.skip))
  (ir84_k2)
noncomputable def ir84_k4 : IR :=
  .reg [.asg none 32 (.op2 (.ibin .add .i64) (.var 32) (.const (.int .i64 1)))]
noncomputable def ir84_k5 : IR :=
  .seq (.block 2 (.seq (.reg [.asg none 11 (.op1 .load1 (.op2 (.ixa 1) (.var 30) (.var 32))),
       .asg none 38 (.op1 (.fadr 0) (.op1 .nilc (.var 0))),
       .eff none (some 39) (.call { callee := .value (.func 101), args := #[(.tmp 38)], argTypes := #[87] }) 9,
       .asg none 40 (.var 11),
       .eff none (some 41) (.call { callee := .value (.func 104), args := #[(.tmp 39), (.tmp 40)], argTypes := #[9, 9] }) 4]) <|
    .cond (.var 41)
     (.reg [.asg none 42 (.var 9),
        .asg none 44 (.op1 .lenT (.var 11)),
        .eff none (some 45) (.call { callee := .builtin .max, args := #[(.tmp 42), (.tmp 44)], argTypes := #[3, 3] }) 3,
        .asg none 9 (.var 45)])
     (.skip)))
  (ir84_k4)
noncomputable def ir84_l6 : IR :=
  .seq (.reg [.asg none 33 (.op2 (.ibin .lss .i64) (.var 32) (.var 31))]) <|
  .seq (.cond (.var 33)
    (.skip)
    (.exit 1))
  (ir84_k5)
noncomputable def ir84_k7 : IR :=
  .reg [.asg none 51 (.op1 (.fadr 0) (.var 3)),
    .eff none none (.store 5 (.tmp 51) (.const (.int .u8 4))) 0,
    .asg none 54 (.op1 (.fadr 0) (.op1 .nilc (.var 0))),
    .asg none 55 (.var 9),
    .eff none (some 56) (.call { callee := .value (.func 99), args := #[(.tmp 54), (.tmp 55)], argTypes := #[87, 3] }) 9,
    .asg none 57 (.op1 (.fadr 1) (.var 3)),
    .eff none none (.store 9 (.tmp 57) (.tmp 56)) 0]
noncomputable def ir84_k8 : IR :=
  .seq (.reg [.asg none 48 (.op2 (.ibin .eql .i64) (.var 9) (.const (.int .i64 0)))]) <|
  .seq (.cond (.var 48)
    (.reg [.asg none 49 (.var 0),
       .eff none (some 50) (.call { callee := .value (.func 103), args := #[(.tmp 49), (.const (.int .i64 10))], argTypes := #[85, 29] }) 0])
    (.skip))
  (ir84_k7)
noncomputable def ir84_k9 : IR :=
  .seq (.reg [.asg none 113 (.op1 (.loadN 3) (.var 3)),
     .eff none none (.store 38 (.tmp 2) (.tmp 113)) 0]) <|
  .ret
noncomputable def ir84_k10 : IR :=
  .seq (.block 0 (.seq (.reg [.asg none 59 (.var 5),
       .eff none (some 60) (.call { callee := .value (.func 38), args := #[(.tmp 59)], argTypes := #[52] }) 4,
       .asg none 58 (.var 60)]) <|
    .cond (.var 58)
     (.seq (.raw (rawReg ir84_body 16))
      (ir84_k1))
     (.seq (.reg [.asg none 88 (.var 5),
         .eff none (some 89) (.call { callee := .value (.func 57), args := #[(.tmp 88)], argTypes := #[52] }) 4,
         .asg none 87 (.var 89)]) <|
      .cond (.var 87)
       (.seq (.raw (rawReg ir84_body 25))
        (ir84_k3))
       (.seq (.reg [.asg none 9 (.const (.int .i64 0)),
           .eff none (some 30) (.call { callee := .value (.func 20), args := #[], argTypes := #[] }) 25,
           .asg none 31 (.op1 .lenS (.var 30)),
           .asg none 32 (.const (.int .i64 0))]) <|
        .seq (.block 1 (.loop ir84_l6))
        (ir84_k8)))))
  (ir84_k9)
noncomputable def ir84 : IR :=
  .seq (.reg [.eff none (some 2) (.alloc 38) 0,
     .asg none 16 (.op1 .load1 (.op1 (.fadr 2) (.op1 (.fadr 0) (.op1 .nilc (.var 0))))),
     .eff none (some 17) (.build 38 #[(2, (.tmp 16))]) 38,
     .eff none (some 3) (.alloc 38) 0,
     .eff none none (.store 38 (.tmp 3) (.tmp 17)) 0,
     .eff none (some 18) (.call { callee := .value (.func 98), args := #[], argTypes := #[] }) 134,
     .eff none (some 4) (.alloc 134) 0,
     .eff none none (.store 134 (.tmp 4) (.tmp 18)) 0]) <|
  .seq (.drw [.asg none 5 (.op2 .ixs (.op1 .load1 (.op1 (.fadr 0) (.op1 (.fadr 0) (.op1 .nilc (.var 0))))) (.op1 .load1 (.op1 (.fadr 1) (.op1 (.fadr 0) (.op1 .nilc (.var 0))))))])
  (ir84_k10)
def ir84_V : List Nat := [0, 2, 3, 4, 5, 6, 7, 8, 9, 11, 16, 17, 18, 30, 31, 32, 33, 38, 39, 40, 41, 42, 44, 45, 48, 49, 50, 51, 54, 55, 56, 57, 58, 59, 60, 61, 62, 63, 64, 65, 66, 69, 70, 73, 74, 75, 76, 78, 79, 80, 83, 84, 85, 86, 87, 88, 89, 90, 91, 92, 93, 94, 95, 98, 99, 101, 102, 103, 104, 105, 106, 109, 110, 111, 112, 113]
theorem ir84_ok : (comp Tryz.prog Tryz.f84.ntmps ir84_V [25, 16] (Tryz.f84.body.getD .skip)).map IR.norm = some ir84 := by kernel_rfl
theorem ir84_calls {v0 : Value} {w : World} {R : Ending → World → Prop} (h : ∀ ρ : Env, ρ 0 = v0 → ir84.wp ⟨Tryz.prog, 114, ir84_V, []⟩ (retK [.cellN 2 3] R) (ksOf [.cellN 2 3] R) ρ w) :
    Calls Tryz.prog 84 #[v0] w R := by
  obtain ⟨ir0, h1, h2⟩ := Option.map_eq_some_iff.1 ir84_ok
  exact calls_ir (args := #[v0]) Tryz.func84 (c := Tryz.f84.body.getD .skip) rfl h1 h2 (by kernel_rfl) (show rvsOf Tryz.prog ir84_V Tryz.f84.results.toList = some [.cellN 2 3] by kernel_rfl) (Nat.le_of_ble_eq_true rfl) (h _ rfl)
/-! 84 (*argus/token.scanner).next region 16: 7 operations, tail 5, size 8 -/
noncomputable def ir84_o16 : OT :=
  .take none 61 (.var 0) <|
  .take none 62 (.op1 .nilc (.var 61)) <|
  .take none 63 (.op1 (.fadr 0) (.var 62)) <|
  .step (.eff none (some 64) (.indexAddr 134 (.tmp 4) (.const (.int .i64 0))) 0) true <|
  .take none 65 (.op1 .load1 (.var 64)) <|
  .step (.eff none (some 66) (.call { callee := .value (.func 102), args := #[(.tmp 63), (.tmp 65)], argTypes := #[87, 133] }) 3) false <|
  .step (.asg none 6 (.var 66)) false <|
  .done
theorem ir84_o16_ok : ordOf Tryz.prog 114 ir84_V 5 (rawReg ir84_body 16) = some ir84_o16 := by kernel_rfl
/-! 84 (*argus/token.scanner).next region 25: 7 operations, tail 5, size 8 -/
noncomputable def ir84_o25 : OT :=
  .take none 90 (.var 0) <|
  .take none 91 (.op1 .nilc (.var 90)) <|
  .take none 92 (.op1 (.fadr 0) (.var 91)) <|
  .step (.eff none (some 93) (.indexAddr 134 (.tmp 4) (.const (.int .i64 1))) 0) true <|
  .take none 94 (.op1 .load1 (.var 93)) <|
  .step (.eff none (some 95) (.call { callee := .value (.func 102), args := #[(.tmp 92), (.tmp 94)], argTypes := #[87, 133] }) 3) false <|
  .step (.asg none 8 (.var 95)) false <|
  .done
theorem ir84_o25_ok : ordOf Tryz.prog 114 ir84_V 5 (rawReg ir84_body 25) = some ir84_o25 := by kernel_rfl

/-! ### 85: argus/argusref01.digits  params #[9] results #[3]  slots [(0, s), (3, n)] -/
noncomputable def ir85_k0 : IR :=
  .block 1 (.reg [.asg none 3 (.op2 (.ibin .add .i64) (.var 3) (.const (.int .i64 1)))])
noncomputable def ir85_l1 : IR :=
  .seq (.reg [.asg none 8 (.op2 (.ibin .lss .i64) (.var 3) (.op1 .lenT (.var 0))),
     .asg (some (8, true)) 11 (.op2 .ixs (.var 0) (.var 3)),
     .eff (some (8, true)) (some 12) (.call { callee := .value (.func 58), args := #[(.tmp 11)], argTypes := #[5] }) 4,
     .asg none 13 (.ite (.var 8) (.var 12) (.const (.bool false)))]) <|
  .seq (.cond (.var 13)
    (.skip)
    (.exit 0))
  (ir85_k0)
noncomputable def ir85_k2 : IR :=
  .seq (.reg [.asg none 2 (.var 3)]) <|
  .ret
noncomputable def ir85 : IR :=
  .seq (.reg [.asg none 2 (.const (.int .i64 0)),
     .asg none 3 (.const (.int .i64 0))]) <|
  .seq (.block 0 (.loop ir85_l1))
  (ir85_k2)
def ir85_V : List Nat := [0, 2, 3, 8, 11, 12, 13]
theorem ir85_ok : (comp Tryz.prog Tryz.f85.ntmps ir85_V [] (Tryz.f85.body.getD .skip)).map IR.norm = some ir85 := by kernel_rfl
theorem ir85_calls {v0 : Value} {w : World} {R : Ending → World → Prop} (h : ∀ ρ : Env, ρ 0 = v0 → ir85.wp ⟨Tryz.prog, 17, ir85_V, []⟩ (retK [.tmp 2] R) (ksOf [.tmp 2] R) ρ w) :
    Calls Tryz.prog 85 #[v0] w R := by
  obtain ⟨ir0, h1, h2⟩ := Option.map_eq_some_iff.1 ir85_ok
  exact calls_ir (args := #[v0]) Tryz.func85 (c := Tryz.f85.body.getD .skip) rfl h1 h2 (by kernel_rfl) (show rvsOf Tryz.prog ir85_V Tryz.f85.results.toList = some [.tmp 2] by kernel_rfl) (Nat.le_of_ble_eq_true rfl) (h _ rfl)

/-! ### 88: slices.Index[[]string,string]  params #[25, 9] results #[3]  slots [(0, s), (1, v), (5, i)] -/
noncomputable def ir88_k0 : IR :=
  .reg [.asg none 8 (.op2 (.ibin .add .i64) (.var 8) (.const (.int .i64 1)))]
noncomputable def ir88_k1 : IR :=
  .seq (.block 1 (.seq (.reg [.asg none 5 (.var 8),
       .asg none 16 (.op2 (.sbin .eql) (.var 1) (.op1 .load1 (.op2 (.ixa 1) (.var 0) (.var 5))))]) <|
    .cond (.var 16)
     (.seq (.reg [.asg none 4 (.var 5)]) <|
      .ret)
     (.skip)))
  (ir88_k0)
noncomputable def ir88_l2 : IR :=
  .seq (.reg [.asg none 9 (.op2 (.ibin .lss .i64) (.var 8) (.var 7))]) <|
  .seq (.cond (.var 9)
    (.skip)
    (.exit 0))
  (ir88_k1)
noncomputable def ir88_k3 : IR :=
  .seq (.reg [.asg none 4 (.const (.int .i64 (-1)))]) <|
  .ret
noncomputable def ir88 : IR :=
  .seq (.reg [.asg none 4 (.const (.int .i64 0)),
     .asg none 7 (.op1 .lenS (.var 0)),
     .asg none 8 (.const (.int .i64 0))]) <|
  .seq (.block 0 (.loop ir88_l2))
  (ir88_k3)
def ir88_V : List Nat := [0, 1, 4, 5, 7, 8, 9, 16]
theorem ir88_ok : (comp Tryz.prog Tryz.f88.ntmps ir88_V [] (Tryz.f88.body.getD .skip)).map IR.norm = some ir88 := by kernel_rfl
theorem ir88_calls {v0 v1 : Value} {w : World} {R : Ending → World → Prop} (h : ∀ ρ : Env, ρ 0 = v0 → ρ 1 = v1 → ir88.wp ⟨Tryz.prog, 19, ir88_V, []⟩ (retK [.tmp 4] R) (ksOf [.tmp 4] R) ρ w) :
    Calls Tryz.prog 88 #[v0, v1] w R := by
  obtain ⟨ir0, h1, h2⟩ := Option.map_eq_some_iff.1 ir88_ok
  exact calls_ir (args := #[v0, v1]) Tryz.func88 (c := Tryz.f88.body.getD .skip) rfl h1 h2 (by kernel_rfl) (show rvsOf Tryz.prog ir88_V Tryz.f88.results.toList = some [.tmp 4] by kernel_rfl) (Nat.le_of_ble_eq_true rfl) (h _ rfl rfl)

/-! ### 98: argus/token.classes  params #[] results #[134]  slots [] -/
noncomputable def ir98 : IR :=
  .seq (.reg [.eff none (some 0) (.alloc 134) 0,
     .eff none (some 1) (.build 134 #[(0, (.func 41)), (1, (.func 57)), (2, (.func 109))]) 134,
     .eff none none (.store 134 (.tmp 0) (.tmp 1)) 0]) <|
  .ret
def ir98_V : List Nat := [0, 1]
theorem ir98_ok : (comp Tryz.prog Tryz.f98.ntmps ir98_V [] (Tryz.f98.body.getD .skip)).map IR.norm = some ir98 := by kernel_rfl
theorem ir98_calls {w : World} {R : Ending → World → Prop} (h : ∀ ρ : Env, ir98.wp ⟨Tryz.prog, 2, ir98_V, []⟩ (retK [.cellN 0 3] R) (ksOf [.cellN 0 3] R) ρ w) :
    Calls Tryz.prog 98 #[] w R := by
  obtain ⟨ir0, h1, h2⟩ := Option.map_eq_some_iff.1 ir98_ok
  exact calls_ir (args := #[]) Tryz.func98 (c := Tryz.f98.body.getD .skip) rfl h1 h2 (by kernel_rfl) (show rvsOf Tryz.prog ir98_V Tryz.f98.results.toList = some [.cellN 0 3] by kernel_rfl) (Nat.le_of_ble_eq_true rfl) (h _ )

/-! ### 99: (*argus/token.text).over  params #[145, 3] results #[9]  slots [(0, t), (1, n), (5, out)] -/
noncomputable def ir99_body : Code := (Tryz.f99.body).getD .skip
noncomputable def ir99_k0 : IR :=
  .seq (.reg [.asg none 30 (.var 0),
     .asg none 35 (.op2 (.ibin .add .i64) (.op1 .load1 (.op1 (.fadr 1) (.op1 .nilc (.var 30)))) (.var 1)),
     .asg none 37 (.op1 (.fadr 1) (.op1 .nilc (.var 30))),
     .eff none none (.store 3 (.tmp 37) (.tmp 35)) 0,
     .asg none 4 (.var 5)]) <|
  .ret
noncomputable def ir99_k1 : IR :=
  .seq (.raw (rawReg ir99_body 2))
  (ir99_k0)
noncomputable def ir99 : IR :=
  .seq (.reg [.asg none 4 (.const (.string ⟨#[]⟩))]) <|
  .seq (.drw [.asg none 5 (.op3 .stLoHi (.op1 .load1 (.op1 (.fadr 0) (.op1 .nilc (.var 0)))) (.op1 .load1 (.op1 (.fadr 1) (.op1 .nilc (.var 0)))) (.op2 (.ibin .add .i64) (.op1 .load1 (.op1 (.fadr 1) (.op1 .nilc (.var 0)))) (.var 1)))])
  (ir99_k1)
def ir99_V : List Nat := [0, 1, 4, 5, 21, 22, 23, 24, 25, 26, 27, 28, 29, 30, 35, 37]
theorem ir99_ok : (comp Tryz.prog Tryz.f99.ntmps ir99_V [2] (Tryz.f99.body.getD .skip)).map IR.norm = some ir99 := by kernel_rfl
theorem ir99_calls {v0 v1 : Value} {w : World} {R : Ending → World → Prop} (h : ∀ ρ : Env, ρ 0 = v0 → ρ 1 = v1 → ir99.wp ⟨Tryz.prog, 39, ir99_V, []⟩ (retK [.tmp 4] R) (ksOf [.tmp 4] R) ρ w) :
    Calls Tryz.prog 99 #[v0, v1] w R := by
  obtain ⟨ir0, h1, h2⟩ := Option.map_eq_some_iff.1 ir99_ok
  exact calls_ir (args := #[v0, v1]) Tryz.func99 (c := Tryz.f99.body.getD .skip) rfl h1 h2 (by kernel_rfl) (show rvsOf Tryz.prog ir99_V Tryz.f99.results.toList = some [.tmp 4] by kernel_rfl) (Nat.le_of_ble_eq_true rfl) (h _ rfl rfl)
/-! 99 (*argus/token.text).over region 2: 10 operations, tail 6, size 11 -/
noncomputable def ir99_o2 : OT :=
  .take none 21 (.var 0) <|
  .take none 22 (.op1 .nilc (.var 21)) <|
  .take none 23 (.op1 (.fadr 2) (.var 22)) <|
  .take none 24 (.op1 .load1 (.var 23)) <|
  .take none 25 (.var 5) <|
  .step (.eff none (some 26) (.call { callee := .value (.func 110), args := #[(.tmp 25), (.const (.string ⟨#[10]⟩))], argTypes := #[9, 9] }) 3) true <|
  .step (.asg none 27 (.op2 (.ibin .add .i64) (.var 24) (.var 26))) false <|
  .step (.asg none 28 (.op1 .nilc (.var 21))) false <|
  .step (.asg none 29 (.op1 (.fadr 2) (.var 28))) false <|
  .step (.eff none none (.store 3 (.tmp 29) (.tmp 27)) 0) false <|
  .done
theorem ir99_o2_ok : ordOf Tryz.prog 39 ir99_V 6 (rawReg ir99_body 2) = some ir99_o2 := by kernel_rfl

/-! ### 101: (*argus/token.text).rest  params #[145] results #[9]  slots [(0, t)] -/
noncomputable def ir101_k0 : IR :=
  .ret
noncomputable def ir101 : IR :=
  .seq (.reg [.asg none 2 (.const (.string ⟨#[]⟩))]) <|
  .seq (.drw [.asg none 2 (.op2 .stLo (.op1 .load1 (.op1 (.fadr 0) (.op1 .nilc (.var 0)))) (.op1 .load1 (.op1 (.fadr 1) (.op1 .nilc (.var 0)))))])
  (ir101_k0)
def ir101_V : List Nat := [0, 2]
theorem ir101_ok : (comp Tryz.prog Tryz.f101.ntmps ir101_V [] (Tryz.f101.body.getD .skip)).map IR.norm = some ir101 := by kernel_rfl
theorem ir101_calls {v0 : Value} {w : World} {R : Ending → World → Prop} (h : ∀ ρ : Env, ρ 0 = v0 → ir101.wp ⟨Tryz.prog, 12, ir101_V, []⟩ (retK [.tmp 2] R) (ksOf [.tmp 2] R) ρ w) :
    Calls Tryz.prog 101 #[v0] w R := by
  obtain ⟨ir0, h1, h2⟩ := Option.map_eq_some_iff.1 ir101_ok
  exact calls_ir (args := #[v0]) Tryz.func101 (c := Tryz.f101.body.getD .skip) rfl h1 h2 (by kernel_rfl) (show rvsOf Tryz.prog ir101_V Tryz.f101.results.toList = some [.tmp 2] by kernel_rfl) (Nat.le_of_ble_eq_true rfl) (h _ rfl)

/-! ### 102: (*argus/token.text).run  params #[145, 133] results #[3]  slots [(0, t), (1, is), (5, s), (6, i)] -/
noncomputable def ir102_k0 : IR :=
  .reg [.asg none 11 (.op2 (.ibin .add .i64) (.var 11) (.const (.int .i64 1)))]
noncomputable def ir102_k1 : IR :=
  .seq (.block 1 (.seq (.reg [.asg none 6 (.var 11),
       .asg none 14 (.var 1),
       .asg none 17 (.op2 .ixs (.var 5) (.var 6)),
       .eff none (some 18) (.call { callee := .value (.tmp 14), args := #[(.tmp 17)], argTypes := #[52] }) 4,
       .asg none 19 (.op1 .not (.var 18))]) <|
    .cond (.var 19)
     (.seq (.reg [.asg none 4 (.var 6)]) <|
      .ret)
     (.skip)))
  (ir102_k0)
noncomputable def ir102_l2 : IR :=
  .seq (.reg [.asg none 12 (.op2 (.ibin .lss .i64) (.var 11) (.var 10))]) <|
  .seq (.cond (.var 12)
    (.skip)
    (.exit 0))
  (ir102_k1)
noncomputable def ir102_k3 : IR :=
  .seq (.reg [.asg none 4 (.op1 .lenT (.var 5))]) <|
  .ret
noncomputable def ir102 : IR :=
  .seq (.reg [.asg none 4 (.const (.int .i64 0)),
     .asg none 7 (.var 0),
     .eff none (some 8) (.call { callee := .value (.func 101), args := #[(.tmp 7)], argTypes := #[145] }) 9,
     .asg none 5 (.var 8),
     .asg none 10 (.op1 .lenT (.var 5)),
     .asg none 11 (.const (.int .i64 0))]) <|
  .seq (.block 0 (.loop ir102_l2))
  (ir102_k3)
def ir102_V : List Nat := [0, 1, 4, 5, 6, 7, 8, 10, 11, 12, 14, 17, 18, 19]
theorem ir102_ok : (comp Tryz.prog Tryz.f102.ntmps ir102_V [] (Tryz.f102.body.getD .skip)).map IR.norm = some ir102 := by kernel_rfl
theorem ir102_calls {v0 v1 : Value} {w : World} {R : Ending → World → Prop} (h : ∀ ρ : Env, ρ 0 = v0 → ρ 1 = v1 → ir102.wp ⟨Tryz.prog, 24, ir102_V, []⟩ (retK [.tmp 4] R) (ksOf [.tmp 4] R) ρ w) :
    Calls Tryz.prog 102 #[v0, v1] w R := by
  obtain ⟨ir0, h1, h2⟩ := Option.map_eq_some_iff.1 ir102_ok
  exact calls_ir (args := #[v0, v1]) Tryz.func102 (c := Tryz.f102.body.getD .skip) rfl h1 h2 (by kernel_rfl) (show rvsOf Tryz.prog ir102_V Tryz.f102.results.toList = some [.tmp 4] by kernel_rfl) (Nat.le_of_ble_eq_true rfl) (h _ rfl rfl)

/-! ### 103: (*argus/token.scanner).fail  params #[85, 29] results #[]  slots [(0, s), (1, e)] -/
noncomputable def ir103 : IR :=
  .reg [.asg none 4 (.var 1),
    .asg none 9 (.op1 .load1 (.op1 (.fadr 2) (.op1 (.fadr 0) (.op1 .nilc (.var 0))))),
    .eff none (some 10) (.build 31 #[(0, (.tmp 4)), (1, (.tmp 9))]) 31,
    .eff none (some 11) (.build 84 #[(0, (.tmp 10))]) 84,
    .asg none 12 (.op1 (.mkif 84) (.var 11)),
    .eff none none (.panic (.tmp 12)) 0]
def ir103_V : List Nat := [0, 1, 4, 9, 10, 11, 12]
theorem ir103_ok : (comp Tryz.prog Tryz.f103.ntmps ir103_V [] (Tryz.f103.body.getD .skip)).map IR.norm = some ir103 := by kernel_rfl
theorem ir103_calls {v0 v1 : Value} {w : World} {R : Ending → World → Prop} (h : ∀ ρ : Env, ρ 0 = v0 → ρ 1 = v1 → ir103.wp ⟨Tryz.prog, 13, ir103_V, []⟩ (retK [] R) (ksOf [] R) ρ w) :
    Calls Tryz.prog 103 #[v0, v1] w R := by
  obtain ⟨ir0, h1, h2⟩ := Option.map_eq_some_iff.1 ir103_ok
  exact calls_ir (args := #[v0, v1]) Tryz.func103 (c := Tryz.f103.body.getD .skip) rfl h1 h2 (by kernel_rfl) (show rvsOf Tryz.prog ir103_V Tryz.f103.results.toList = some [] by kernel_rfl) (Nat.le_of_ble_eq_true rfl) (h _ rfl rfl)

/-! ### 109: (argus/token.class).blank  params #[52] results #[4]  slots [(0, c)] -/
noncomputable def ir109 : IR :=
  .seq (.reg [.asg none 2 (.const (.bool false)),
     .asg none 2 (.ite (.ite (.op2 (.ibin .eql .u8) (.var 0) (.const (.int .u8 32))) (.const (.bool true)) (.op2 (.ibin .eql .u8) (.var 0) (.const (.int .u8 9)))) (.const (.bool true)) (.op2 (.ibin .eql .u8) (.var 0) (.const (.int .u8 10))))]) <|
  .ret
def ir109_V : List Nat := [0, 2]
theorem ir109_ok : (comp Tryz.prog Tryz.f109.ntmps ir109_V [] (Tryz.f109.body.getD .skip)).map IR.norm = some ir109 := by kernel_rfl
theorem ir109_calls {v0 : Value} {w : World} {R : Ending → World → Prop} (h : ∀ ρ : Env, ρ 0 = v0 → ir109.wp ⟨Tryz.prog, 13, ir109_V, []⟩ (retK [.tmp 2] R) (ksOf [.tmp 2] R) ρ w) :
    Calls Tryz.prog 109 #[v0] w R := by
  obtain ⟨ir0, h1, h2⟩ := Option.map_eq_some_iff.1 ir109_ok
  exact calls_ir (args := #[v0]) Tryz.func109 (c := Tryz.f109.body.getD .skip) rfl h1 h2 (by kernel_rfl) (show rvsOf Tryz.prog ir109_V Tryz.f109.results.toList = some [.tmp 2] by kernel_rfl) (Nat.le_of_ble_eq_true rfl) (h _ rfl)


end Go.L01
/- Layer 1: readings: read. -/
namespace Go.L01
open Go Go.Eng Go.Proofs
set_option maxRecDepth 100000
set_option maxHeartbeats 2000000
/-! ### 12: argus/arguslaw01.read  params #[] results #[4]  slots [(1, l), (2, f), (3, c), (4, g), (5, s), (6, h), (7, p), (8, e), (9, _), (10, k), (11, none)] -/
noncomputable def ir12_k0 : IR :=
  .seq (.reg [.asg none 66 (.op1 (.loadN 3) (.op2 (.ixa 3) (.var 1) (.const (.int .i64 0)))),
     .eff none (some 67) (.build 38 #[(0, (.const (.int .u8 1))), (1, (.const (.string ⟨#[120]⟩))), (2, (.const (.int .i64 1)))]) 38,
     .eff none (some 68) (.binOp .eql 38 (.tmp 66) (.tmp 67) 38) 4,
     .asg none 69 (.var 68),
     .asg (some (69, true)) 72 (.op1 (.loadN 3) (.op2 (.ixa 3) (.var 1) (.const (.int .i64 6)))),
     .eff (some (69, true)) (some 73) (.build 38 #[(0, (.const (.int .u8 2))), (1, (.const (.string ⟨#[101, 110, 100]⟩))), (2, (.const (.int .i64 2)))]) 38,
     .eff (some (69, true)) (some 74) (.binOp .eql 38 (.tmp 72) (.tmp 73) 38) 4,
     .asg none 90 (.ite (.ite (.ite (.ite (.var 69) (.var 74) (.const (.bool false))) (.op2 (.sbin .eql) (.op1 .load1 (.op2 (.ixa 1) (.var 3) (.const (.int .i64 0)))) (.const (.string ⟨#[37, 32, 102, 105, 114, 115, 116]⟩))) (.const (.bool false))) (.op2 (.sbin .eql) (.var 5) (.const (.string ⟨#[120, 58, 61, 97, 91, 49, 50, 93, 101, 110, 100]⟩))) (.const (.bool false))) (.op2 (.sbin .eql) (.var 7) (.const (.string ⟨#[100, 111, 10, 10, 120, 32, 58, 61, 10]⟩))) (.const (.bool false))),
     .asg (some (90, true)) 91 (.op1 (.loadN 2) (.var 10)),
     .eff (some (90, true)) (some 92) (.build 31 #[(0, (.const (.int .i64 11))), (1, (.const (.int .i64 2)))]) 31,
     .eff (some (90, true)) (some 93) (.binOp .eql 31 (.tmp 91) (.tmp 92) 31) 4,
     .asg none 95 (.ite (.var 90) (.var 93) (.const (.bool false))),
     .eff (some (95, true)) (some 96) (.call { callee := .value (.func 13), args := #[(.const (.string ⟨#[116, 104, 105, 114, 116, 101, 101, 110]⟩))], argTypes := #[9] }) 4,
     .asg none 98 (.ite (.var 95) (.var 96) (.const (.bool false))),
     .eff (some (98, true)) (some 99) (.call { callee := .value (.func 13), args := #[(.const (.string ⟨#[100, 111]⟩))], argTypes := #[9] }) 4,
     .asg none 0 (.ite (.var 98) (.op1 .not (.var 99)) (.const (.bool false)))]) <|
  .ret
noncomputable def ir12 : IR :=
  .seq (.reg [.asg none 0 (.const (.bool false)),
     .eff none (some 13) (.call { callee := .value (.func 23), args := #[(.const (.string ⟨#[120, 32, 58, 61, 32, 97, 91, 49, 50, 93, 32, 32, 37, 32, 102, 105, 114, 115, 116, 10, 101, 110, 100]⟩))], argTypes := #[9] }) 32,
     .asg none 12 (.var 13),
     .asg none 14 (.op1 (.ext 0) (.var 12)),
     .asg none 15 (.op1 (.ext 1) (.var 12)),
     .eff none (some 2) (.alloc 31) 0,
     .asg none 1 (.var 14),
     .eff none none (.store 31 (.tmp 2) (.tmp 15)) 0,
     .eff none (some 17) (.call { callee := .value (.func 25), args := #[(.const (.string ⟨#[120, 32, 58, 61, 32, 97, 91, 49, 50, 93, 32, 32, 37, 32, 102, 105, 114, 115, 116, 10, 101, 110, 100]⟩))], argTypes := #[9] }) 34,
     .asg none 16 (.var 17),
     .asg none 18 (.op1 (.ext 0) (.var 16)),
     .asg none 19 (.op1 (.ext 1) (.var 16)),
     .eff none (some 4) (.alloc 31) 0,
     .asg none 3 (.var 18),
     .eff none none (.store 31 (.tmp 4) (.tmp 19)) 0,
     .eff none (some 21) (.call { callee := .value (.func 35), args := #[(.const (.string ⟨#[120, 32, 58, 61, 32, 97, 91, 49, 50, 93, 32, 32, 37, 32, 102, 105, 114, 115, 116, 10, 101, 110, 100]⟩))], argTypes := #[9] }) 47,
     .asg none 20 (.var 21),
     .asg none 22 (.op1 (.ext 0) (.var 20)),
     .asg none 23 (.op1 (.ext 1) (.var 20)),
     .eff none (some 6) (.alloc 31) 0,
     .asg none 5 (.var 22),
     .eff none none (.store 31 (.tmp 6) (.tmp 23)) 0,
     .eff none (some 25) (.build 38 #[(0, (.const (.int .u8 2))), (1, (.const (.string ⟨#[100, 111]⟩))), (2, (.const (.int .i64 1)))]) 38,
     .eff none (some 26) (.build 38 #[(0, (.const (.int .u8 1))), (1, (.const (.string ⟨#[120]⟩))), (2, (.const (.int .i64 3)))]) 38,
     .eff none (some 27) (.build 38 #[(0, (.const (.int .u8 4))), (1, (.const (.string ⟨#[58, 61]⟩))), (2, (.const (.int .i64 3)))]) 38,
     .eff none (some 28) (.buildSlice 28 3 #[(0, (.tmp 25)), (1, (.tmp 26)), (2, (.tmp 27))]) 28,
     .eff none (some 29) (.call { callee := .value (.func 31), args := #[(.tmp 28)], argTypes := #[28] }) 42,
     .asg none 24 (.var 29),
     .asg none 30 (.op1 (.ext 0) (.var 24)),
     .asg none 31 (.op1 (.ext 1) (.var 24)),
     .asg none 7 (.var 30),
     .asg none 8 (.var 31),
     .eff none (some 33) (.call { callee := .value (.func 23), args := #[(.const (.string ⟨#[120, 10, 48, 48, 55]⟩))], argTypes := #[9] }) 32,
     .asg none 32 (.var 33),
     .asg none 34 (.op1 (.ext 0) (.var 32)),
     .asg none 35 (.op1 (.ext 1) (.var 32)),
     .eff none (some 10) (.alloc 31) 0,
     .asg none 9 (.var 34),
     .eff none none (.store 31 (.tmp 10) (.tmp 35)) 0,
     .eff none (some 36) (.build 31 #[]) 31,
     .eff none (some 11) (.alloc 31) 0,
     .eff none none (.store 31 (.tmp 11) (.tmp 36)) 0,
     .asg none 37 (.op1 (.loadN 2) (.var 2)),
     .asg none 38 (.op1 (.loadN 2) (.var 11)),
     .eff none (some 39) (.binOp .neq 31 (.tmp 37) (.tmp 38) 31) 4,
     .asg none 40 (.var 39),
     .asg (some (40, false)) 41 (.op1 (.loadN 2) (.var 4)),
     .asg (some (40, false)) 42 (.op1 (.loadN 2) (.var 11)),
     .eff (some (40, false)) (some 43) (.binOp .neq 31 (.tmp 41) (.tmp 42) 31) 4,
     .asg none 45 (.ite (.var 40) (.const (.bool true)) (.var 43)),
     .asg (some (45, false)) 46 (.op1 (.loadN 2) (.var 6)),
     .asg (some (45, false)) 47 (.op1 (.loadN 2) (.var 11)),
     .eff (some (45, false)) (some 48) (.binOp .neq 31 (.tmp 46) (.tmp 47) 31) 4,
     .asg none 63 (.ite (.ite (.ite (.ite (.var 45) (.const (.bool true)) (.var 48)) (.const (.bool true)) (.op2 (.ibin .neq .i64) (.var 8) (.const (.int .i64 0)))) (.const (.bool true)) (.op2 (.ibin .neq .i64) (.op1 .lenS (.var 1)) (.const (.int .i64 7)))) (.const (.bool true)) (.op2 (.ibin .neq .i64) (.op1 .lenS (.var 3)) (.const (.int .i64 1))))]) <|
  .seq (.cond (.var 63)
    (.seq (.reg [.asg none 0 (.const (.bool false))]) <|
     .ret)
    (.skip))
  (ir12_k0)
def ir12_V : List Nat := [0, 1, 2, 3, 4, 5, 6, 7, 8, 9, 10, 11, 12, 13, 14, 15, 16, 17, 18, 19, 20, 21, 22, 23, 24, 25, 26, 27, 28, 29, 30, 31, 32, 33, 34, 35, 36, 37, 38, 39, 40, 41, 42, 43, 45, 46, 47, 48, 63, 66, 67, 68, 69, 72, 73, 74, 90, 91, 92, 93, 95, 96, 98, 99]
theorem ir12_ok : (comp Tryz.prog Tryz.f12.ntmps ir12_V [] (Tryz.f12.body.getD .skip)).map IR.norm = some ir12 := by kernel_rfl
theorem ir12_calls {w : World} {R : Ending → World → Prop} (h : ∀ ρ : Env, ir12.wp ⟨Tryz.prog, 102, ir12_V, []⟩ (retK [.tmp 0] R) (ksOf [.tmp 0] R) ρ w) :
    Calls Tryz.prog 12 #[] w R := by
  obtain ⟨ir0, h1, h2⟩ := Option.map_eq_some_iff.1 ir12_ok
  exact calls_ir (args := #[]) Tryz.func12 (c := Tryz.f12.body.getD .skip) rfl h1 h2 (by kernel_rfl) (show rvsOf Tryz.prog ir12_V Tryz.f12.results.toList = some [.tmp 0] by kernel_rfl) (Nat.le_of_ble_eq_true rfl) (h _ )

end Go.L01
/- Layer 1: the reading of the deferred closure. -/
namespace Go.L01
open Go Go.Eng Go.Proofs
set_option maxRecDepth 100000
/-! ### 63: argus/token.scanned$1  captured: l, comments, fault -/
noncomputable def jr63_body : Code := (Tryz.f63.body).getD .skip
noncomputable def jr63 (v : Value) : IR :=
  .seq (.reg [.asg none 6 (.const v)]) <|
  .block 0 (.seq (.reg [.eff none (some 8) (.binOp .eql 20 (.tmp 6) (.const .nilIface) 20) 4]) <|
   .cond (.var 8)
    (.reg [.asg none 3 (.var 6)])
    (.seq (.reg [.eff none (some 9) (.typeAssert (.tmp 6) 20 84 true) 0,
        .asg none 10 (.op1 (.ext 1) (.var 9)),
        .asg none 11 (.op1 (.ext 0) (.var 9))]) <|
     .cond (.var 10)
      (.seq (.reg [.eff none (some 4) (.alloc 84) 0,
          .eff none none (.store 84 (.tmp 4) (.tmp 11)) 0]) <|
       .raw (rawReg jr63_body 7))
      (.reg [.asg none 5 (.var 6),
         .asg none 7 (.var 5),
         .eff none none (.panic (.tmp 7)) 0])))
def jr63_V : List Nat := [0, 1, 2, 3, 4, 5, 6, 7, 8, 9, 10, 11, 12, 13]
theorem jr63_ok (v : Value) : (comp Tryz.prog Tryz.f63.ntmps jr63_V [7] (swapRec v (Tryz.f63.body.getD .skip))).map IR.norm = some (jr63 v) := by kernel_rfl
theorem jr63_calls {v0 v1 v2 : Value} {u : FrameMode} {w : World} {R : Ending → FrameMode → World → Prop} (h : ∀ ρ : Env, ρ 0 = v0 → ρ 1 = v1 → ρ 2 = v2 → (jr63 (recV u)).wp ⟨Tryz.prog, 14, jr63_V, []⟩ (recK [] (recU u) R) (recKs [] (recU u) R) ρ w) :
    CallsDIn Fence.wide 0 Tryz.prog 63 #[v0, v1, v2] u w R := by
  obtain ⟨ir0, h1, h2⟩ := Option.map_eq_some_iff.1 (jr63_ok (recV u))
  exact callsD_recR (args := #[v0, v1, v2]) Tryz.func63 (c := Tryz.f63.body.getD .skip) rfl (by kernel_rfl) h1 h2 (by kernel_rfl) (show rvsOf Tryz.prog jr63_V Tryz.f63.results.toList = some [] by kernel_rfl) (Nat.le_of_ble_eq_true rfl) (h _ rfl rfl rfl)
noncomputable def jr63_o7 : OT :=
  .take none 12 (.op1 (.fadr 0) (.var 4)) <|
  .take none 13 (.op1 (.loadN 2) (.var 12)) <|
  .step (.eff none none (.store 28 (.tmp 0) (.const (.slice none 0 0))) 0) true <|
  .step (.eff none none (.store 25 (.tmp 1) (.const (.slice none 0 0))) 0) true <|
  .step (.eff none none (.store 31 (.tmp 2) (.tmp 13)) 0) false <|
  .done
theorem jr63_o7_ok : ordOf Tryz.prog 14 jr63_V 4 (rawReg jr63_body 7) = some jr63_o7 := by kernel_rfl
end Go.L01
/- Layer 1: readings of the Builder's writing methods. -/
namespace Go.L01
open Go Go.Eng Go.Proofs
set_option maxRecDepth 100000
/-! ### 52: (*strings.Builder).WriteByte  params #[66, 5] results #[71]  slots [(0, b), (1, c)] -/
noncomputable def ir52 : IR :=
  .seq (.reg [.asg none 4 (.const .nilIface),
     .asg none 5 (.var 0),
     .eff none (some 6) (.call { callee := .value (.func 70), args := #[(.tmp 5)], argTypes := #[66] }) 0,
     .asg none 7 (.var 0),
     .asg none 11 (.op1 .load1 (.op1 (.fadr 1) (.op1 .nilc (.var 0)))),
     .asg none 12 (.var 1),
     .eff none (some 13) (.buildSlice 67 1 #[(0, (.tmp 12))]) 67,
     .eff none (some 14) (.call { callee := .builtin .append, args := #[(.tmp 11), (.tmp 13)], argTypes := #[67, 67] }) 67,
     .asg none 16 (.op1 (.fadr 1) (.op1 .nilc (.var 7))),
     .eff none none (.store 67 (.tmp 16) (.tmp 14)) 0,
     .asg none 4 (.const .nilIface)]) <|
  .ret
def ir52_V : List Nat := [0, 1, 4, 5, 6, 7, 11, 12, 13, 14, 16]
theorem ir52_ok : (comp Tryz.prog Tryz.f52.ntmps ir52_V [] (Tryz.f52.body.getD .skip)).map IR.norm = some ir52 := by kernel_rfl
theorem ir52_calls {v0 v1 : Value} {w : World} {R : Ending → World → Prop} (h : ∀ ρ : Env, ρ 0 = v0 → ρ 1 = v1 → ir52.wp ⟨Tryz.prog, 17, ir52_V, []⟩ (retK [.tmp 4] R) (ksOf [.tmp 4] R) ρ w) :
    Calls Tryz.prog 52 #[v0, v1] w R := by
  obtain ⟨ir0, h1, h2⟩ := Option.map_eq_some_iff.1 ir52_ok
  exact calls_ir (args := #[v0, v1]) Tryz.func52 (c := (Tryz.f52.body.getD .skip)) rfl h1 h2 (by kernel_rfl) (show rvsOf Tryz.prog ir52_V Tryz.f52.results.toList = some [.tmp 4] by kernel_rfl) (Nat.le_of_ble_eq_true rfl) (h _ rfl rfl)

/-! ### 53: (*strings.Builder).WriteString  params #[66, 9] results #[3, 71]  slots [(0, b), (1, s)] -/
noncomputable def ir53 : IR :=
  .seq (.reg [.asg none 4 (.const (.int .i64 0)),
     .asg none 5 (.const .nilIface),
     .asg none 6 (.var 0),
     .eff none (some 7) (.call { callee := .value (.func 70), args := #[(.tmp 6)], argTypes := #[66] }) 0,
     .asg none 8 (.var 0),
     .asg none 12 (.op1 .load1 (.op1 (.fadr 1) (.op1 .nilc (.var 0)))),
     .asg none 13 (.var 1),
     .eff none (some 14) (.call { callee := .builtin .append, args := #[(.tmp 12), (.tmp 13)], argTypes := #[67, 9] }) 67,
     .asg none 16 (.op1 (.fadr 1) (.op1 .nilc (.var 8))),
     .eff none none (.store 67 (.tmp 16) (.tmp 14)) 0,
     .asg none 4 (.op1 .lenT (.var 1)),
     .asg none 5 (.const .nilIface)]) <|
  .ret
def ir53_V : List Nat := [0, 1, 4, 5, 6, 7, 8, 12, 13, 14, 16]
theorem ir53_ok : (comp Tryz.prog Tryz.f53.ntmps ir53_V [] (Tryz.f53.body.getD .skip)).map IR.norm = some ir53 := by kernel_rfl
theorem ir53_calls {v0 v1 : Value} {w : World} {R : Ending → World → Prop} (h : ∀ ρ : Env, ρ 0 = v0 → ρ 1 = v1 → ir53.wp ⟨Tryz.prog, 19, ir53_V, []⟩ (retK [.tmp 4, .tmp 5] R) (ksOf [.tmp 4, .tmp 5] R) ρ w) :
    Calls Tryz.prog 53 #[v0, v1] w R := by
  obtain ⟨ir0, h1, h2⟩ := Option.map_eq_some_iff.1 ir53_ok
  exact calls_ir (args := #[v0, v1]) Tryz.func53 (c := (Tryz.f53.body.getD .skip)) rfl h1 h2 (by kernel_rfl) (show rvsOf Tryz.prog ir53_V Tryz.f53.results.toList = some [.tmp 4, .tmp 5] by kernel_rfl) (Nat.le_of_ble_eq_true rfl) (h _ rfl rfl)

/-! ### 70: (*strings.Builder).copyCheck  params #[66] results #[]  slots [(0, b)] -/
noncomputable def ir70 : IR :=
  .seq (.reg [.asg none 5 (.op1 .load1 (.op1 (.fadr 0) (.op1 .nilc (.var 0)))),
     .eff none (some 6) (.binOp .eql 66 (.tmp 5) (.const (.pointer none)) 66) 4]) <|
  .cond (.var 6)
   (.reg [.asg none 7 (.var 0),
      .asg none 8 (.var 0),
      .eff none (some 9) (.convert 66 114 (.tmp 8)) 114,
      .eff none (some 10) (.call { callee := .value (.func 89), args := #[(.tmp 9)], argTypes := #[114] }) 114,
      .eff none (some 11) (.convert 114 66 (.tmp 10)) 66,
      .asg none 13 (.op1 (.fadr 0) (.op1 .nilc (.var 7))),
      .eff none none (.store 66 (.tmp 13) (.tmp 11)) 0])
   (.seq (.reg [.asg none 17 (.op1 .load1 (.op1 (.fadr 0) (.op1 .nilc (.var 0)))),
       .asg none 18 (.var 0),
       .eff none (some 19) (.binOp .neq 66 (.tmp 17) (.tmp 18) 66) 4]) <|
    .cond (.var 19)
     (.raw (.refuse "(*strings.Builder).copyCheck builder.go:41: unsupported: a written strings.Builder's value in another place: whether the library's copy check passes hangs on where the compiler lays the two"))
     (.skip))
def ir70_V : List Nat := [0, 5, 6, 7, 8, 9, 10, 11, 13, 17, 18, 19]
theorem ir70_ok : (comp Tryz.prog Tryz.f70.ntmps ir70_V [] (Tryz.f70.body.getD .skip)).map IR.norm = some ir70 := by kernel_rfl
theorem ir70_calls {v0 : Value} {w : World} {R : Ending → World → Prop} (h : ∀ ρ : Env, ρ 0 = v0 → ir70.wp ⟨Tryz.prog, 20, ir70_V, []⟩ (retK [] R) (ksOf [] R) ρ w) :
    Calls Tryz.prog 70 #[v0] w R := by
  obtain ⟨ir0, h1, h2⟩ := Option.map_eq_some_iff.1 ir70_ok
  exact calls_ir (args := #[v0]) Tryz.func70 (c := (Tryz.f70.body.getD .skip)) rfl h1 h2 (by kernel_rfl) (show rvsOf Tryz.prog ir70_V Tryz.f70.results.toList = some [] by kernel_rfl) (Nat.le_of_ble_eq_true rfl) (h _ rfl)
end Go.L01
