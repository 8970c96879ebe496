/- Texts of mine for the claims about layer 16 (link), joined: L16Id. -/
import Derived.Test.YtaipjaclgkjhdaaDoorJao
import Derived.Test.YtaipjaclgkjhdaaDoorProg
import Derived.KernelRfl
set_option linter.all false
set_option linter.unusedSimpArgs false
set_option linter.unusedVariables false
/- Layer 16: readings with loops over functions. -/
namespace Go.L16
open Go Go.Eng Go.Proofs
set_option maxRecDepth 100000
/-! ### 42: argus/link.Needs  params #[45] results #[22, 29]  slots [(0, o), (1, o), (4, e), (5, set), (6, name)] -/
noncomputable def jr42_body : Code := (Tryd.f42.body).getD .skip
noncomputable def jr42_c0 : Code := (rfList jr42_body).getD 0 .skip
noncomputable def jr42_k0 : IR :=
  .seq (.reg [.asg none 18 (.op1 .load1 (.var 5)),
     .eff none (some 19) (.call { callee := .value (.func 72), args := #[(.tmp 18)], argTypes := #[100] }) 22,
     .asg none 2 (.var 19),
     .asg none 3 (.const (.int .i64 0))]) <|
  .ret
noncomputable def jr42_k1 : IR :=
  .seq (.reg [.eff none (some 12) (.makeMap 100 none) 100,
     .eff none (some 5) (.alloc 100) 0,
     .eff none none (.store 100 (.tmp 5) (.tmp 12)) 0,
     .asg none 13 (.op1 (.loadN 3) (.var 1)),
     .eff none (some 14) (.call { callee := .value (.func 71), args := #[(.tmp 13)], argTypes := #[45] }) 111]) <|
  .seq (.block 0 (.raw jr42_c0))
  (jr42_k0)
noncomputable def jr42 : IR :=
  .seq (.reg [.eff none (some 1) (.box 45 (.tmp 0)) 0,
     .asg none 2 (.const (.slice none 0 0)),
     .asg none 3 (.const (.int .i64 0)),
     .asg none 7 (.op1 (.loadN 3) (.var 1)),
     .eff none (some 8) (.call { callee := .value (.func 44), args := #[(.tmp 7)], argTypes := #[45] }) 29,
     .asg none 4 (.var 8),
     .asg none 10 (.op2 (.ibin .neq .i64) (.var 4) (.const (.int .i64 0)))]) <|
  .seq (.cond (.var 10)
    (.seq (.reg [.asg none 11 (.var 4),
        .asg none 2 (.const (.slice none 0 0)),
        .asg none 3 (.var 11)]) <|
     .ret)
    (.skip))
  (jr42_k1)
def jr42_V : List Nat := [0, 1, 2, 3, 4, 5, 6, 7, 8, 10, 11, 12, 13, 14, 15, 16, 17, 18, 19]
noncomputable def jr42_a0 : IR :=
  .reg [.asg none 6 (.var 15)]
noncomputable def jr42_b0 : IR :=
  .block 1 (.reg [.asg none 16 (.op1 .load1 (.var 5)),
     .asg none 17 (.var 6),
     .eff none none (.mapUpdate 100 (.tmp 16) (.tmp 17) (.const (.bool true))) 0])
theorem jr42_rf0 : ∃ A B, jr42_c0 = .rangeFunc (.tmp 14) #[15] A B ∧ Part Tryd.prog 20 jr42_V A jr42_a0 ∧ Part Tryd.prog 20 jr42_V B jr42_b0 :=
  ⟨rfA jr42_c0, rfB jr42_c0, by kernel_rfl, ⟨by kernel_rfl, by kernel_rfl⟩, ⟨by kernel_rfl, by kernel_rfl⟩⟩
theorem jr42_ok : (comp Tryd.prog Tryd.f42.ntmps jr42_V [] (Tryd.f42.body.getD .skip)).map IR.norm = some jr42 := by kernel_rfl
theorem jr42_calls {v0 : Value} {w : World} {R : Ending → World → Prop} (h : ∀ ρ : Env, ρ 0 = v0 → ρ gS = .tuple #[] → jr42.wp ⟨Tryd.prog, 20, jr42_V, dAny⟩ (endK Tryd.prog [.tmp 2, .tmp 3] R .returning) (ksD Tryd.prog [.tmp 2, .tmp 3] R) ρ w) :
    Calls Tryd.prog 42 #[v0] w R := by
  obtain ⟨ir0, h1, h2⟩ := Option.map_eq_some_iff.1 jr42_ok
  exact calls_irD (args := #[v0]) Tryd.func42 (c := Tryd.f42.body.getD .skip) rfl h1 h2 (by kernel_rfl) (show rvsOf Tryd.prog jr42_V Tryd.f42.results.toList = some [.tmp 2, .tmp 3] by kernel_rfl) (Nat.le_of_ble_eq_true rfl) (h _ rfl rfl)

/-! ### 84: (argus/link.library).reached$1  params #[9] results #[]  slots [(0, name), (6, o), (7, is), (8, next)] -/
noncomputable def jr84_body : Code := (Tryd.f84.body).getD .skip
noncomputable def jr84_c0 : Code := (rfList jr84_body).getD 0 .skip
noncomputable def jr84_k0 : IR :=
  .seq (.reg [.asg none 24 (.op1 (.loadN 3) (.var 6)),
     .eff none (some 25) (.call { callee := .value (.func 71), args := #[(.tmp 24)], argTypes := #[45] }) 111]) <|
  .block 0 (.raw jr84_c0)
noncomputable def jr84_k1 : IR :=
  .seq (.reg [.asg none 12 (.op1 .load1 (.var 1)),
     .asg none 13 (.var 0),
     .eff none none (.mapUpdate 100 (.tmp 12) (.tmp 13) (.const (.bool true))) 0,
     .asg none 15 (.op1 .load1 (.var 2)),
     .asg none 16 (.var 0),
     .eff none (some 17) (.lookup 104 (.tmp 15) (.tmp 16) true) 128,
     .asg none 14 (.var 17),
     .asg none 18 (.op1 (.ext 0) (.var 14)),
     .asg none 19 (.op1 (.ext 1) (.var 14)),
     .eff none (some 6) (.alloc 45) 0,
     .eff none none (.store 45 (.tmp 6) (.tmp 18)) 0,
     .asg none 7 (.var 19),
     .asg none 21 (.op1 .not (.var 7))]) <|
  .seq (.cond (.var 21)
    (.reg [.asg none 22 (.op1 .load1 (.var 3)),
       .asg none 23 (.var 0),
       .eff none none (.mapUpdate 100 (.tmp 22) (.tmp 23) (.const (.bool true))) 0])
    (.skip))
  (jr84_k0)
noncomputable def jr84 : IR :=
  .seq (.reg [.asg none 9 (.op1 .load1 (.var 1)),
     .asg none 10 (.var 0),
     .eff none (some 11) (.lookup 100 (.tmp 9) (.tmp 10) false) 4]) <|
  .seq (.cond (.var 11)
    (.ret)
    (.skip))
  (jr84_k1)
def jr84_V : List Nat := [0, 1, 2, 3, 4, 6, 7, 8, 9, 10, 11, 12, 13, 14, 15, 16, 17, 18, 19, 21, 22, 23, 24, 25, 26, 27, 28, 29]
noncomputable def jr84_a0 : IR :=
  .reg [.asg none 8 (.var 26)]
noncomputable def jr84_b0 : IR :=
  .block 1 (.reg [.asg none 27 (.op1 .load1 (.var 4)),
     .asg none 28 (.var 8),
     .eff none (some 29) (.call { callee := .value (.tmp 27), args := #[(.tmp 28)], argTypes := #[9] }) 0])
theorem jr84_rf0 : ∃ A B, jr84_c0 = .rangeFunc (.tmp 25) #[26] A B ∧ Part Tryd.prog 30 jr84_V A jr84_a0 ∧ Part Tryd.prog 30 jr84_V B jr84_b0 :=
  ⟨rfA jr84_c0, rfB jr84_c0, by kernel_rfl, ⟨by kernel_rfl, by kernel_rfl⟩, ⟨by kernel_rfl, by kernel_rfl⟩⟩
theorem jr84_ok : (comp Tryd.prog Tryd.f84.ntmps jr84_V [] (Tryd.f84.body.getD .skip)).map IR.norm = some jr84 := by kernel_rfl
theorem jr84_calls {v0 v1 v2 v3 v4 : Value} {w : World} {R : Ending → World → Prop} (h : ∀ ρ : Env, ρ 0 = v0 → ρ 1 = v1 → ρ 2 = v2 → ρ 3 = v3 → ρ 4 = v4 → ρ gS = .tuple #[] → jr84.wp ⟨Tryd.prog, 30, jr84_V, dAny⟩ (endK Tryd.prog [] R .returning) (ksD Tryd.prog [] R) ρ w) :
    Calls Tryd.prog 84 #[v0, v1, v2, v3, v4] w R := by
  obtain ⟨ir0, h1, h2⟩ := Option.map_eq_some_iff.1 jr84_ok
  exact calls_irD (args := #[v0, v1, v2, v3, v4]) Tryd.func84 (c := Tryd.f84.body.getD .skip) rfl h1 h2 (by kernel_rfl) (show rvsOf Tryd.prog jr84_V Tryd.f84.results.toList = some [] by kernel_rfl) (Nat.le_of_ble_eq_true rfl) (h _ rfl rfl rfl rfl rfl rfl)

/-! ### 85: argus/link.needs$1  params #[77] results #[]  slots [(0, yield), (4, r)] -/
noncomputable def jr85_k0 : IR :=
  .reg [.asg none 8 (.op2 (.ibin .add .i64) (.var 8) (.const (.int .i64 1)))]
noncomputable def jr85_k1 : IR :=
  .seq (.block 1 (.seq (.reg [.asg none 11 (.op1 (.loadN 2) (.op2 (.ixa 2) (.var 6) (.var 8))),
       .eff none (some 4) (.alloc 54) 0,
       .eff none none (.store 54 (.tmp 4) (.tmp 11)) 0,
       .asg none 12 (.var 0),
       .asg none 14 (.op1 .load1 (.op1 (.fadr 1) (.var 4))),
       .eff none (some 15) (.call { callee := .value (.tmp 12), args := #[(.tmp 14)], argTypes := #[9] }) 4,
       .asg none 16 (.op1 .not (.var 15))]) <|
    .cond (.var 16)
     (.ret)
     (.skip)))
  (jr85_k0)
noncomputable def jr85_l2 : IR :=
  .seq (.reg [.asg none 9 (.op2 (.ibin .lss .i64) (.var 8) (.var 7))]) <|
  .seq (.cond (.var 9)
    (.skip)
    (.exit 0))
  (jr85_k1)
noncomputable def jr85 : IR :=
  .seq (.reg [.asg none 6 (.op1 .load1 (.op1 (.fadr 2) (.var 1))),
     .asg none 7 (.op1 .lenS (.var 6)),
     .asg none 8 (.const (.int .i64 0))]) <|
  .block 0 (.loop jr85_l2)
def jr85_V : List Nat := [0, 1, 4, 6, 7, 8, 9, 11, 12, 14, 15, 16]
theorem jr85_ok : (comp Tryd.prog Tryd.f85.ntmps jr85_V [] (Tryd.f85.body.getD .skip)).map IR.norm = some jr85 := by kernel_rfl
theorem jr85_calls {v0 v1 : Value} {w : World} {R : Ending → World → Prop} (h : ∀ ρ : Env, ρ 0 = v0 → ρ 1 = v1 → jr85.wp ⟨Tryd.prog, 18, jr85_V, []⟩ (retK [] R) (ksOf [] R) ρ w) :
    Calls Tryd.prog 85 #[v0, v1] w R := by
  obtain ⟨ir0, h1, h2⟩ := Option.map_eq_some_iff.1 jr85_ok
  exact calls_ir (args := #[v0, v1]) Tryd.func85 (c := Tryd.f85.body.getD .skip) rfl h1 h2 (by kernel_rfl) (show rvsOf Tryd.prog jr85_V Tryd.f85.results.toList = some [] by kernel_rfl) (Nat.le_of_ble_eq_true rfl) (h _ rfl rfl)

/-! ### 68: (argus/link.library).reached  params #[104, 22] results #[22, 22]  slots [(0, l), (1, roots), (2, l), (4, all), (5, missing), (6, seen), (7, lost), (8, visit), (10, r)] -/
noncomputable def jr68_body : Code := (Tryd.f68.body).getD .skip
noncomputable def jr68_k0 : IR :=
  .reg [.asg none 16 (.op2 (.ibin .add .i64) (.var 16) (.const (.int .i64 1)))]
noncomputable def jr68_k1 : IR :=
  .seq (.block 1 (.reg [.asg none 10 (.op1 .load1 (.op2 (.ixa 1) (.var 14) (.var 16))),
      .asg none 20 (.op1 .load1 (.var 8)),
      .asg none 21 (.var 10),
      .eff none (some 22) (.call { callee := .value (.tmp 20), args := #[(.tmp 21)], argTypes := #[9] }) 0]))
  (jr68_k0)
noncomputable def jr68_l2 : IR :=
  .seq (.reg [.asg none 17 (.op2 (.ibin .lss .i64) (.var 16) (.var 15))]) <|
  .seq (.cond (.var 17)
    (.skip)
    (.exit 0))
  (jr68_k1)
noncomputable def jr68_k3 : IR :=
  .ret
noncomputable def jr68_k4 : IR :=
  .seq (.raw (rawReg jr68_body 9))
  (jr68_k3)
noncomputable def jr68 : IR :=
  .seq (.reg [.eff none (some 2) (.box 104 (.tmp 0)) 0,
     .asg none 4 (.const (.slice none 0 0)),
     .asg none 5 (.const (.slice none 0 0)),
     .eff none (some 11) (.makeMap 100 none) 100,
     .eff none (some 12) (.makeMap 100 none) 100,
     .eff none (some 6) (.alloc 100) 0,
     .eff none (some 7) (.alloc 100) 0,
     .eff none none (.store 100 (.tmp 6) (.tmp 11)) 0,
     .eff none none (.store 100 (.tmp 7) (.tmp 12)) 0,
     .eff none (some 8) (.alloc 127) 0,
     .eff none (some 13) (.makeFunc (.func 84) #[] #[(.tmp 6), (.tmp 2), (.tmp 7), (.tmp 8)]) 127,
     .eff none none (.store 127 (.tmp 8) (.tmp 13)) 0,
     .asg none 14 (.var 1),
     .asg none 15 (.op1 .lenS (.var 14)),
     .asg none 16 (.const (.int .i64 0))]) <|
  .seq (.block 0 (.loop jr68_l2))
  (jr68_k4)
def jr68_V : List Nat := [0, 1, 2, 4, 5, 6, 7, 8, 10, 11, 12, 13, 14, 15, 16, 17, 20, 21, 22, 24, 25, 26, 27]
theorem jr68_ok : (comp Tryd.prog Tryd.f68.ntmps jr68_V [9] (Tryd.f68.body.getD .skip)).map IR.norm = some jr68 := by kernel_rfl
theorem jr68_calls {v0 v1 : Value} {w : World} {R : Ending → World → Prop} (h : ∀ ρ : Env, ρ 0 = v0 → ρ 1 = v1 → jr68.wp ⟨Tryd.prog, 28, jr68_V, []⟩ (retK [.tmp 4, .tmp 5] R) (ksOf [.tmp 4, .tmp 5] R) ρ w) :
    Calls Tryd.prog 68 #[v0, v1] w R := by
  obtain ⟨ir0, h1, h2⟩ := Option.map_eq_some_iff.1 jr68_ok
  exact calls_ir (args := #[v0, v1]) Tryd.func68 (c := Tryd.f68.body.getD .skip) rfl h1 h2 (by kernel_rfl) (show rvsOf Tryd.prog jr68_V Tryd.f68.results.toList = some [.tmp 4, .tmp 5] by kernel_rfl) (Nat.le_of_ble_eq_true rfl) (h _ rfl rfl)
/-! 68 (argus/link.library).reached region 9: 6 operations, tail 3, size 7 -/
noncomputable def jr68_o9 : OT :=
  .take none 24 (.op1 .load1 (.var 6)) <|
  .take none 26 (.op1 .load1 (.var 7)) <|
  .step (.eff none (some 25) (.call { callee := .value (.func 72), args := #[(.tmp 24)], argTypes := #[100] }) 22) true <|
  .step (.eff none (some 27) (.call { callee := .value (.func 72), args := #[(.tmp 26)], argTypes := #[100] }) 22) false <|
  .step (.asg none 4 (.var 25)) false <|
  .step (.asg none 5 (.var 27)) false <|
  .done
theorem jr68_o9_ok : ordOf Tryd.prog 28 jr68_V 3 (rawReg jr68_body 9) = some jr68_o9 := by kernel_rfl

end Go.L16
