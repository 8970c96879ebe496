/- Texts of mine for the claims about layer 16 (link), joined: L16O. -/
import Derived.Test.YtaipjaclgkjhdaaDoorJai
import Derived.Test.YtaipjaclgkjhdaaDoorJas
import Derived.Test.YtaipjaclgkjhdaaDoorJat
import Derived.Test.YtaipjaclgkjhdaaDoorJau
set_option linter.all false
set_option linter.unusedSimpArgs false
set_option linter.unusedVariables false
/- Layer 16: the orders of regions. -/
namespace Go.L16
open Go Go.Eng Go.RowKit Go.Proofs
set_option maxRecDepth 10000
/-! 14 argus/arguslaw16.linked region 10: 20 operations, tail 19, size 30 -/
noncomputable def ir14_o10 : OT :=
  .take none 69 (.var 1) <|
  .take none 70 (.op2 (.ixa 3) (.var 69) (.const (.int .i64 3))) <|
  .take none 71 (.op1 (.loadN 3) (.var 70)) <|
  .take none 72 (.var 1) <|
  .take none 73 (.op2 (.ixa 3) (.var 72) (.const (.int .i64 0))) <|
  .take none 74 (.op1 (.loadN 3) (.var 73)) <|
  .take none 75 (.var 1) <|
  .take none 76 (.op2 (.ixa 3) (.var 75) (.const (.int .i64 2))) <|
  .take none 77 (.op1 (.loadN 3) (.var 76)) <|
  .take none 78 (.var 1) <|
  .take none 79 (.op2 (.ixa 3) (.var 78) (.const (.int .i64 1))) <|
  .take none 80 (.op1 (.loadN 3) (.var 79)) <|
  .both (.step (.eff none (some 81) (.buildSlice 42 4 #[(0, (.tmp 71)), (1, (.tmp 74)), (2, (.tmp 77)), (3, (.tmp 80))]) 42) true <|
    .step (.eff none (some 82) (.buildSlice 22 1 #[(0, (.const (.string ⟨#[109]⟩)))]) 22) true <|
    .step (.eff none (some 83) (.call { callee := .value (.func 38), args := #[(.tmp 81), (.tmp 82)], argTypes := #[42, 22] }) 60) true <|
    .take none 68 (.var 83) <|
    .take none 84 (.op1 (.ext 0) (.var 68)) <|
    .take none 85 (.op1 (.ext 1) (.var 68)) <|
    .take none 19 (.var 84) <|
    .step (.asg none 20 (.var 85)) false <|
    .done) <|
  .step (.eff none (some 82) (.buildSlice 22 1 #[(0, (.const (.string ⟨#[109]⟩)))]) 22) true <|
  .step (.eff none (some 81) (.buildSlice 42 4 #[(0, (.tmp 71)), (1, (.tmp 74)), (2, (.tmp 77)), (3, (.tmp 80))]) 42) true <|
  .step (.eff none (some 83) (.call { callee := .value (.func 38), args := #[(.tmp 81), (.tmp 82)], argTypes := #[42, 22] }) 60) true <|
  .take none 68 (.var 83) <|
  .take none 84 (.op1 (.ext 0) (.var 68)) <|
  .take none 85 (.op1 (.ext 1) (.var 68)) <|
  .take none 19 (.var 84) <|
  .step (.asg none 20 (.var 85)) false <|
  .done
theorem ir14_o10_ok : ordOf Tryd.prog 182 ir14_V 19 (rawReg ir14_body 10) = some ir14_o10 := by kernel_rfl
/-! 18 argus/argusref16.Part region 9: 13 operations, tail 10, size 14 -/
noncomputable def ir18_o9 : OT :=
  .take none 38 (.op1 (.fadr 2) (.var 2)) <|
  .take none 39 (.op1 .load1 (.var 38)) <|
  .take none 40 (.op1 (.fadr 1) (.var 2)) <|
  .take none 41 (.op1 .load1 (.var 40)) <|
  .take none 42 (.var 1) <|
  .take none 43 (.op2 (.ixa 1) (.var 41) (.var 42)) <|
  .take none 44 (.op1 .load1 (.var 43)) <|
  .take none 45 (.var 7) <|
  .take none 46 (.op3 (.slLoHi 1) (.var 39) (.var 44) (.var 45)) <|
  .step (.eff none (some 37) (.buildSlice 24 0 #[]) 24) true <|
  .step (.eff none (some 47) (.call { callee := .builtin .append, args := #[(.tmp 37), (.tmp 46)], argTypes := #[24, 24] }) 24) false <|
  .step (.asg none 4 (.var 47)) false <|
  .step (.asg none 5 (.const (.int .i64 0))) false <|
  .done
theorem ir18_o9_ok : ordOf Tryd.prog 48 ir18_V 10 (rawReg ir18_body 9) = some ir18_o9 := by kernel_rfl
/-! 41 argus/argusref16.SameObjects region 11: 17 operations, tail 16, size 18 -/
noncomputable def ir41_o11 : OT :=
  .take none 68 (.var 0) <|
  .take none 69 (.var 5) <|
  .take none 70 (.op2 (.ixa 3) (.var 68) (.var 69)) <|
  .take none 71 (.op1 (.fadr 2) (.var 70)) <|
  .take none 72 (.op1 .load1 (.var 71)) <|
  .take none 73 (.var 6) <|
  .take none 74 (.op2 (.ixa 2) (.var 72) (.var 73)) <|
  .take none 75 (.op1 (.loadN 2) (.var 74)) <|
  .take none 76 (.var 1) <|
  .take none 77 (.var 5) <|
  .take none 78 (.op2 (.ixa 3) (.var 76) (.var 77)) <|
  .take none 79 (.op1 (.fadr 2) (.var 78)) <|
  .take none 80 (.op1 .load1 (.var 79)) <|
  .take none 81 (.var 6) <|
  .take none 82 (.op2 (.ixa 2) (.var 80) (.var 81)) <|
  .take none 83 (.op1 (.loadN 2) (.var 82)) <|
  .step (.eff none (some 84) (.binOp .neq 54 (.tmp 75) (.tmp 83) 54) 4) false <|
  .done
theorem ir41_o11_ok : ordOf Tryd.prog 85 ir41_V 16 (rawReg ir41_body 11) = some ir41_o11 := by kernel_rfl
/-! 25 argus/argusref16.Read region 12: 15 operations, tail 12, size 16 -/
noncomputable def ir25_o12 : OT :=
  .take none 46 (.op1 (.fadr 0) (.var 4)) <|
  .take none 47 (.op1 .load1 (.var 46)) <|
  .take none 48 (.var 0) <|
  .take none 49 (.var 6) <|
  .take none 50 (.op2 (.ibin .add .i64) (.var 49) (.const (.int .i64 1))) <|
  .take none 51 (.var 6) <|
  .take none 52 (.op2 (.ibin .add .i64) (.var 51) (.const (.int .i64 1))) <|
  .take none 53 (.var 8) <|
  .take none 54 (.op2 (.ibin .add .i64) (.var 52) (.var 53)) <|
  .take none 55 (.op3 (.slLoHi 1) (.var 48) (.var 50) (.var 54)) <|
  .take none 56 (.op1 .b2s (.var 55)) <|
  .step (.eff none (some 57) (.buildSlice 22 1 #[(0, (.tmp 56))]) 22) true <|
  .step (.eff none (some 58) (.call { callee := .builtin .append, args := #[(.tmp 47), (.tmp 57)], argTypes := #[22, 22] }) 22) false <|
  .step (.asg none 59 (.op1 (.fadr 0) (.var 4))) false <|
  .step (.eff none none (.store 22 (.tmp 59) (.tmp 58)) 0) false <|
  .done
theorem ir25_o12_ok : ordOf Tryd.prog 112 ir25_V 12 (rawReg ir25_body 12) = some ir25_o12 := by kernel_rfl
/-! 25 argus/argusref16.Read region 14: 35 operations, tail 32, size 36 -/
noncomputable def ir25_o14 : OT :=
  .take none 64 (.op1 (.fadr 1) (.var 4)) <|
  .take none 65 (.op1 .load1 (.var 64)) <|
  .take none 66 (.var 0) <|
  .take none 67 (.var 6) <|
  .take none 68 (.op2 (.ixa 1) (.var 66) (.var 67)) <|
  .take none 69 (.op1 .load1 (.var 68)) <|
  .take none 70 (.op1 (.conv .i64) (.var 69)) <|
  .take none 71 (.op2 (.shf .shl) (.var 70) (.const (.int .u64 24))) <|
  .take none 72 (.var 0) <|
  .take none 73 (.var 6) <|
  .take none 74 (.op2 (.ibin .add .i64) (.var 73) (.const (.int .i64 1))) <|
  .take none 75 (.op2 (.ixa 1) (.var 72) (.var 74)) <|
  .take none 76 (.op1 .load1 (.var 75)) <|
  .take none 77 (.op1 (.conv .i64) (.var 76)) <|
  .take none 78 (.op2 (.shf .shl) (.var 77) (.const (.int .u64 16))) <|
  .take none 79 (.op2 (.ibin .or .i64) (.var 71) (.var 78)) <|
  .take none 80 (.var 0) <|
  .take none 81 (.var 6) <|
  .take none 82 (.op2 (.ibin .add .i64) (.var 81) (.const (.int .i64 2))) <|
  .take none 83 (.op2 (.ixa 1) (.var 80) (.var 82)) <|
  .take none 84 (.op1 .load1 (.var 83)) <|
  .take none 85 (.op1 (.conv .i64) (.var 84)) <|
  .take none 86 (.op2 (.shf .shl) (.var 85) (.const (.int .u64 8))) <|
  .take none 87 (.op2 (.ibin .or .i64) (.var 79) (.var 86)) <|
  .take none 88 (.var 0) <|
  .take none 89 (.var 6) <|
  .take none 90 (.op2 (.ibin .add .i64) (.var 89) (.const (.int .i64 3))) <|
  .take none 91 (.op2 (.ixa 1) (.var 88) (.var 90)) <|
  .take none 92 (.op1 .load1 (.var 91)) <|
  .take none 93 (.op1 (.conv .i64) (.var 92)) <|
  .take none 94 (.op2 (.ibin .or .i64) (.var 87) (.var 93)) <|
  .step (.eff none (some 95) (.buildSlice 23 1 #[(0, (.tmp 94))]) 23) true <|
  .step (.eff none (some 96) (.call { callee := .builtin .append, args := #[(.tmp 65), (.tmp 95)], argTypes := #[23, 23] }) 23) false <|
  .step (.asg none 97 (.op1 (.fadr 1) (.var 4))) false <|
  .step (.eff none none (.store 23 (.tmp 97) (.tmp 96)) 0) false <|
  .done
theorem ir25_o14_ok : ordOf Tryd.prog 112 ir25_V 32 (rawReg ir25_body 14) = some ir25_o14 := by kernel_rfl
/-! 25 argus/argusref16.Read region 16: 8 operations, tail 5, size 9 -/
noncomputable def ir25_o16 : OT :=
  .take none 100 (.op1 (.fadr 2) (.var 4)) <|
  .take none 101 (.op1 .load1 (.var 100)) <|
  .take none 102 (.var 0) <|
  .take none 103 (.var 6) <|
  .take none 104 (.op2 (.slLo 1) (.var 102) (.var 103)) <|
  .step (.eff none (some 105) (.call { callee := .builtin .append, args := #[(.tmp 101), (.tmp 104)], argTypes := #[24, 24] }) 24) false <|
  .step (.asg none 106 (.op1 (.fadr 2) (.var 4))) false <|
  .step (.eff none none (.store 24 (.tmp 106) (.tmp 105)) 0) false <|
  .done
theorem ir25_o16_ok : ordOf Tryd.prog 112 ir25_V 5 (rawReg ir25_body 16) = some ir25_o16 := by kernel_rfl
/-! 24 argus/link.Read region 5: 11 operations, tail 8, size 12 -/
noncomputable def ir24_o5 : OT :=
  .take none 13 (.op1 (.fadr 0) (.var 2)) <|
  .take none 14 (.op1 .load1 (.var 13)) <|
  .take none 15 (.var 4) <|
  .take none 16 (.var 4) <|
  .step (.eff none (some 17) (.call { callee := .value (.func 61), args := #[(.tmp 16)], argTypes := #[94] }) 3) true <|
  .step (.eff none (some 18) (.call { callee := .value (.func 62), args := #[(.tmp 15), (.tmp 17)], argTypes := #[94, 3] }) 24) true <|
  .take none 19 (.op1 .b2s (.var 18)) <|
  .step (.eff none (some 20) (.buildSlice 22 1 #[(0, (.tmp 19))]) 22) true <|
  .step (.eff none (some 21) (.call { callee := .builtin .append, args := #[(.tmp 14), (.tmp 20)], argTypes := #[22, 22] }) 22) false <|
  .step (.asg none 22 (.op1 (.fadr 0) (.var 2))) false <|
  .step (.eff none none (.store 22 (.tmp 22) (.tmp 21)) 0) false <|
  .done
theorem ir24_o5_ok : ordOf Tryd.prog 42 ir24_V 8 (rawReg ir24_body 5) = some ir24_o5 := by kernel_rfl
/-! 24 argus/link.Read region 6: 8 operations, tail 5, size 9 -/
noncomputable def ir24_o6 : OT :=
  .take none 23 (.op1 (.fadr 1) (.var 2)) <|
  .take none 24 (.op1 .load1 (.var 23)) <|
  .take none 25 (.var 4) <|
  .step (.eff none (some 26) (.call { callee := .value (.func 63), args := #[(.tmp 25)], argTypes := #[94] }) 3) true <|
  .step (.eff none (some 27) (.buildSlice 23 1 #[(0, (.tmp 26))]) 23) true <|
  .step (.eff none (some 28) (.call { callee := .builtin .append, args := #[(.tmp 24), (.tmp 27)], argTypes := #[23, 23] }) 23) false <|
  .step (.asg none 29 (.op1 (.fadr 1) (.var 2))) false <|
  .step (.eff none none (.store 23 (.tmp 29) (.tmp 28)) 0) false <|
  .done
theorem ir24_o6_ok : ordOf Tryd.prog 42 ir24_V 5 (rawReg ir24_body 6) = some ir24_o6 := by kernel_rfl
/-! 38 argus/link.Without region 13: 10 operations, tail 7, size 11 -/
noncomputable def ir38_o13 : OT :=
  .take none 47 (.op1 (.fadr 1) (.var 12)) <|
  .take none 48 (.op1 .load1 (.var 47)) <|
  .take none 50 (.op1 (.fadr 2) (.var 12)) <|
  .take none 51 (.op1 .load1 (.var 50)) <|
  .step (.eff none (some 49) (.call { callee := .value (.func 52), args := #[(.tmp 48)], argTypes := #[24] }) 24) true <|
  .take none 53 (.op1 (.fadr 1) (.var 12)) <|
  .step (.eff none (some 52) (.call { callee := .value (.func 70), args := #[(.tmp 51)], argTypes := #[43] }) 43) true <|
  .step (.eff none none (.store 24 (.tmp 53) (.tmp 49)) 0) false <|
  .step (.asg none 54 (.op1 (.fadr 2) (.var 12))) false <|
  .step (.eff none none (.store 43 (.tmp 54) (.tmp 52)) 0) false <|
  .done
theorem ir38_o13_ok : ordOf Tryd.prog 61 ir38_V 7 (rawReg ir38_body 13) = some ir38_o13 := by kernel_rfl
/-! 5 argus/arguslaw16.LinkOrders region 14: 7 operations, tail 5, size 19 -/
noncomputable def ir5_o14 : OT :=
  .take none 90 (.var 0) <|
  .take none 92 (.op1 (.loadN 3) (.var 7)) <|
  .both (.step (.eff none (some 89) (.buildSlice 42 0 #[]) 42) true <|
    .both (.step (.eff none (some 91) (.call { callee := .builtin .append, args := #[(.tmp 89), (.tmp 90)], argTypes := #[42, 42] }) 42) true <|
      .step (.eff none (some 93) (.buildSlice 42 1 #[(0, (.tmp 92))]) 42) true <|
      .step (.eff none (some 94) (.call { callee := .builtin .append, args := #[(.tmp 91), (.tmp 93)], argTypes := #[42, 42] }) 42) false <|
      .step (.asg none 15 (.var 94)) false <|
      .done) <|
    .step (.eff none (some 93) (.buildSlice 42 1 #[(0, (.tmp 92))]) 42) true <|
    .step (.eff none (some 91) (.call { callee := .builtin .append, args := #[(.tmp 89), (.tmp 90)], argTypes := #[42, 42] }) 42) true <|
    .step (.eff none (some 94) (.call { callee := .builtin .append, args := #[(.tmp 91), (.tmp 93)], argTypes := #[42, 42] }) 42) false <|
    .step (.asg none 15 (.var 94)) false <|
    .done) <|
  .step (.eff none (some 93) (.buildSlice 42 1 #[(0, (.tmp 92))]) 42) true <|
  .step (.eff none (some 89) (.buildSlice 42 0 #[]) 42) true <|
  .step (.eff none (some 91) (.call { callee := .builtin .append, args := #[(.tmp 89), (.tmp 90)], argTypes := #[42, 42] }) 42) true <|
  .step (.eff none (some 94) (.call { callee := .builtin .append, args := #[(.tmp 91), (.tmp 93)], argTypes := #[42, 42] }) 42) false <|
  .step (.asg none 15 (.var 94)) false <|
  .done
theorem ir5_o14_ok : ordOf Tryd.prog 119 ir5_V 5 (rawReg ir5_body 14) = some ir5_o14 := by kernel_rfl
/-! 7 argus/arguslaw16.LinkNames region 19: 14 operations, tail 11, size 15 -/
noncomputable def ir7_o19 : OT :=
  .take none 79 (.op1 (.fadr 2) (.var 12)) <|
  .take none 80 (.op1 .load1 (.var 79)) <|
  .take none 81 (.var 13) <|
  .take none 82 (.var 9) <|
  .take none 83 (.op1 (.fadr 2) (.var 12)) <|
  .take none 84 (.op1 .load1 (.var 83)) <|
  .take none 85 (.var 13) <|
  .take none 86 (.op2 (.ixa 2) (.var 84) (.var 85)) <|
  .take none 87 (.op1 (.fadr 1) (.var 86)) <|
  .take none 88 (.op1 .load1 (.var 87)) <|
  .take none 89 (.op2 (.sbin .add) (.var 82) (.var 88)) <|
  .step (.asg none 90 (.op2 (.ixa 2) (.var 80) (.var 81))) false <|
  .step (.asg none 91 (.op1 (.fadr 1) (.var 90))) false <|
  .step (.eff none none (.store 9 (.tmp 91) (.tmp 89)) 0) false <|
  .done
theorem ir7_o19_ok : ordOf Tryd.prog 139 ir7_V 11 (rawReg ir7_body 19) = some ir7_o19 := by kernel_rfl
/-! 10 argus/arguslaw16.LinkLeast region 29: 11 operations, tail 9, size 12 -/
noncomputable def ir10_o29 : OT :=
  .take none 150 (.var 9) <|
  .take none 151 (.var 22) <|
  .take none 152 (.op3 (.slLoHi 3) (.var 150) (.const (.int .i64 0)) (.var 151)) <|
  .take none 154 (.var 9) <|
  .take none 155 (.var 22) <|
  .take none 156 (.op2 (.ibin .add .i64) (.var 155) (.const (.int .i64 1))) <|
  .take none 157 (.op2 (.slLo 3) (.var 154) (.var 156)) <|
  .step (.eff none (some 149) (.buildSlice 42 0 #[]) 42) true <|
  .step (.eff none (some 153) (.call { callee := .builtin .append, args := #[(.tmp 149), (.tmp 152)], argTypes := #[42, 42] }) 42) true <|
  .step (.eff none (some 158) (.call { callee := .builtin .append, args := #[(.tmp 153), (.tmp 157)], argTypes := #[42, 42] }) 42) false <|
  .step (.asg none 23 (.var 158)) false <|
  .done
theorem ir10_o29_ok : ordOf Tryd.prog 186 ir10_V 9 (rawReg ir10_body 29) = some ir10_o29 := by kernel_rfl
/-! 83 (*bytes.Buffer).grow region 12: 14 operations, tail 13, size 15 -/
noncomputable def ir83_o12 : OT :=
  .take none 55 (.var 0) <|
  .take none 56 (.op1 .nilc (.var 55)) <|
  .take none 57 (.op1 (.fadr 0) (.var 56)) <|
  .take none 58 (.op1 .load1 (.var 57)) <|
  .take none 59 (.var 0) <|
  .take none 60 (.op1 .nilc (.var 59)) <|
  .take none 61 (.op1 (.fadr 0) (.var 60)) <|
  .take none 62 (.op1 .load1 (.var 61)) <|
  .take none 63 (.var 0) <|
  .take none 64 (.op1 .nilc (.var 63)) <|
  .take none 65 (.op1 (.fadr 1) (.var 64)) <|
  .take none 66 (.op1 .load1 (.var 65)) <|
  .take none 67 (.op2 (.slLo 1) (.var 62) (.var 66)) <|
  .step (.eff none (some 68) (.call { callee := .builtin .copy, args := #[(.tmp 58), (.tmp 67)], argTypes := #[24, 24] }) 3) false <|
  .done
theorem ir83_o12_ok : ordOf Tryd.prog 110 ir83_V 13 (rawReg ir83_body 12) = some ir83_o12 := by kernel_rfl
/-! 83 (*bytes.Buffer).grow region 15: 20 operations, tail 17, size 21 -/
noncomputable def ir83_o15 : OT :=
  .take none 76 (.var 0) <|
  .take none 77 (.var 0) <|
  .take none 78 (.op1 .nilc (.var 77)) <|
  .take none 79 (.op1 (.fadr 0) (.var 78)) <|
  .take none 80 (.op1 .load1 (.var 79)) <|
  .take none 81 (.var 0) <|
  .take none 82 (.op1 .nilc (.var 81)) <|
  .take none 83 (.op1 (.fadr 1) (.var 82)) <|
  .take none 84 (.op1 .load1 (.var 83)) <|
  .take none 85 (.op2 (.slLo 1) (.var 80) (.var 84)) <|
  .take none 86 (.var 0) <|
  .take none 87 (.op1 .nilc (.var 86)) <|
  .take none 88 (.op1 (.fadr 1) (.var 87)) <|
  .take none 89 (.op1 .load1 (.var 88)) <|
  .take none 90 (.var 1) <|
  .take none 91 (.op2 (.ibin .add .i64) (.var 89) (.var 90)) <|
  .step (.eff none (some 92) (.call { callee := .value (.func 95), args := #[(.tmp 85), (.tmp 91)], argTypes := #[24, 3] }) 24) true <|
  .step (.asg none 93 (.op1 .nilc (.var 76))) false <|
  .step (.asg none 94 (.op1 (.fadr 0) (.var 93))) false <|
  .step (.eff none none (.store 24 (.tmp 94) (.tmp 92)) 0) false <|
  .done
theorem ir83_o15_ok : ordOf Tryd.prog 110 ir83_V 17 (rawReg ir83_body 15) = some ir83_o15 := by kernel_rfl
end Go.L16
