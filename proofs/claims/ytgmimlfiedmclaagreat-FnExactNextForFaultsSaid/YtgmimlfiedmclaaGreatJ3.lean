/- The evaluator of the model's code and the functions' specs, part 3. Each part begins with a line that says what it holds. -/
import Derived.Test.YtgmimlfiedmclaaGreatJ2
import Derived.Test.YtgmimlfiedmclaaGreatProg
import Derived.KernelRfl
section
/- The compact code of the functions that the statements reach. Printed by gen.py. -/
set_option linter.unusedVariables false
set_option maxRecDepth 100000
namespace Go.Proofs.Ev
open Go Go.RowKit
def cc_w_FnExactNextForFaults : CC :=
  .seq (.reg [⟨none, some 2, .box 31 (.tmp 0)⟩,
    ⟨none, some 4, .assign (.const (.bool false))⟩] [2, 4]) (.seq (.reg [⟨none, some 5, .assign (.const (.int .i64 1048576))⟩] [5]) (.seq (.reg [⟨none, some 9, .load 31 (.tmp 2)⟩,
    ⟨none, some 10, .move (.tmp 5)⟩,
    ⟨none, some 11, .call ⟨.value (.func 7), #[.tmp 9, .tmp 10], #[31, 3]⟩⟩,
    ⟨none, some 5, .assign (.tmp 11)⟩] [5]) (.seq (.seq (.reg [⟨none, some 12, .move (.tmp 5)⟩,
    ⟨none, some 13, .binOp .lss 3 (.tmp 12) (.const (.int .i64 0)) 3⟩] [13]) (.cond (.tmp 13) (.seq (.reg [⟨none, some 4, .assign (.const (.bool true))⟩] [4]) (.ret)) (.skip))) (.seq (.reg [⟨none, some 14, .load 31 (.tmp 2)⟩,
    ⟨none, some 15, .call ⟨.value (.func 9), #[.tmp 14], #[31]⟩⟩,
    ⟨none, some 16, .move (.tmp 1)⟩,
    ⟨none, some 17, .call ⟨.value (.func 12), #[.tmp 15, .tmp 16], #[41, 3]⟩⟩,
    ⟨none, some 6, .assign (.tmp 17)⟩] [6]) (.seq (.reg [⟨none, some 18, .load 31 (.tmp 2)⟩,
    ⟨none, some 19, .call ⟨.value (.func 9), #[.tmp 18], #[31]⟩⟩,
    ⟨none, some 7, .alloc 41⟩,
    ⟨none, none, .store 41 (.tmp 7) (.tmp 19)⟩] [7]) (.seq (.reg [⟨none, some 20, .load 41 (.tmp 7)⟩,
    ⟨none, some 21, .move (.tmp 1)⟩,
    ⟨none, some 22, .call ⟨.value (.func 13), #[.tmp 20, .tmp 21], #[41, 3]⟩⟩,
    ⟨none, some 8, .assign (.tmp 22)⟩] [8]) (.seq (.seq (.reg [⟨none, some 23, .move (.tmp 8)⟩,
    ⟨none, some 24, .move (.tmp 6)⟩,
    ⟨none, some 25, .binOp .neq 3 (.tmp 23) (.tmp 24) 3⟩] [25]) (.cond (.tmp 25) (.seq (.reg [⟨none, some 4, .assign (.const (.bool false))⟩] [4]) (.ret)) (.skip))) (.seq (.seq (.reg [⟨none, some 26, .load 41 (.tmp 7)⟩,
    ⟨none, some 27, .load 31 (.tmp 2)⟩,
    ⟨none, some 28, .call ⟨.value (.func 9), #[.tmp 27], #[31]⟩⟩,
    ⟨none, some 29, .call ⟨.value (.func 11), #[.tmp 26, .tmp 28], #[41, 41]⟩⟩,
    ⟨none, some 30, .unOp .not 4 (.tmp 29)⟩] [30]) (.cond (.tmp 30) (.seq (.reg [⟨none, some 4, .assign (.const (.bool false))⟩] [4]) (.ret)) (.skip))) (.seq (.reg [⟨none, some 4, .assign (.const (.bool true))⟩] [4]) (.ret))))))))))
def cc_w_FnExactGuessesNow : CC :=
  .seq (.reg [⟨none, some 2, .box 31 (.tmp 0)⟩,
    ⟨none, some 4, .assign (.const (.bool false))⟩] [2, 4]) (.seq (.reg [⟨none, some 5, .assign (.const (.int .i64 1048576))⟩] [5]) (.seq (.reg [⟨none, some 13, .load 31 (.tmp 2)⟩,
    ⟨none, some 14, .move (.tmp 5)⟩,
    ⟨none, some 15, .call ⟨.value (.func 7), #[.tmp 13, .tmp 14], #[31, 3]⟩⟩,
    ⟨none, some 5, .assign (.tmp 15)⟩] [5]) (.seq (.seq (.reg [⟨none, some 16, .move (.tmp 5)⟩,
    ⟨none, some 17, .binOp .lss 3 (.tmp 16) (.const (.int .i64 0)) 3⟩] [17]) (.cond (.tmp 17) (.seq (.reg [⟨none, some 4, .assign (.const (.bool true))⟩] [4]) (.ret)) (.skip))) (.seq (.reg [⟨none, some 18, .load 31 (.tmp 2)⟩,
    ⟨none, some 19, .call ⟨.value (.func 9), #[.tmp 18], #[31]⟩⟩,
    ⟨none, some 20, .move (.tmp 1)⟩,
    ⟨none, some 21, .call ⟨.value (.func 14), #[.tmp 19, .tmp 20], #[41, 3]⟩⟩,
    ⟨none, some 6, .assign (.tmp 21)⟩] [6]) (.seq (.reg [⟨none, some 22, .load 31 (.tmp 2)⟩,
    ⟨none, some 23, .call ⟨.value (.func 9), #[.tmp 22], #[31]⟩⟩,
    ⟨none, some 7, .alloc 41⟩,
    ⟨none, none, .store 41 (.tmp 7) (.tmp 23)⟩] [7]) (.seq (.reg [⟨none, some 24, .load 41 (.tmp 7)⟩,
    ⟨none, some 25, .move (.tmp 1)⟩,
    ⟨none, some 26, .call ⟨.value (.func 15), #[.tmp 24, .tmp 25], #[41, 3]⟩⟩,
    ⟨none, some 8, .assign (.tmp 26)⟩] [8]) (.seq (.seq (.reg [⟨none, some 27, .move (.tmp 8)⟩,
    ⟨none, some 28, .move (.tmp 6)⟩,
    ⟨none, some 29, .call ⟨.value (.func 16), #[.tmp 27, .tmp 28], #[47, 47]⟩⟩,
    ⟨none, some 30, .unOp .not 4 (.tmp 29)⟩] [30]) (.cond (.tmp 30) (.seq (.reg [⟨none, some 4, .assign (.const (.bool false))⟩] [4]) (.ret)) (.skip))) (.seq (.seq (.reg [⟨none, some 31, .load 41 (.tmp 7)⟩,
    ⟨none, some 32, .load 31 (.tmp 2)⟩,
    ⟨none, some 33, .call ⟨.value (.func 9), #[.tmp 32], #[31]⟩⟩,
    ⟨none, some 34, .call ⟨.value (.func 11), #[.tmp 31, .tmp 33], #[41, 41]⟩⟩,
    ⟨none, some 35, .unOp .not 4 (.tmp 34)⟩] [35]) (.cond (.tmp 35) (.seq (.reg [⟨none, some 4, .assign (.const (.bool false))⟩] [4]) (.ret)) (.skip))) (.seq (.reg [⟨none, some 9, .assign (.const (.int .i64 1))⟩] [9]) (.seq (.reg [⟨none, some 36, .load 41 (.tmp 7)⟩,
    ⟨none, some 37, .move (.tmp 9)⟩,
    ⟨none, some 38, .call ⟨.value (.func 17), #[.tmp 36, .tmp 37], #[41, 3]⟩⟩,
    ⟨none, some 9, .assign (.tmp 38)⟩] [9]) (.seq (.seq (.reg [⟨none, some 39, .move (.tmp 9)⟩,
    ⟨none, some 40, .binOp .lss 3 (.tmp 39) (.const (.int .i64 0)) 3⟩,
    ⟨none, some 41, .move (.tmp 40)⟩,
    ⟨some (41, false), some 42, .move (.tmp 8)⟩,
    ⟨some (41, false), some 43, .move (.tmp 6)⟩,
    ⟨some (41, false), some 44, .call ⟨.value (.func 16), #[.tmp 42, .tmp 43], #[47, 47]⟩⟩,
    ⟨some (41, false), some 45, .unOp .not 4 (.tmp 44)⟩,
    ⟨none, some 46, .pick (.tmp 41) (.const (.bool true)) (.tmp 45)⟩] [46]) (.cond (.tmp 46) (.seq (.reg [⟨none, some 4, .assign (.const (.bool false))⟩] [4]) (.ret)) (.skip))) (.seq (.reg [⟨none, some 10, .assign (.const (.int .i64 1))⟩] [10]) (.seq (.reg [⟨none, some 47, .move (.tmp 8)⟩,
    ⟨none, some 48, .move (.tmp 10)⟩,
    ⟨none, some 49, .call ⟨.value (.func 18), #[.tmp 47, .tmp 48], #[47, 3]⟩⟩,
    ⟨none, some 10, .assign (.tmp 49)⟩] [10]) (.seq (.reg [⟨none, some 11, .assign (.const (.int .i64 1))⟩] [11]) (.seq (.reg [⟨none, some 50, .move (.tmp 8)⟩,
    ⟨none, some 51, .move (.tmp 11)⟩,
    ⟨none, some 52, .call ⟨.value (.func 19), #[.tmp 50, .tmp 51], #[47, 3]⟩⟩,
    ⟨none, some 11, .assign (.tmp 52)⟩] [11]) (.seq (.seq (.reg [⟨none, some 53, .move (.tmp 11)⟩,
    ⟨none, some 54, .binOp .lss 3 (.tmp 53) (.const (.int .i64 0)) 3⟩] [54]) (.cond (.tmp 54) (.seq (.reg [⟨none, some 4, .assign (.const (.bool false))⟩] [4]) (.ret)) (.skip))) (.seq (.seq (.reg [⟨none, some 55, .move (.tmp 11)⟩,
    ⟨none, some 56, .move (.tmp 10)⟩,
    ⟨none, some 57, .binOp .neq 3 (.tmp 55) (.tmp 56) 3⟩] [57]) (.cond (.tmp 57) (.seq (.reg [⟨none, some 4, .assign (.const (.bool false))⟩] [4]) (.ret)) (.skip))) (.seq (.reg [⟨none, some 58, .load 31 (.tmp 2)⟩,
    ⟨none, some 59, .call ⟨.value (.func 9), #[.tmp 58], #[31]⟩⟩,
    ⟨none, some 60, .move (.tmp 1)⟩,
    ⟨none, some 61, .call ⟨.value (.func 15), #[.tmp 59, .tmp 60], #[41, 3]⟩⟩,
    ⟨none, some 12, .assign (.tmp 61)⟩] [12]) (.seq (.seq (.reg [⟨none, some 62, .move (.tmp 12)⟩,
    ⟨none, some 63, .move (.tmp 6)⟩,
    ⟨none, some 64, .call ⟨.value (.func 16), #[.tmp 62, .tmp 63], #[47, 47]⟩⟩,
    ⟨none, some 65, .unOp .not 4 (.tmp 64)⟩] [65]) (.cond (.tmp 65) (.seq (.reg [⟨none, some 4, .assign (.const (.bool false))⟩] [4]) (.ret)) (.skip))) (.seq (.reg [⟨none, some 11, .assign (.const (.int .i64 1))⟩] [11]) (.seq (.reg [⟨none, some 66, .move (.tmp 8)⟩,
    ⟨none, some 67, .move (.tmp 11)⟩,
    ⟨none, some 68, .call ⟨.value (.func 19), #[.tmp 66, .tmp 67], #[47, 3]⟩⟩,
    ⟨none, some 11, .assign (.tmp 68)⟩] [11]) (.seq (.seq (.reg [⟨none, some 69, .move (.tmp 11)⟩,
    ⟨none, some 70, .binOp .lss 3 (.tmp 69) (.const (.int .i64 0)) 3⟩] [70]) (.cond (.tmp 70) (.seq (.reg [⟨none, some 4, .assign (.const (.bool false))⟩] [4]) (.ret)) (.skip))) (.seq (.seq (.reg [⟨none, some 71, .move (.tmp 11)⟩,
    ⟨none, some 72, .move (.tmp 10)⟩,
    ⟨none, some 73, .binOp .neq 3 (.tmp 71) (.tmp 72) 3⟩] [73]) (.cond (.tmp 73) (.seq (.reg [⟨none, some 4, .assign (.const (.bool false))⟩] [4]) (.ret)) (.skip))) (.seq (.reg [⟨none, some 4, .assign (.const (.bool true))⟩] [4]) (.ret)))))))))))))))))))))))))
def cc_w_FnExactBlameSets : CC :=
  .seq (.reg [⟨none, some 1, .box 31 (.tmp 0)⟩,
    ⟨none, some 2, .assign (.const (.bool false))⟩] [1, 2]) (.seq (.reg [⟨none, some 3, .assign (.const (.int .i64 1048576))⟩] [3]) (.seq (.reg [⟨none, some 11, .load 31 (.tmp 1)⟩,
    ⟨none, some 12, .move (.tmp 3)⟩,
    ⟨none, some 13, .call ⟨.value (.func 7), #[.tmp 11, .tmp 12], #[31, 3]⟩⟩,
    ⟨none, some 3, .assign (.tmp 13)⟩] [3]) (.seq (.seq (.reg [⟨none, some 14, .move (.tmp 3)⟩,
    ⟨none, some 15, .binOp .lss 3 (.tmp 14) (.const (.int .i64 0)) 3⟩] [15]) (.cond (.tmp 15) (.seq (.reg [⟨none, some 2, .assign (.const (.bool true))⟩] [2]) (.ret)) (.skip))) (.seq (.reg [⟨none, some 16, .load 31 (.tmp 1)⟩,
    ⟨none, some 17, .call ⟨.value (.func 9), #[.tmp 16], #[31]⟩⟩,
    ⟨none, some 18, .call ⟨.value (.func 20), #[.tmp 17], #[41]⟩⟩,
    ⟨none, some 4, .assign (.tmp 18)⟩] [4]) (.seq (.reg [⟨none, some 19, .load 31 (.tmp 1)⟩,
    ⟨none, some 20, .call ⟨.value (.func 9), #[.tmp 19], #[31]⟩⟩,
    ⟨none, some 5, .alloc 41⟩,
    ⟨none, none, .store 41 (.tmp 5) (.tmp 20)⟩] [5]) (.seq (.reg [⟨none, some 21, .load 41 (.tmp 5)⟩,
    ⟨none, some 22, .call ⟨.value (.func 21), #[.tmp 21], #[41]⟩⟩,
    ⟨none, some 6, .assign (.tmp 22)⟩] [6]) (.seq (.seq (.reg [⟨none, some 23, .move (.tmp 6)⟩,
    ⟨none, some 24, .move (.tmp 4)⟩,
    ⟨none, some 25, .call ⟨.value (.func 16), #[.tmp 23, .tmp 24], #[47, 47]⟩⟩,
    ⟨none, some 26, .unOp .not 4 (.tmp 25)⟩] [26]) (.cond (.tmp 26) (.seq (.reg [⟨none, some 2, .assign (.const (.bool false))⟩] [2]) (.ret)) (.skip))) (.seq (.seq (.reg [⟨none, some 27, .load 41 (.tmp 5)⟩,
    ⟨none, some 28, .load 31 (.tmp 1)⟩,
    ⟨none, some 29, .call ⟨.value (.func 9), #[.tmp 28], #[31]⟩⟩,
    ⟨none, some 30, .call ⟨.value (.func 11), #[.tmp 27, .tmp 29], #[41, 41]⟩⟩,
    ⟨none, some 31, .unOp .not 4 (.tmp 30)⟩] [31]) (.cond (.tmp 31) (.seq (.reg [⟨none, some 2, .assign (.const (.bool false))⟩] [2]) (.ret)) (.skip))) (.seq (.reg [⟨none, some 7, .assign (.const (.int .i64 1))⟩] [7]) (.seq (.reg [⟨none, some 32, .load 41 (.tmp 5)⟩,
    ⟨none, some 33, .move (.tmp 7)⟩,
    ⟨none, some 34, .call ⟨.value (.func 17), #[.tmp 32, .tmp 33], #[41, 3]⟩⟩,
    ⟨none, some 7, .assign (.tmp 34)⟩] [7]) (.seq (.seq (.reg [⟨none, some 35, .move (.tmp 7)⟩,
    ⟨none, some 36, .binOp .lss 3 (.tmp 35) (.const (.int .i64 0)) 3⟩,
    ⟨none, some 37, .move (.tmp 36)⟩,
    ⟨some (37, false), some 38, .move (.tmp 6)⟩,
    ⟨some (37, false), some 39, .move (.tmp 4)⟩,
    ⟨some (37, false), some 40, .call ⟨.value (.func 16), #[.tmp 38, .tmp 39], #[47, 47]⟩⟩,
    ⟨some (37, false), some 41, .unOp .not 4 (.tmp 40)⟩,
    ⟨none, some 42, .pick (.tmp 37) (.const (.bool true)) (.tmp 41)⟩] [42]) (.cond (.tmp 42) (.seq (.reg [⟨none, some 2, .assign (.const (.bool false))⟩] [2]) (.ret)) (.skip))) (.seq (.reg [⟨none, some 8, .assign (.const (.int .i64 1))⟩] [8]) (.seq (.reg [⟨none, some 43, .move (.tmp 6)⟩,
    ⟨none, some 44, .move (.tmp 8)⟩,
    ⟨none, some 45, .call ⟨.value (.func 18), #[.tmp 43, .tmp 44], #[47, 3]⟩⟩,
    ⟨none, some 8, .assign (.tmp 45)⟩] [8]) (.seq (.reg [⟨none, some 9, .assign (.const (.int .i64 1))⟩] [9]) (.seq (.reg [⟨none, some 46, .move (.tmp 6)⟩,
    ⟨none, some 47, .move (.tmp 9)⟩,
    ⟨none, some 48, .call ⟨.value (.func 19), #[.tmp 46, .tmp 47], #[47, 3]⟩⟩,
    ⟨none, some 9, .assign (.tmp 48)⟩] [9]) (.seq (.seq (.reg [⟨none, some 49, .move (.tmp 9)⟩,
    ⟨none, some 50, .binOp .lss 3 (.tmp 49) (.const (.int .i64 0)) 3⟩] [50]) (.cond (.tmp 50) (.seq (.reg [⟨none, some 2, .assign (.const (.bool false))⟩] [2]) (.ret)) (.skip))) (.seq (.seq (.reg [⟨none, some 51, .move (.tmp 9)⟩,
    ⟨none, some 52, .move (.tmp 8)⟩,
    ⟨none, some 53, .binOp .neq 3 (.tmp 51) (.tmp 52) 3⟩] [53]) (.cond (.tmp 53) (.seq (.reg [⟨none, some 2, .assign (.const (.bool false))⟩] [2]) (.ret)) (.skip))) (.seq (.reg [⟨none, some 54, .load 31 (.tmp 1)⟩,
    ⟨none, some 55, .call ⟨.value (.func 9), #[.tmp 54], #[31]⟩⟩,
    ⟨none, some 56, .call ⟨.value (.func 21), #[.tmp 55], #[41]⟩⟩,
    ⟨none, some 10, .assign (.tmp 56)⟩] [10]) (.seq (.seq (.reg [⟨none, some 57, .move (.tmp 10)⟩,
    ⟨none, some 58, .move (.tmp 4)⟩,
    ⟨none, some 59, .call ⟨.value (.func 16), #[.tmp 57, .tmp 58], #[47, 47]⟩⟩,
    ⟨none, some 60, .unOp .not 4 (.tmp 59)⟩] [60]) (.cond (.tmp 60) (.seq (.reg [⟨none, some 2, .assign (.const (.bool false))⟩] [2]) (.ret)) (.skip))) (.seq (.reg [⟨none, some 9, .assign (.const (.int .i64 1))⟩] [9]) (.seq (.reg [⟨none, some 61, .move (.tmp 6)⟩,
    ⟨none, some 62, .move (.tmp 9)⟩,
    ⟨none, some 63, .call ⟨.value (.func 19), #[.tmp 61, .tmp 62], #[47, 3]⟩⟩,
    ⟨none, some 9, .assign (.tmp 63)⟩] [9]) (.seq (.seq (.reg [⟨none, some 64, .move (.tmp 9)⟩,
    ⟨none, some 65, .binOp .lss 3 (.tmp 64) (.const (.int .i64 0)) 3⟩] [65]) (.cond (.tmp 65) (.seq (.reg [⟨none, some 2, .assign (.const (.bool false))⟩] [2]) (.ret)) (.skip))) (.seq (.seq (.reg [⟨none, some 66, .move (.tmp 9)⟩,
    ⟨none, some 67, .move (.tmp 8)⟩,
    ⟨none, some 68, .binOp .neq 3 (.tmp 66) (.tmp 67) 3⟩] [68]) (.cond (.tmp 68) (.seq (.reg [⟨none, some 2, .assign (.const (.bool false))⟩] [2]) (.ret)) (.skip))) (.seq (.reg [⟨none, some 2, .assign (.const (.bool true))⟩] [2]) (.ret)))))))))))))))))))))))))
def cc_w_szWorld : CC :=
  .seq (.reg [⟨none, some 2, .box 31 (.tmp 0)⟩,
    ⟨none, some 4, .assign (.const (.int .i64 0))⟩] [2, 4]) (.seq (.reg [⟨none, some 5, .fieldAddr 31 (.tmp 2) 0⟩,
    ⟨none, some 6, .load 24 (.tmp 5)⟩,
    ⟨none, some 7, .move (.tmp 1)⟩,
    ⟨none, some 8, .call ⟨.value (.func 22), #[.tmp 6, .tmp 7], #[24, 3]⟩⟩,
    ⟨none, some 1, .assign (.tmp 8)⟩] [1]) (.seq (.seq (.reg [⟨none, some 9, .move (.tmp 1)⟩,
    ⟨none, some 10, .binOp .lss 3 (.tmp 9) (.const (.int .i64 0)) 3⟩] [10]) (.cond (.tmp 10) (.seq (.reg [⟨none, some 4, .assign (.const (.int .i64 (-1)))⟩] [4]) (.ret)) (.skip))) (.seq (.reg [⟨none, some 11, .fieldAddr 31 (.tmp 2) 1⟩,
    ⟨none, some 12, .load 25 (.tmp 11)⟩,
    ⟨none, some 13, .move (.tmp 1)⟩,
    ⟨none, some 14, .call ⟨.value (.func 23), #[.tmp 12, .tmp 13], #[25, 3]⟩⟩,
    ⟨none, some 1, .assign (.tmp 14)⟩] [1]) (.seq (.seq (.reg [⟨none, some 15, .move (.tmp 1)⟩,
    ⟨none, some 16, .binOp .lss 3 (.tmp 15) (.const (.int .i64 0)) 3⟩] [16]) (.cond (.tmp 16) (.seq (.reg [⟨none, some 4, .assign (.const (.int .i64 (-1)))⟩] [4]) (.ret)) (.skip))) (.seq (.reg [⟨none, some 17, .fieldAddr 31 (.tmp 2) 2⟩,
    ⟨none, some 18, .load 25 (.tmp 17)⟩,
    ⟨none, some 19, .move (.tmp 1)⟩,
    ⟨none, some 20, .call ⟨.value (.func 23), #[.tmp 18, .tmp 19], #[25, 3]⟩⟩,
    ⟨none, some 1, .assign (.tmp 20)⟩] [1]) (.seq (.seq (.reg [⟨none, some 21, .move (.tmp 1)⟩,
    ⟨none, some 22, .binOp .lss 3 (.tmp 21) (.const (.int .i64 0)) 3⟩] [22]) (.cond (.tmp 22) (.seq (.reg [⟨none, some 4, .assign (.const (.int .i64 (-1)))⟩] [4]) (.ret)) (.skip))) (.seq (.reg [⟨none, some 23, .fieldAddr 31 (.tmp 2) 3⟩,
    ⟨none, some 24, .load 26 (.tmp 23)⟩,
    ⟨none, some 25, .move (.tmp 1)⟩,
    ⟨none, some 26, .call ⟨.value (.func 24), #[.tmp 24, .tmp 25], #[26, 3]⟩⟩,
    ⟨none, some 1, .assign (.tmp 26)⟩] [1]) (.seq (.seq (.reg [⟨none, some 27, .move (.tmp 1)⟩,
    ⟨none, some 28, .binOp .lss 3 (.tmp 27) (.const (.int .i64 0)) 3⟩] [28]) (.cond (.tmp 28) (.seq (.reg [⟨none, some 4, .assign (.const (.int .i64 (-1)))⟩] [4]) (.ret)) (.skip))) (.seq (.reg [⟨none, some 29, .fieldAddr 31 (.tmp 2) 4⟩,
    ⟨none, some 30, .load 25 (.tmp 29)⟩,
    ⟨none, some 31, .move (.tmp 1)⟩,
    ⟨none, some 32, .call ⟨.value (.func 23), #[.tmp 30, .tmp 31], #[25, 3]⟩⟩,
    ⟨none, some 1, .assign (.tmp 32)⟩] [1]) (.seq (.seq (.reg [⟨none, some 33, .move (.tmp 1)⟩,
    ⟨none, some 34, .binOp .lss 3 (.tmp 33) (.const (.int .i64 0)) 3⟩] [34]) (.cond (.tmp 34) (.seq (.reg [⟨none, some 4, .assign (.const (.int .i64 (-1)))⟩] [4]) (.ret)) (.skip))) (.seq (.reg [⟨none, some 35, .fieldAddr 31 (.tmp 2) 5⟩,
    ⟨none, some 36, .load 25 (.tmp 35)⟩,
    ⟨none, some 37, .move (.tmp 1)⟩,
    ⟨none, some 38, .call ⟨.value (.func 23), #[.tmp 36, .tmp 37], #[25, 3]⟩⟩,
    ⟨none, some 1, .assign (.tmp 38)⟩] [1]) (.seq (.seq (.reg [⟨none, some 39, .move (.tmp 1)⟩,
    ⟨none, some 40, .binOp .lss 3 (.tmp 39) (.const (.int .i64 0)) 3⟩] [40]) (.cond (.tmp 40) (.seq (.reg [⟨none, some 4, .assign (.const (.int .i64 (-1)))⟩] [4]) (.ret)) (.skip))) (.seq (.reg [⟨none, some 41, .fieldAddr 31 (.tmp 2) 7⟩,
    ⟨none, some 42, .load 29 (.tmp 41)⟩,
    ⟨none, some 43, .move (.tmp 1)⟩,
    ⟨none, some 44, .call ⟨.value (.func 25), #[.tmp 42, .tmp 43], #[29, 3]⟩⟩,
    ⟨none, some 1, .assign (.tmp 44)⟩] [1]) (.seq (.seq (.reg [⟨none, some 45, .move (.tmp 1)⟩,
    ⟨none, some 46, .binOp .lss 3 (.tmp 45) (.const (.int .i64 0)) 3⟩] [46]) (.cond (.tmp 46) (.seq (.reg [⟨none, some 4, .assign (.const (.int .i64 (-1)))⟩] [4]) (.ret)) (.skip))) (.seq (.reg [⟨none, some 47, .move (.tmp 1)⟩,
    ⟨none, some 4, .assign (.tmp 47)⟩] [4]) (.ret))))))))))))))))
def cc_w_toWorld : CC :=
  .seq (.reg [⟨none, some 1, .box 31 (.tmp 0)⟩,
    ⟨none, some 2, .alloc 41⟩] [1, 2]) (.seq (.reg [⟨none, some 3, .alloc 41⟩] [3]) (.seq (.reg [⟨none, some 4, .fieldAddr 31 (.tmp 1) 0⟩,
    ⟨none, some 5, .load 24 (.tmp 4)⟩,
    ⟨none, some 6, .call ⟨.value (.func 29), #[.tmp 5], #[24]⟩⟩,
    ⟨none, some 7, .fieldAddr 41 (.tmp 3) 0⟩,
    ⟨none, none, .store 36 (.tmp 7) (.tmp 6)⟩] []) (.seq (.reg [⟨none, some 8, .fieldAddr 31 (.tmp 1) 1⟩,
    ⟨none, some 9, .load 25 (.tmp 8)⟩,
    ⟨none, some 10, .call ⟨.value (.func 30), #[.tmp 9], #[25]⟩⟩,
    ⟨none, some 11, .fieldAddr 41 (.tmp 3) 1⟩,
    ⟨none, none, .store 25 (.tmp 11) (.tmp 10)⟩] []) (.seq (.reg [⟨none, some 12, .fieldAddr 31 (.tmp 1) 2⟩,
    ⟨none, some 13, .load 25 (.tmp 12)⟩,
    ⟨none, some 14, .call ⟨.value (.func 30), #[.tmp 13], #[25]⟩⟩,
    ⟨none, some 15, .fieldAddr 41 (.tmp 3) 2⟩,
    ⟨none, none, .store 25 (.tmp 15) (.tmp 14)⟩] []) (.seq (.reg [⟨none, some 16, .fieldAddr 31 (.tmp 1) 3⟩,
    ⟨none, some 17, .load 26 (.tmp 16)⟩,
    ⟨none, some 18, .call ⟨.value (.func 31), #[.tmp 17], #[26]⟩⟩,
    ⟨none, some 19, .fieldAddr 41 (.tmp 3) 3⟩,
    ⟨none, none, .store 37 (.tmp 19) (.tmp 18)⟩] []) (.seq (.reg [⟨none, some 20, .fieldAddr 31 (.tmp 1) 4⟩,
    ⟨none, some 21, .load 25 (.tmp 20)⟩,
    ⟨none, some 22, .call ⟨.value (.func 30), #[.tmp 21], #[25]⟩⟩,
    ⟨none, some 23, .fieldAddr 41 (.tmp 3) 4⟩,
    ⟨none, none, .store 25 (.tmp 23) (.tmp 22)⟩] []) (.seq (.reg [⟨none, some 24, .fieldAddr 31 (.tmp 1) 5⟩,
    ⟨none, some 25, .load 25 (.tmp 24)⟩,
    ⟨none, some 26, .call ⟨.value (.func 30), #[.tmp 25], #[25]⟩⟩,
    ⟨none, some 27, .fieldAddr 41 (.tmp 3) 5⟩,
    ⟨none, none, .store 25 (.tmp 27) (.tmp 26)⟩] []) (.seq (.reg [⟨none, some 28, .fieldAddr 31 (.tmp 1) 6⟩,
    ⟨none, some 29, .load 28 (.tmp 28)⟩,
    ⟨none, some 30, .call ⟨.value (.func 32), #[.tmp 29], #[28]⟩⟩,
    ⟨none, some 31, .fieldAddr 41 (.tmp 3) 6⟩,
    ⟨none, none, .store 38 (.tmp 31) (.tmp 30)⟩] []) (.seq (.reg [⟨none, some 32, .fieldAddr 31 (.tmp 1) 7⟩,
    ⟨none, some 33, .load 29 (.tmp 32)⟩,
    ⟨none, some 34, .call ⟨.value (.func 33), #[.tmp 33], #[29]⟩⟩,
    ⟨none, some 35, .fieldAddr 41 (.tmp 3) 7⟩,
    ⟨none, none, .store 39 (.tmp 35) (.tmp 34)⟩] []) (.seq (.reg [⟨none, some 36, .fieldAddr 31 (.tmp 1) 8⟩,
    ⟨none, some 37, .load 3 (.tmp 36)⟩,
    ⟨none, some 38, .fieldAddr 41 (.tmp 3) 8⟩,
    ⟨none, none, .store 3 (.tmp 38) (.tmp 37)⟩] []) (.seq (.reg [⟨none, some 39, .load 41 (.tmp 3)⟩,
    ⟨none, none, .store 41 (.tmp 2) (.tmp 39)⟩] []) (.ret))))))))))))
def cc_w_eqWorld : CC :=
  .seq (.reg [⟨none, some 2, .box 41 (.tmp 0)⟩,
    ⟨none, some 3, .box 41 (.tmp 1)⟩,
    ⟨none, some 4, .assign (.const (.bool false))⟩] [2, 3, 4]) (.seq (.seq (.reg [⟨none, some 5, .fieldAddr 41 (.tmp 2) 0⟩,
    ⟨none, some 6, .load 36 (.tmp 5)⟩,
    ⟨none, some 7, .fieldAddr 41 (.tmp 3) 0⟩,
    ⟨none, some 8, .load 36 (.tmp 7)⟩,
    ⟨none, some 9, .call ⟨.value (.func 37), #[.tmp 6, .tmp 8], #[36, 36]⟩⟩,
    ⟨none, some 10, .unOp .not 4 (.tmp 9)⟩] [10]) (.cond (.tmp 10) (.seq (.reg [⟨none, some 4, .assign (.const (.bool false))⟩] [4]) (.ret)) (.skip))) (.seq (.seq (.reg [⟨none, some 11, .fieldAddr 41 (.tmp 2) 1⟩,
    ⟨none, some 12, .load 25 (.tmp 11)⟩,
    ⟨none, some 13, .fieldAddr 41 (.tmp 3) 1⟩,
    ⟨none, some 14, .load 25 (.tmp 13)⟩,
    ⟨none, some 15, .call ⟨.value (.func 38), #[.tmp 12, .tmp 14], #[25, 25]⟩⟩,
    ⟨none, some 16, .unOp .not 4 (.tmp 15)⟩] [16]) (.cond (.tmp 16) (.seq (.reg [⟨none, some 4, .assign (.const (.bool false))⟩] [4]) (.ret)) (.skip))) (.seq (.seq (.reg [⟨none, some 17, .fieldAddr 41 (.tmp 2) 2⟩,
    ⟨none, some 18, .load 25 (.tmp 17)⟩,
    ⟨none, some 19, .fieldAddr 41 (.tmp 3) 2⟩,
    ⟨none, some 20, .load 25 (.tmp 19)⟩,
    ⟨none, some 21, .call ⟨.value (.func 38), #[.tmp 18, .tmp 20], #[25, 25]⟩⟩,
    ⟨none, some 22, .unOp .not 4 (.tmp 21)⟩] [22]) (.cond (.tmp 22) (.seq (.reg [⟨none, some 4, .assign (.const (.bool false))⟩] [4]) (.ret)) (.skip))) (.seq (.seq (.reg [⟨none, some 23, .fieldAddr 41 (.tmp 2) 3⟩,
    ⟨none, some 24, .load 37 (.tmp 23)⟩,
    ⟨none, some 25, .fieldAddr 41 (.tmp 3) 3⟩,
    ⟨none, some 26, .load 37 (.tmp 25)⟩,
    ⟨none, some 27, .call ⟨.value (.func 39), #[.tmp 24, .tmp 26], #[37, 37]⟩⟩,
    ⟨none, some 28, .unOp .not 4 (.tmp 27)⟩] [28]) (.cond (.tmp 28) (.seq (.reg [⟨none, some 4, .assign (.const (.bool false))⟩] [4]) (.ret)) (.skip))) (.seq (.seq (.reg [⟨none, some 29, .fieldAddr 41 (.tmp 2) 4⟩,
    ⟨none, some 30, .load 25 (.tmp 29)⟩,
    ⟨none, some 31, .fieldAddr 41 (.tmp 3) 4⟩,
    ⟨none, some 32, .load 25 (.tmp 31)⟩,
    ⟨none, some 33, .call ⟨.value (.func 38), #[.tmp 30, .tmp 32], #[25, 25]⟩⟩,
    ⟨none, some 34, .unOp .not 4 (.tmp 33)⟩] [34]) (.cond (.tmp 34) (.seq (.reg [⟨none, some 4, .assign (.const (.bool false))⟩] [4]) (.ret)) (.skip))) (.seq (.seq (.reg [⟨none, some 35, .fieldAddr 41 (.tmp 2) 5⟩,
    ⟨none, some 36, .load 25 (.tmp 35)⟩,
    ⟨none, some 37, .fieldAddr 41 (.tmp 3) 5⟩,
    ⟨none, some 38, .load 25 (.tmp 37)⟩,
    ⟨none, some 39, .call ⟨.value (.func 38), #[.tmp 36, .tmp 38], #[25, 25]⟩⟩,
    ⟨none, some 40, .unOp .not 4 (.tmp 39)⟩] [40]) (.cond (.tmp 40) (.seq (.reg [⟨none, some 4, .assign (.const (.bool false))⟩] [4]) (.ret)) (.skip))) (.seq (.seq (.reg [⟨none, some 41, .fieldAddr 41 (.tmp 2) 6⟩,
    ⟨none, some 42, .load 38 (.tmp 41)⟩,
    ⟨none, some 43, .fieldAddr 41 (.tmp 3) 6⟩,
    ⟨none, some 44, .load 38 (.tmp 43)⟩,
    ⟨none, some 45, .call ⟨.value (.func 40), #[.tmp 42, .tmp 44], #[38, 38]⟩⟩,
    ⟨none, some 46, .unOp .not 4 (.tmp 45)⟩] [46]) (.cond (.tmp 46) (.seq (.reg [⟨none, some 4, .assign (.const (.bool false))⟩] [4]) (.ret)) (.skip))) (.seq (.seq (.reg [⟨none, some 47, .fieldAddr 41 (.tmp 2) 7⟩,
    ⟨none, some 48, .load 39 (.tmp 47)⟩,
    ⟨none, some 49, .fieldAddr 41 (.tmp 3) 7⟩,
    ⟨none, some 50, .load 39 (.tmp 49)⟩,
    ⟨none, some 51, .call ⟨.value (.func 41), #[.tmp 48, .tmp 50], #[39, 39]⟩⟩,
    ⟨none, some 52, .unOp .not 4 (.tmp 51)⟩] [52]) (.cond (.tmp 52) (.seq (.reg [⟨none, some 4, .assign (.const (.bool false))⟩] [4]) (.ret)) (.skip))) (.seq (.seq (.reg [⟨none, some 53, .fieldAddr 41 (.tmp 2) 8⟩,
    ⟨none, some 54, .load 3 (.tmp 53)⟩,
    ⟨none, some 55, .fieldAddr 41 (.tmp 3) 8⟩,
    ⟨none, some 56, .load 3 (.tmp 55)⟩,
    ⟨none, some 57, .binOp .neq 3 (.tmp 54) (.tmp 56) 3⟩] [57]) (.cond (.tmp 57) (.seq (.reg [⟨none, some 4, .assign (.const (.bool false))⟩] [4]) (.ret)) (.skip))) (.seq (.reg [⟨none, some 4, .assign (.const (.bool true))⟩] [4]) (.ret)))))))))))
def cc_s_NextForFaults : CC :=
  .seq (.reg [⟨none, some 2, .box 41 (.tmp 0)⟩,
    ⟨none, some 4, .assign (.const (.int .i64 0))⟩] [2, 4]) (.seq (.reg [⟨none, some 5, .load 41 (.tmp 2)⟩,
    ⟨none, some 6, .move (.tmp 1)⟩,
    ⟨none, some 7, .call ⟨.value (.func 14), #[.tmp 5, .tmp 6], #[41, 3]⟩⟩,
    ⟨none, some 8, .load 41 (.tmp 2)⟩,
    ⟨none, some 9, .call ⟨.value (.func 43), #[.tmp 8], #[41]⟩⟩,
    ⟨none, some 10, .call ⟨.value (.func 42), #[.tmp 7, .tmp 9], #[47, 47]⟩⟩,
    ⟨none, some 4, .assign (.tmp 10)⟩] [4]) (.ret))
def cc_i_NextForFaults : CC :=
  .seq (.reg [⟨none, some 2, .box 41 (.tmp 0)⟩,
    ⟨none, some 4, .assign (.const (.int .i64 0))⟩] [2, 4]) (.seq (.reg [⟨none, some 5, .load 41 (.tmp 2)⟩,
    ⟨none, some 6, .move (.tmp 1)⟩,
    ⟨none, some 7, .call ⟨.value (.func 15), #[.tmp 5, .tmp 6], #[41, 3]⟩⟩,
    ⟨none, some 8, .load 41 (.tmp 2)⟩,
    ⟨none, some 9, .call ⟨.value (.func 45), #[.tmp 8], #[41]⟩⟩,
    ⟨none, some 10, .call ⟨.value (.func 44), #[.tmp 7, .tmp 9], #[47, 47]⟩⟩,
    ⟨none, some 4, .assign (.tmp 10)⟩] [4]) (.ret))
def L0_s_GuessesNow : CC :=
  .seq (.seq (.reg [⟨none, some 26, .move (.tmp 9)⟩,
    ⟨none, some 27, .move (.tmp 8)⟩,
    ⟨none, some 28, .call ⟨.builtin .len, #[.tmp 27], #[47]⟩⟩,
    ⟨none, some 29, .binOp .lss 3 (.tmp 26) (.tmp 28) 3⟩] [29]) (.cond (.tmp 29) (.skip) (.exit 0))) (.seq (.block 1 (.seq (.reg [⟨none, some 32, .move (.tmp 5)⟩,
    ⟨none, some 33, .call ⟨.builtin .len, #[.tmp 32], #[47]⟩⟩,
    ⟨none, some 34, .binOp .lss 3 (.tmp 33) (.const (.int .i64 22)) 3⟩,
    ⟨none, some 35, .move (.tmp 34)⟩,
    ⟨some (35, true), some 36, .move (.tmp 6)⟩,
    ⟨some (35, true), some 37, .move (.tmp 7)⟩,
    ⟨some (35, true), some 38, .move (.tmp 8)⟩,
    ⟨some (35, true), some 39, .move (.tmp 9)⟩,
    ⟨some (35, true), some 40, .indexAddr 47 (.tmp 38) (.tmp 39)⟩,
    ⟨some (35, true), some 41, .load 25 (.tmp 40)⟩,
    ⟨some (35, true), some 42, .call ⟨.value (.func 47), #[.tmp 36, .tmp 37, .tmp 41], #[47, 57, 25]⟩⟩,
    ⟨none, some 43, .pick (.tmp 35) (.tmp 42) (.const (.bool false))⟩] [43]) (.cond (.tmp 43) (.reg [⟨none, some 44, .move (.tmp 5)⟩,
    ⟨none, some 45, .buildSlice 25 0 #[]⟩,
    ⟨none, some 46, .move (.tmp 8)⟩,
    ⟨none, some 47, .move (.tmp 9)⟩,
    ⟨none, some 48, .indexAddr 47 (.tmp 46) (.tmp 47)⟩,
    ⟨none, some 49, .load 25 (.tmp 48)⟩,
    ⟨none, some 50, .call ⟨.builtin .append, #[.tmp 45, .tmp 49], #[25, 25]⟩⟩,
    ⟨none, some 51, .buildSlice 47 1 #[(0, .tmp 50)]⟩,
    ⟨none, some 52, .call ⟨.builtin .append, #[.tmp 44, .tmp 51], #[47, 47]⟩⟩,
    ⟨none, some 5, .assign (.tmp 52)⟩] [5]) (.skip)))) (.reg [⟨none, some 30, .move (.tmp 9)⟩,
    ⟨none, some 31, .binOp .add 3 (.tmp 30) (.const (.int .i64 1)) 3⟩,
    ⟨none, some 9, .assign (.tmp 31)⟩] [9]))
def cc_s_GuessesNow : CC :=
  .seq (.reg [⟨none, some 2, .box 41 (.tmp 0)⟩,
    ⟨none, some 4, .assign (.const (.slice none 0 0))⟩] [2, 4]) (.seq (.reg [⟨none, some 10, .buildSlice 47 0 #[]⟩,
    ⟨none, some 5, .assign (.tmp 10)⟩] [5]) (.seq (.seq (.reg [⟨none, some 11, .load 41 (.tmp 2)⟩,
    ⟨none, some 12, .call ⟨.value (.func 26), #[.tmp 11], #[41]⟩⟩,
    ⟨none, some 13, .unOp .not 4 (.tmp 12)⟩] [13]) (.cond (.tmp 13) (.seq (.reg [⟨none, some 14, .move (.tmp 5)⟩,
    ⟨none, some 4, .assign (.tmp 14)⟩] [4]) (.ret)) (.skip))) (.seq (.reg [⟨none, some 16, .load 41 (.tmp 2)⟩,
    ⟨none, some 17, .call ⟨.value (.func 27), #[.tmp 16], #[41]⟩⟩,
    ⟨none, some 15, .move (.tmp 17)⟩,
    ⟨none, some 18, .extract (.tmp 15) 0⟩,
    ⟨none, some 19, .extract (.tmp 15) 1⟩,
    ⟨none, some 6, .assign (.tmp 18)⟩,
    ⟨none, some 7, .assign (.tmp 19)⟩] [6, 7]) (.seq (.reg [⟨none, some 20, .fieldAddr 41 (.tmp 2) 0⟩,
    ⟨none, some 21, .fieldAddr 36 (.tmp 20) 1⟩,
    ⟨none, some 22, .load 34 (.tmp 21)⟩,
    ⟨none, some 23, .call ⟨.builtin .len, #[.tmp 22], #[34]⟩⟩,
    ⟨none, some 24, .move (.tmp 1)⟩,
    ⟨none, some 25, .call ⟨.value (.func 46), #[.tmp 23, .tmp 24], #[3, 3]⟩⟩,
    ⟨none, some 8, .assign (.tmp 25)⟩] [8]) (.seq (.seq (.reg [⟨none, some 9, .assign (.const (.int .i64 0))⟩] [9]) (.block 0 (.loop L0_s_GuessesNow))) (.seq (.reg [⟨none, some 53, .move (.tmp 5)⟩,
    ⟨none, some 4, .assign (.tmp 53)⟩] [4]) (.ret)))))))
def L0_i_GuessesNow : CC :=
  .seq (.reg [⟨none, some 26, .binOp .lss 3 (.tmp 25) (.tmp 24) 3⟩] [26]) (.seq (.cond (.tmp 26) (.skip) (.exit 0)) (.seq (.block 1 (.seq (.reg [⟨none, some 27, .indexAddr 47 (.tmp 23) (.tmp 25)⟩,
    ⟨none, some 28, .load 25 (.tmp 27)⟩,
    ⟨none, some 9, .assign (.tmp 28)⟩] [9]) (.seq (.reg [⟨none, some 29, .move (.tmp 7)⟩,
    ⟨none, some 30, .call ⟨.builtin .len, #[.tmp 29], #[47]⟩⟩,
    ⟨none, some 31, .binOp .lss 3 (.tmp 30) (.const (.int .i64 22)) 3⟩,
    ⟨none, some 32, .move (.tmp 31)⟩,
    ⟨some (32, true), some 33, .move (.tmp 5)⟩,
    ⟨some (32, true), some 34, .move (.tmp 6)⟩,
    ⟨some (32, true), some 35, .move (.tmp 9)⟩,
    ⟨some (32, true), some 36, .call ⟨.value (.func 49), #[.tmp 33, .tmp 34, .tmp 35], #[47, 57, 25]⟩⟩,
    ⟨none, some 37, .pick (.tmp 32) (.tmp 36) (.const (.bool false))⟩] [37]) (.cond (.tmp 37) (.reg [⟨none, some 38, .move (.tmp 7)⟩,
    ⟨none, some 39, .move (.tmp 9)⟩,
    ⟨none, some 40, .buildSlice 47 1 #[(0, .tmp 39)]⟩,
    ⟨none, some 41, .call ⟨.builtin .append, #[.tmp 38, .tmp 40], #[47, 47]⟩⟩,
    ⟨none, some 7, .assign (.tmp 41)⟩] [7]) (.skip))))) (.reg [⟨none, some 42, .binOp .add 3 (.tmp 25) (.const (.int .i64 1)) 3⟩,
    ⟨none, some 25, .move (.tmp 42)⟩] [25])))
def cc_i_GuessesNow : CC :=
  .seq (.reg [⟨none, some 2, .box 41 (.tmp 0)⟩,
    ⟨none, some 4, .assign (.const (.slice none 0 0))⟩] [2, 4]) (.seq (.seq (.reg [⟨none, some 10, .load 41 (.tmp 2)⟩,
    ⟨none, some 11, .call ⟨.value (.func 34), #[.tmp 10], #[41]⟩⟩,
    ⟨none, some 12, .unOp .not 4 (.tmp 11)⟩] [12]) (.cond (.tmp 12) (.seq (.reg [⟨none, some 4, .assign (.const (.slice none 0 0))⟩] [4]) (.ret)) (.skip))) (.seq (.reg [⟨none, some 14, .load 41 (.tmp 2)⟩,
    ⟨none, some 15, .call ⟨.value (.func 35), #[.tmp 14], #[41]⟩⟩,
    ⟨none, some 13, .move (.tmp 15)⟩,
    ⟨none, some 16, .extract (.tmp 13) 0⟩,
    ⟨none, some 17, .extract (.tmp 13) 1⟩,
    ⟨none, some 5, .assign (.tmp 16)⟩,
    ⟨none, some 6, .assign (.tmp 17)⟩] [5, 6]) (.seq (.reg [⟨none, some 7, .assign (.const (.slice none 0 0))⟩] [7]) (.seq (.seq (.reg [⟨none, some 18, .fieldAddr 41 (.tmp 2) 0⟩,
    ⟨none, some 19, .fieldAddr 36 (.tmp 18) 1⟩,
    ⟨none, some 20, .load 34 (.tmp 19)⟩,
    ⟨none, some 21, .call ⟨.builtin .len, #[.tmp 20], #[34]⟩⟩,
    ⟨none, some 22, .move (.tmp 1)⟩,
    ⟨none, some 23, .call ⟨.value (.func 48), #[.tmp 21, .tmp 22], #[3, 3]⟩⟩,
    ⟨none, some 24, .call ⟨.builtin .len, #[.tmp 23], #[47]⟩⟩,
    ⟨none, some 25, .move (.const (.int .i64 0))⟩] [23, 24, 25]) (.block 0 (.loop L0_i_GuessesNow))) (.seq (.reg [⟨none, some 43, .move (.tmp 7)⟩,
    ⟨none, some 4, .assign (.tmp 43)⟩] [4]) (.ret))))))
def L0_w_eqIntSS : CC :=
  .seq (.seq (.reg [⟨none, some 11, .move (.tmp 5)⟩,
    ⟨none, some 12, .move (.tmp 0)⟩,
    ⟨none, some 13, .call ⟨.builtin .len, #[.tmp 12], #[47]⟩⟩,
    ⟨none, some 14, .binOp .lss 3 (.tmp 11) (.tmp 13) 3⟩] [14]) (.cond (.tmp 14) (.skip) (.exit 0))) (.seq (.block 1 (.seq (.reg [⟨none, some 17, .move (.tmp 0)⟩,
    ⟨none, some 18, .move (.tmp 5)⟩,
    ⟨none, some 19, .indexAddr 47 (.tmp 17) (.tmp 18)⟩,
    ⟨none, some 20, .load 25 (.tmp 19)⟩,
    ⟨none, some 21, .move (.tmp 1)⟩,
    ⟨none, some 22, .move (.tmp 5)⟩,
    ⟨none, some 23, .indexAddr 47 (.tmp 21) (.tmp 22)⟩,
    ⟨none, some 24, .load 25 (.tmp 23)⟩,
    ⟨none, some 25, .call ⟨.value (.func 38), #[.tmp 20, .tmp 24], #[25, 25]⟩⟩,
    ⟨none, some 26, .unOp .not 4 (.tmp 25)⟩] [26]) (.cond (.tmp 26) (.seq (.reg [⟨none, some 4, .assign (.const (.bool false))⟩] [4]) (.ret)) (.skip)))) (.reg [⟨none, some 15, .move (.tmp 5)⟩,
    ⟨none, some 16, .binOp .add 3 (.tmp 15) (.const (.int .i64 1)) 3⟩,
    ⟨none, some 5, .assign (.tmp 16)⟩] [5]))
def cc_w_eqIntSS : CC :=
  .seq (.reg [⟨none, some 4, .assign (.const (.bool false))⟩] [4]) (.seq (.seq (.reg [⟨none, some 6, .move (.tmp 0)⟩,
    ⟨none, some 7, .call ⟨.builtin .len, #[.tmp 6], #[47]⟩⟩,
    ⟨none, some 8, .move (.tmp 1)⟩,
    ⟨none, some 9, .call ⟨.builtin .len, #[.tmp 8], #[47]⟩⟩,
    ⟨none, some 10, .binOp .neq 3 (.tmp 7) (.tmp 9) 3⟩] [10]) (.cond (.tmp 10) (.seq (.reg [⟨none, some 4, .assign (.const (.bool false))⟩] [4]) (.ret)) (.skip))) (.seq (.seq (.reg [⟨none, some 5, .assign (.const (.int .i64 0))⟩] [5]) (.block 0 (.loop L0_w_eqIntSS))) (.seq (.reg [⟨none, some 4, .assign (.const (.bool true))⟩] [4]) (.ret))))
def cc_w_markWorld : CC :=
  .seq (.reg [⟨none, some 2, .box 41 (.tmp 0)⟩,
    ⟨none, some 4, .assign (.const (.int .i64 0))⟩] [2, 4]) (.seq (.reg [⟨none, some 5, .fieldAddr 41 (.tmp 2) 0⟩,
    ⟨none, some 6, .load 36 (.tmp 5)⟩,
    ⟨none, some 7, .move (.tmp 1)⟩,
    ⟨none, some 8, .call ⟨.value (.func 50), #[.tmp 6, .tmp 7], #[36, 3]⟩⟩,
    ⟨none, some 1, .assign (.tmp 8)⟩] [1]) (.seq (.reg [⟨none, some 9, .fieldAddr 41 (.tmp 2) 1⟩,
    ⟨none, some 10, .load 25 (.tmp 9)⟩,
    ⟨none, some 11, .move (.tmp 1)⟩,
    ⟨none, some 12, .call ⟨.value (.func 51), #[.tmp 10, .tmp 11], #[25, 3]⟩⟩,
    ⟨none, some 1, .assign (.tmp 12)⟩] [1]) (.seq (.reg [⟨none, some 13, .fieldAddr 41 (.tmp 2) 2⟩,
    ⟨none, some 14, .load 25 (.tmp 13)⟩,
    ⟨none, some 15, .move (.tmp 1)⟩,
    ⟨none, some 16, .call ⟨.value (.func 51), #[.tmp 14, .tmp 15], #[25, 3]⟩⟩,
    ⟨none, some 1, .assign (.tmp 16)⟩] [1]) (.seq (.reg [⟨none, some 17, .fieldAddr 41 (.tmp 2) 3⟩,
    ⟨none, some 18, .load 37 (.tmp 17)⟩,
    ⟨none, some 19, .move (.tmp 1)⟩,
    ⟨none, some 20, .call ⟨.value (.func 52), #[.tmp 18, .tmp 19], #[37, 3]⟩⟩,
    ⟨none, some 1, .assign (.tmp 20)⟩] [1]) (.seq (.reg [⟨none, some 21, .fieldAddr 41 (.tmp 2) 4⟩,
    ⟨none, some 22, .load 25 (.tmp 21)⟩,
    ⟨none, some 23, .move (.tmp 1)⟩,
    ⟨none, some 24, .call ⟨.value (.func 51), #[.tmp 22, .tmp 23], #[25, 3]⟩⟩,
    ⟨none, some 1, .assign (.tmp 24)⟩] [1]) (.seq (.reg [⟨none, some 25, .fieldAddr 41 (.tmp 2) 5⟩,
    ⟨none, some 26, .load 25 (.tmp 25)⟩,
    ⟨none, some 27, .move (.tmp 1)⟩,
    ⟨none, some 28, .call ⟨.value (.func 51), #[.tmp 26, .tmp 27], #[25, 3]⟩⟩,
    ⟨none, some 1, .assign (.tmp 28)⟩] [1]) (.seq (.reg [⟨none, some 29, .fieldAddr 41 (.tmp 2) 7⟩,
    ⟨none, some 30, .load 39 (.tmp 29)⟩,
    ⟨none, some 31, .move (.tmp 1)⟩,
    ⟨none, some 32, .call ⟨.value (.func 53), #[.tmp 30, .tmp 31], #[39, 3]⟩⟩,
    ⟨none, some 1, .assign (.tmp 32)⟩] [1]) (.seq (.reg [⟨none, some 33, .move (.tmp 1)⟩,
    ⟨none, some 4, .assign (.tmp 33)⟩] [4]) (.ret)))))))))
def L0_w_markIntSS : CC :=
  .seq (.seq (.reg [⟨none, some 6, .move (.tmp 5)⟩,
    ⟨none, some 7, .move (.tmp 0)⟩,
    ⟨none, some 8, .call ⟨.builtin .len, #[.tmp 7], #[47]⟩⟩,
    ⟨none, some 9, .binOp .lss 3 (.tmp 6) (.tmp 8) 3⟩] [9]) (.cond (.tmp 9) (.skip) (.exit 0))) (.seq (.block 1 (.reg [⟨none, some 12, .move (.tmp 0)⟩,
    ⟨none, some 13, .move (.tmp 5)⟩,
    ⟨none, some 14, .indexAddr 47 (.tmp 12) (.tmp 13)⟩,
    ⟨none, some 15, .load 25 (.tmp 14)⟩,
    ⟨none, some 16, .move (.tmp 1)⟩,
    ⟨none, some 17, .call ⟨.value (.func 51), #[.tmp 15, .tmp 16], #[25, 3]⟩⟩,
    ⟨none, some 1, .assign (.tmp 17)⟩] [1])) (.reg [⟨none, some 10, .move (.tmp 5)⟩,
    ⟨none, some 11, .binOp .add 3 (.tmp 10) (.const (.int .i64 1)) 3⟩,
    ⟨none, some 5, .assign (.tmp 11)⟩] [5]))
def cc_w_markIntSS : CC :=
  .seq (.reg [⟨none, some 4, .assign (.const (.int .i64 0))⟩] [4]) (.seq (.seq (.reg [⟨none, some 5, .assign (.const (.int .i64 0))⟩] [5]) (.block 0 (.loop L0_w_markIntSS))) (.seq (.reg [⟨none, some 18, .move (.tmp 1)⟩,
    ⟨none, some 4, .assign (.tmp 18)⟩] [4]) (.ret)))
def L0_w_heldIntSS : CC :=
  .seq (.seq (.reg [⟨none, some 6, .move (.tmp 5)⟩,
    ⟨none, some 7, .move (.tmp 0)⟩,
    ⟨none, some 8, .call ⟨.builtin .len, #[.tmp 7], #[47]⟩⟩,
    ⟨none, some 9, .binOp .lss 3 (.tmp 6) (.tmp 8) 3⟩] [9]) (.cond (.tmp 9) (.skip) (.exit 0))) (.seq (.block 1 (.seq (.reg [⟨none, some 12, .move (.tmp 0)⟩,
    ⟨none, some 13, .move (.tmp 5)⟩,
    ⟨none, some 14, .indexAddr 47 (.tmp 12) (.tmp 13)⟩,
    ⟨none, some 15, .load 25 (.tmp 14)⟩,
    ⟨none, some 16, .move (.tmp 1)⟩,
    ⟨none, some 17, .call ⟨.value (.func 54), #[.tmp 15, .tmp 16], #[25, 3]⟩⟩,
    ⟨none, some 1, .assign (.tmp 17)⟩] [1]) (.seq (.reg [⟨none, some 18, .move (.tmp 1)⟩,
    ⟨none, some 19, .binOp .lss 3 (.tmp 18) (.const (.int .i64 0)) 3⟩] [19]) (.cond (.tmp 19) (.seq (.reg [⟨none, some 4, .assign (.const (.int .i64 (-1)))⟩] [4]) (.ret)) (.skip))))) (.reg [⟨none, some 10, .move (.tmp 5)⟩,
    ⟨none, some 11, .binOp .add 3 (.tmp 10) (.const (.int .i64 1)) 3⟩,
    ⟨none, some 5, .assign (.tmp 11)⟩] [5]))
def cc_w_heldIntSS : CC :=
  .seq (.reg [⟨none, some 4, .assign (.const (.int .i64 0))⟩] [4]) (.seq (.seq (.reg [⟨none, some 5, .assign (.const (.int .i64 0))⟩] [5]) (.block 0 (.loop L0_w_heldIntSS))) (.seq (.reg [⟨none, some 20, .move (.tmp 1)⟩,
    ⟨none, some 4, .assign (.tmp 20)⟩] [4]) (.ret)))
def cc_s_BlameSets : CC :=
  .seq (.reg [⟨none, some 1, .box 41 (.tmp 0)⟩,
    ⟨none, some 2, .assign (.const (.slice none 0 0))⟩] [1, 2]) (.seq (.reg [⟨none, some 6, .load 41 (.tmp 1)⟩,
    ⟨none, some 7, .call ⟨.value (.func 27), #[.tmp 6], #[41]⟩⟩,
    ⟨none, some 5, .move (.tmp 7)⟩,
    ⟨none, some 8, .extract (.tmp 5) 0⟩,
    ⟨none, some 9, .extract (.tmp 5) 1⟩,
    ⟨none, some 3, .assign (.tmp 8)⟩,
    ⟨none, some 4, .assign (.tmp 9)⟩] [3, 4]) (.seq (.reg [⟨none, some 10, .move (.tmp 3)⟩,
    ⟨none, some 11, .move (.tmp 4)⟩,
    ⟨none, some 12, .fieldAddr 41 (.tmp 1) 0⟩,
    ⟨none, some 13, .fieldAddr 36 (.tmp 12) 1⟩,
    ⟨none, some 14, .load 34 (.tmp 13)⟩,
    ⟨none, some 15, .call ⟨.builtin .len, #[.tmp 14], #[34]⟩⟩,
    ⟨none, some 16, .call ⟨.value (.func 55), #[.tmp 10, .tmp 11, .tmp 15], #[47, 57, 3]⟩⟩,
    ⟨none, some 2, .assign (.tmp 16)⟩] [2]) (.ret)))
def cc_i_BlameSets : CC :=
  .seq (.reg [⟨none, some 1, .box 41 (.tmp 0)⟩,
    ⟨none, some 2, .assign (.const (.slice none 0 0))⟩] [1, 2]) (.seq (.reg [⟨none, some 6, .load 41 (.tmp 1)⟩,
    ⟨none, some 7, .call ⟨.value (.func 35), #[.tmp 6], #[41]⟩⟩,
    ⟨none, some 5, .move (.tmp 7)⟩,
    ⟨none, some 8, .extract (.tmp 5) 0⟩,
    ⟨none, some 9, .extract (.tmp 5) 1⟩,
    ⟨none, some 3, .assign (.tmp 8)⟩,
    ⟨none, some 4, .assign (.tmp 9)⟩] [3, 4]) (.seq (.reg [⟨none, some 10, .move (.tmp 3)⟩,
    ⟨none, some 11, .move (.tmp 4)⟩,
    ⟨none, some 12, .fieldAddr 41 (.tmp 1) 0⟩,
    ⟨none, some 13, .fieldAddr 36 (.tmp 12) 1⟩,
    ⟨none, some 14, .load 34 (.tmp 13)⟩,
    ⟨none, some 15, .call ⟨.builtin .len, #[.tmp 14], #[34]⟩⟩,
    ⟨none, some 16, .call ⟨.value (.func 56), #[.tmp 10, .tmp 11, .tmp 15], #[47, 57, 3]⟩⟩,
    ⟨none, some 2, .assign (.tmp 16)⟩] [2]) (.ret)))
def cc_w_szNet : CC :=
  .seq (.reg [⟨none, some 2, .box 24 (.tmp 0)⟩,
    ⟨none, some 4, .assign (.const (.int .i64 0))⟩] [2, 4]) (.seq (.reg [⟨none, some 5, .fieldAddr 24 (.tmp 2) 1⟩,
    ⟨none, some 6, .load 22 (.tmp 5)⟩,
    ⟨none, some 7, .move (.tmp 1)⟩,
    ⟨none, some 8, .call ⟨.value (.func 57), #[.tmp 6, .tmp 7], #[22, 3]⟩⟩,
    ⟨none, some 1, .assign (.tmp 8)⟩] [1]) (.seq (.seq (.reg [⟨none, some 9, .move (.tmp 1)⟩,
    ⟨none, some 10, .binOp .lss 3 (.tmp 9) (.const (.int .i64 0)) 3⟩] [10]) (.cond (.tmp 10) (.seq (.reg [⟨none, some 4, .assign (.const (.int .i64 (-1)))⟩] [4]) (.ret)) (.skip))) (.seq (.reg [⟨none, some 11, .move (.tmp 1)⟩,
    ⟨none, some 4, .assign (.tmp 11)⟩] [4]) (.ret))))
def cc_w_szIntS : CC :=
  .seq (.reg [⟨none, some 4, .assign (.const (.int .i64 0))⟩] [4]) (.seq (.reg [⟨none, some 5, .move (.tmp 1)⟩,
    ⟨none, some 6, .move (.tmp 0)⟩,
    ⟨none, some 7, .call ⟨.builtin .len, #[.tmp 6], #[25]⟩⟩,
    ⟨none, some 8, .binOp .sub 3 (.tmp 5) (.tmp 7) 3⟩,
    ⟨none, some 1, .assign (.tmp 8)⟩] [1]) (.seq (.seq (.reg [⟨none, some 9, .move (.tmp 1)⟩,
    ⟨none, some 10, .binOp .lss 3 (.tmp 9) (.const (.int .i64 0)) 3⟩] [10]) (.cond (.tmp 10) (.seq (.reg [⟨none, some 4, .assign (.const (.int .i64 (-1)))⟩] [4]) (.ret)) (.skip))) (.seq (.reg [⟨none, some 11, .move (.tmp 1)⟩,
    ⟨none, some 4, .assign (.tmp 11)⟩] [4]) (.ret))))
def L0_w_szProbeS : CC :=
  .seq (.seq (.reg [⟨none, some 12, .move (.tmp 5)⟩,
    ⟨none, some 13, .move (.tmp 0)⟩,
    ⟨none, some 14, .call ⟨.builtin .len, #[.tmp 13], #[26]⟩⟩,
    ⟨none, some 15, .binOp .lss 3 (.tmp 12) (.tmp 14) 3⟩] [15]) (.cond (.tmp 15) (.skip) (.exit 0))) (.seq (.block 1 (.seq (.reg [⟨none, some 18, .move (.tmp 0)⟩,
    ⟨none, some 19, .move (.tmp 5)⟩,
    ⟨none, some 20, .indexAddr 26 (.tmp 18) (.tmp 19)⟩,
    ⟨none, some 21, .load 80 (.tmp 20)⟩,
    ⟨none, some 22, .move (.tmp 1)⟩,
    ⟨none, some 23, .call ⟨.value (.func 58), #[.tmp 21, .tmp 22], #[80, 3]⟩⟩,
    ⟨none, some 1, .assign (.tmp 23)⟩] [1]) (.seq (.reg [⟨none, some 24, .move (.tmp 1)⟩,
    ⟨none, some 25, .binOp .lss 3 (.tmp 24) (.const (.int .i64 0)) 3⟩] [25]) (.cond (.tmp 25) (.seq (.reg [⟨none, some 4, .assign (.const (.int .i64 (-1)))⟩] [4]) (.ret)) (.skip))))) (.reg [⟨none, some 16, .move (.tmp 5)⟩,
    ⟨none, some 17, .binOp .add 3 (.tmp 16) (.const (.int .i64 1)) 3⟩,
    ⟨none, some 5, .assign (.tmp 17)⟩] [5]))
def cc_w_szProbeS : CC :=
  .seq (.reg [⟨none, some 4, .assign (.const (.int .i64 0))⟩] [4]) (.seq (.reg [⟨none, some 6, .move (.tmp 1)⟩,
    ⟨none, some 7, .move (.tmp 0)⟩,
    ⟨none, some 8, .call ⟨.builtin .len, #[.tmp 7], #[26]⟩⟩,
    ⟨none, some 9, .binOp .sub 3 (.tmp 6) (.tmp 8) 3⟩,
    ⟨none, some 1, .assign (.tmp 9)⟩] [1]) (.seq (.seq (.reg [⟨none, some 10, .move (.tmp 1)⟩,
    ⟨none, some 11, .binOp .lss 3 (.tmp 10) (.const (.int .i64 0)) 3⟩] [11]) (.cond (.tmp 11) (.seq (.reg [⟨none, some 4, .assign (.const (.int .i64 (-1)))⟩] [4]) (.ret)) (.skip))) (.seq (.seq (.reg [⟨none, some 5, .assign (.const (.int .i64 0))⟩] [5]) (.block 0 (.loop L0_w_szProbeS))) (.seq (.reg [⟨none, some 26, .move (.tmp 1)⟩,
    ⟨none, some 4, .assign (.tmp 26)⟩] [4]) (.ret)))))
def cc_w_szSeenS : CC :=
  .seq (.reg [⟨none, some 4, .assign (.const (.int .i64 0))⟩] [4]) (.seq (.reg [⟨none, some 5, .move (.tmp 1)⟩,
    ⟨none, some 6, .move (.tmp 0)⟩,
    ⟨none, some 7, .call ⟨.builtin .len, #[.tmp 6], #[29]⟩⟩,
    ⟨none, some 8, .binOp .sub 3 (.tmp 5) (.tmp 7) 3⟩,
    ⟨none, some 1, .assign (.tmp 8)⟩] [1]) (.seq (.seq (.reg [⟨none, some 9, .move (.tmp 1)⟩,
    ⟨none, some 10, .binOp .lss 3 (.tmp 9) (.const (.int .i64 0)) 3⟩] [10]) (.cond (.tmp 10) (.seq (.reg [⟨none, some 4, .assign (.const (.int .i64 (-1)))⟩] [4]) (.ret)) (.skip))) (.seq (.reg [⟨none, some 11, .move (.tmp 1)⟩,
    ⟨none, some 4, .assign (.tmp 11)⟩] [4]) (.ret))))
def L0_s_IsWorld : CC :=
  .seq (.seq (.reg [⟨none, some 5, .move (.tmp 3)⟩,
    ⟨none, some 6, .fieldAddr 41 (.tmp 1) 1⟩,
    ⟨none, some 7, .load 25 (.tmp 6)⟩,
    ⟨none, some 8, .call ⟨.builtin .len, #[.tmp 7], #[25]⟩⟩,
    ⟨none, some 9, .binOp .lss 3 (.tmp 5) (.tmp 8) 3⟩] [9]) (.cond (.tmp 9) (.skip) (.exit 0))) (.seq (.block 1 (.seq (.reg [⟨none, some 12, .fieldAddr 41 (.tmp 1) 1⟩,
    ⟨none, some 13, .load 25 (.tmp 12)⟩,
    ⟨none, some 14, .move (.tmp 3)⟩,
    ⟨none, some 15, .indexAddr 25 (.tmp 13) (.tmp 14)⟩,
    ⟨none, some 16, .load 3 (.tmp 15)⟩,
    ⟨none, some 17, .call ⟨.value (.func 59), #[.tmp 16, .const (.int .i64 0), .const (.int .i64 100)], #[3, 3, 3]⟩⟩,
    ⟨none, some 18, .unOp .not 4 (.tmp 17)⟩] [18]) (.cond (.tmp 18) (.seq (.reg [⟨none, some 2, .assign (.const (.bool false))⟩] [2]) (.ret)) (.skip)))) (.reg [⟨none, some 10, .move (.tmp 3)⟩,
    ⟨none, some 11, .binOp .add 3 (.tmp 10) (.const (.int .i64 1)) 3⟩,
    ⟨none, some 3, .assign (.tmp 11)⟩] [3]))
def L1_s_IsWorld : CC :=
  .seq (.seq (.reg [⟨none, some 19, .move (.tmp 4)⟩,
    ⟨none, some 20, .fieldAddr 41 (.tmp 1) 4⟩,
    ⟨none, some 21, .load 25 (.tmp 20)⟩,
    ⟨none, some 22, .call ⟨.builtin .len, #[.tmp 21], #[25]⟩⟩,
    ⟨none, some 23, .binOp .lss 3 (.tmp 19) (.tmp 22) 3⟩] [23]) (.cond (.tmp 23) (.skip) (.exit 2))) (.seq (.block 3 (.seq (.reg [⟨none, some 26, .fieldAddr 41 (.tmp 1) 4⟩,
    ⟨none, some 27, .load 25 (.tmp 26)⟩,
    ⟨none, some 28, .move (.tmp 4)⟩,
    ⟨none, some 29, .indexAddr 25 (.tmp 27) (.tmp 28)⟩,
    ⟨none, some 30, .load 3 (.tmp 29)⟩,
    ⟨none, some 31, .call ⟨.value (.func 59), #[.tmp 30, .const (.int .i64 0), .const (.int .i64 5)], #[3, 3, 3]⟩⟩,
    ⟨none, some 32, .unOp .not 4 (.tmp 31)⟩] [32]) (.cond (.tmp 32) (.seq (.reg [⟨none, some 2, .assign (.const (.bool false))⟩] [2]) (.ret)) (.skip)))) (.reg [⟨none, some 24, .move (.tmp 4)⟩,
    ⟨none, some 25, .binOp .add 3 (.tmp 24) (.const (.int .i64 1)) 3⟩,
    ⟨none, some 4, .assign (.tmp 25)⟩] [4]))
def cc_s_IsWorld : CC :=
  .seq (.reg [⟨none, some 1, .box 41 (.tmp 0)⟩,
    ⟨none, some 2, .assign (.const (.bool false))⟩] [1, 2]) (.seq (.seq (.reg [⟨none, some 3, .assign (.const (.int .i64 0))⟩] [3]) (.block 0 (.loop L0_s_IsWorld))) (.seq (.seq (.reg [⟨none, some 4, .assign (.const (.int .i64 0))⟩] [4]) (.block 2 (.loop L1_s_IsWorld))) (.seq (.seq (.reg [⟨none, some 33, .fieldAddr 41 (.tmp 1) 0⟩,
    ⟨none, some 34, .load 36 (.tmp 33)⟩,
    ⟨none, some 35, .call ⟨.value (.func 60), #[.tmp 34], #[36]⟩⟩,
    ⟨none, some 36, .unOp .not 4 (.tmp 35)⟩,
    ⟨none, some 37, .move (.tmp 36)⟩,
    ⟨some (37, false), some 38, .fieldAddr 41 (.tmp 1) 1⟩,
    ⟨some (37, false), some 39, .load 25 (.tmp 38)⟩,
    ⟨some (37, false), some 40, .call ⟨.builtin .len, #[.tmp 39], #[25]⟩⟩,
    ⟨some (37, false), some 41, .fieldAddr 41 (.tmp 1) 0⟩,
    ⟨some (37, false), some 42, .fieldAddr 36 (.tmp 41) 1⟩,
    ⟨some (37, false), some 43, .load 34 (.tmp 42)⟩,
    ⟨some (37, false), some 44, .call ⟨.builtin .len, #[.tmp 43], #[34]⟩⟩,
    ⟨some (37, false), some 45, .binOp .neq 3 (.tmp 40) (.tmp 44) 3⟩,
    ⟨none, some 46, .pick (.tmp 37) (.const (.bool true)) (.tmp 45)⟩,
    ⟨none, some 47, .move (.tmp 46)⟩,
    ⟨some (47, false), some 48, .fieldAddr 41 (.tmp 1) 2⟩,
    ⟨some (47, false), some 49, .load 25 (.tmp 48)⟩,
    ⟨some (47, false), some 50, .fieldAddr 41 (.tmp 1) 0⟩,
    ⟨some (47, false), some 51, .fieldAddr 36 (.tmp 50) 1⟩,
    ⟨some (47, false), some 52, .load 34 (.tmp 51)⟩,
    ⟨some (47, false), some 53, .call ⟨.builtin .len, #[.tmp 52], #[34]⟩⟩,
    ⟨some (47, false), some 54, .call ⟨.value (.func 61), #[.tmp 49, .tmp 53], #[25, 3]⟩⟩,
    ⟨some (47, false), some 55, .unOp .not 4 (.tmp 54)⟩,
    ⟨none, some 56, .pick (.tmp 47) (.const (.bool true)) (.tmp 55)⟩,
    ⟨none, some 57, .move (.tmp 56)⟩,
    ⟨some (57, false), some 58, .fieldAddr 41 (.tmp 1) 3⟩,
    ⟨some (57, false), some 59, .load 37 (.tmp 58)⟩,
    ⟨some (57, false), some 60, .call ⟨.builtin .len, #[.tmp 59], #[37]⟩⟩,
    ⟨some (57, false), some 61, .binOp .eql 3 (.tmp 60) (.const (.int .i64 0)) 3⟩,
    ⟨none, some 62, .pick (.tmp 57) (.const (.bool true)) (.tmp 61)⟩,
    ⟨none, some 63, .move (.tmp 62)⟩,
    ⟨some (63, false), some 64, .fieldAddr 41 (.tmp 1) 0⟩,
    ⟨some (63, false), some 65, .load 36 (.tmp 64)⟩,
    ⟨some (63, false), some 66, .fieldAddr 41 (.tmp 1) 3⟩,
    ⟨some (63, false), some 67, .load 37 (.tmp 66)⟩,
    ⟨some (63, false), some 68, .call ⟨.value (.func 62), #[.tmp 65, .tmp 67], #[36, 37]⟩⟩,
    ⟨some (63, false), some 69, .unOp .not 4 (.tmp 68)⟩,
    ⟨none, some 70, .pick (.tmp 63) (.const (.bool true)) (.tmp 69)⟩] [70]) (.cond (.tmp 70) (.seq (.reg [⟨none, some 2, .assign (.const (.bool false))⟩] [2]) (.ret)) (.skip))) (.seq (.reg [⟨none, some 71, .fieldAddr 41 (.tmp 1) 4⟩,
    ⟨none, some 72, .load 25 (.tmp 71)⟩,
    ⟨none, some 73, .call ⟨.builtin .len, #[.tmp 72], #[25]⟩⟩,
    ⟨none, some 74, .fieldAddr 41 (.tmp 1) 3⟩,
    ⟨none, some 75, .load 37 (.tmp 74)⟩,
    ⟨none, some 76, .call ⟨.builtin .len, #[.tmp 75], #[37]⟩⟩,
    ⟨none, some 77, .binOp .eql 3 (.tmp 73) (.tmp 76) 3⟩,
    ⟨none, some 78, .move (.tmp 77)⟩,
    ⟨some (78, true), some 79, .fieldAddr 41 (.tmp 1) 5⟩,
    ⟨some (78, true), some 80, .load 25 (.tmp 79)⟩,
    ⟨some (78, true), some 81, .call ⟨.value (.func 61), #[.tmp 80, .const (.int .i64 6)], #[25, 3]⟩⟩,
    ⟨none, some 82, .pick (.tmp 78) (.tmp 81) (.const (.bool false))⟩,
    ⟨none, some 83, .move (.tmp 82)⟩,
    ⟨some (83, true), some 84, .fieldAddr 41 (.tmp 1) 6⟩,
    ⟨some (83, true), some 85, .load 38 (.tmp 84)⟩,
    ⟨some (83, true), some 86, .call ⟨.value (.func 63), #[.tmp 85], #[38]⟩⟩,
    ⟨none, some 87, .pick (.tmp 83) (.tmp 86) (.const (.bool false))⟩,
    ⟨none, some 88, .move (.tmp 87)⟩,
    ⟨some (88, true), some 89, .fieldAddr 41 (.tmp 1) 6⟩,
    ⟨some (88, true), some 90, .fieldAddr 38 (.tmp 89) 3⟩,
    ⟨some (88, true), some 91, .load 3 (.tmp 90)⟩,
    ⟨some (88, true), some 92, .fieldAddr 41 (.tmp 1) 8⟩,
    ⟨some (88, true), some 93, .load 3 (.tmp 92)⟩,
    ⟨some (88, true), some 94, .binOp .leq 3 (.tmp 91) (.tmp 93) 3⟩,
    ⟨none, some 95, .pick (.tmp 88) (.tmp 94) (.const (.bool false))⟩,
    ⟨none, some 96, .move (.tmp 95)⟩,
    ⟨some (96, true), some 97, .fieldAddr 41 (.tmp 1) 7⟩,
    ⟨some (96, true), some 98, .load 39 (.tmp 97)⟩,
    ⟨some (96, true), some 99, .fieldAddr 41 (.tmp 1) 3⟩,
    ⟨some (96, true), some 100, .load 37 (.tmp 99)⟩,
    ⟨some (96, true), some 101, .call ⟨.builtin .len, #[.tmp 100], #[37]⟩⟩,
    ⟨some (96, true), some 102, .fieldAddr 41 (.tmp 1) 8⟩,
    ⟨some (96, true), some 103, .load 3 (.tmp 102)⟩,
    ⟨some (96, true), some 104, .call ⟨.value (.func 64), #[.tmp 98, .tmp 101, .tmp 103], #[39, 3, 3]⟩⟩,
    ⟨none, some 105, .pick (.tmp 96) (.tmp 104) (.const (.bool false))⟩,
    ⟨none, some 106, .move (.tmp 105)⟩,
    ⟨some (106, true), some 107, .fieldAddr 41 (.tmp 1) 8⟩,
    ⟨some (106, true), some 108, .load 3 (.tmp 107)⟩,
    ⟨some (106, true), some 109, .call ⟨.value (.func 59), #[.tmp 108, .const (.int .i64 0), .const (.int .i64 100000)], #[3, 3, 3]⟩⟩,
    ⟨none, some 110, .pick (.tmp 106) (.tmp 109) (.const (.bool false))⟩,
    ⟨none, some 2, .assign (.tmp 110)⟩] [2]) (.ret)))))
def L0_s_VerdictsNow : CC :=
  .seq (.seq (.reg [⟨none, some 21, .move (.tmp 7)⟩,
    ⟨none, some 22, .move (.tmp 6)⟩,
    ⟨none, some 23, .call ⟨.builtin .len, #[.tmp 22], #[25]⟩⟩,
    ⟨none, some 24, .binOp .lss 3 (.tmp 21) (.tmp 23) 3⟩] [24]) (.cond (.tmp 24) (.skip) (.exit 0))) (.seq (.block 1 (.seq (.regD [(⟨none, some 27, .fieldAddr 41 (.tmp 1) 7⟩, []),
    (⟨none, some 28, .load 39 (.tmp 27)⟩, []),
    (⟨none, some 29, .move (.tmp 6)⟩, []),
    (⟨none, some 30, .move (.tmp 7)⟩, []),
    (⟨none, some 31, .indexAddr 25 (.tmp 29) (.tmp 30)⟩, []),
    (⟨none, some 32, .load 3 (.tmp 31)⟩, []),
    (⟨none, some 33, .indexAddr 39 (.tmp 28) (.tmp 32)⟩, []),
    (⟨none, some 34, .load 89 (.tmp 33)⟩, []),
    (⟨none, some 8, .alloc 89⟩, [⟨none, some 28, .load 39 (.tmp 27)⟩, ⟨none, some 31, .indexAddr 25 (.tmp 29) (.tmp 30)⟩, ⟨none, some 32, .load 3 (.tmp 31)⟩, ⟨none, some 33, .indexAddr 39 (.tmp 28) (.tmp 32)⟩, ⟨none, some 34, .load 89 (.tmp 33)⟩]),
    (⟨none, none, .store 89 (.tmp 8) (.tmp 34)⟩, [])] [8]) (.seq (.reg [⟨none, some 35, .move (.tmp 4)⟩,
    ⟨none, some 36, .fieldAddr 41 (.tmp 1) 3⟩,
    ⟨none, some 37, .load 37 (.tmp 36)⟩,
    ⟨none, some 38, .fieldAddr 89 (.tmp 8) 0⟩,
    ⟨none, some 39, .load 3 (.tmp 38)⟩,
    ⟨none, some 40, .indexAddr 37 (.tmp 37) (.tmp 39)⟩,
    ⟨none, some 41, .fieldAddr 91 (.tmp 40) 2⟩,
    ⟨none, some 42, .load 25 (.tmp 41)⟩,
    ⟨none, some 43, .fieldAddr 41 (.tmp 1) 0⟩,
    ⟨none, some 44, .fieldAddr 36 (.tmp 43) 1⟩,
    ⟨none, some 45, .load 34 (.tmp 44)⟩,
    ⟨none, some 46, .call ⟨.builtin .len, #[.tmp 45], #[34]⟩⟩,
    ⟨none, some 47, .call ⟨.value (.func 66), #[.tmp 42, .tmp 46], #[25, 3]⟩⟩,
    ⟨none, some 48, .buildSlice 47 1 #[(0, .tmp 47)]⟩,
    ⟨none, some 49, .call ⟨.builtin .append, #[.tmp 35, .tmp 48], #[47, 47]⟩⟩,
    ⟨none, some 4, .assign (.tmp 49)⟩] [4]) (.reg [⟨none, some 50, .move (.tmp 5)⟩,
    ⟨none, some 51, .fieldAddr 89 (.tmp 8) 4⟩,
    ⟨none, some 52, .load 4 (.tmp 51)⟩,
    ⟨none, some 53, .buildSlice 57 1 #[(0, .tmp 52)]⟩,
    ⟨none, some 54, .call ⟨.builtin .append, #[.tmp 50, .tmp 53], #[57, 57]⟩⟩,
    ⟨none, some 5, .assign (.tmp 54)⟩] [5])))) (.reg [⟨none, some 25, .move (.tmp 7)⟩,
    ⟨none, some 26, .binOp .add 3 (.tmp 25) (.const (.int .i64 1)) 3⟩,
    ⟨none, some 7, .assign (.tmp 26)⟩] [7]))
def cc_s_VerdictsNow : CC :=
  .seq (.reg [⟨none, some 1, .box 41 (.tmp 0)⟩,
    ⟨none, some 2, .assign (.const (.slice none 0 0))⟩,
    ⟨none, some 3, .assign (.const (.slice none 0 0))⟩] [1, 2, 3]) (.seq (.reg [⟨none, some 9, .buildSlice 47 0 #[]⟩,
    ⟨none, some 4, .assign (.tmp 9)⟩] [4]) (.seq (.reg [⟨none, some 10, .buildSlice 57 0 #[]⟩,
    ⟨none, some 5, .assign (.tmp 10)⟩] [5]) (.seq (.seq (.reg [⟨none, some 11, .load 41 (.tmp 1)⟩,
    ⟨none, some 12, .call ⟨.value (.func 26), #[.tmp 11], #[41]⟩⟩,
    ⟨none, some 13, .unOp .not 4 (.tmp 12)⟩] [13]) (.cond (.tmp 13) (.seq (.reg [⟨none, some 14, .move (.tmp 4)⟩,
    ⟨none, some 15, .move (.tmp 5)⟩,
    ⟨none, some 2, .assign (.tmp 14)⟩,
    ⟨none, some 3, .assign (.tmp 15)⟩] [2, 3]) (.ret)) (.skip))) (.seq (.reg [⟨none, some 16, .fieldAddr 41 (.tmp 1) 7⟩,
    ⟨none, some 17, .load 39 (.tmp 16)⟩,
    ⟨none, some 18, .fieldAddr 41 (.tmp 1) 8⟩,
    ⟨none, some 19, .load 3 (.tmp 18)⟩,
    ⟨none, some 20, .call ⟨.value (.func 65), #[.tmp 17, .tmp 19], #[39, 3]⟩⟩,
    ⟨none, some 6, .assign (.tmp 20)⟩] [6]) (.seq (.seq (.reg [⟨none, some 7, .assign (.const (.int .i64 0))⟩] [7]) (.block 0 (.loop L0_s_VerdictsNow))) (.seq (.reg [⟨none, some 55, .move (.tmp 4)⟩,
    ⟨none, some 56, .move (.tmp 5)⟩,
    ⟨none, some 2, .assign (.tmp 55)⟩,
    ⟨none, some 3, .assign (.tmp 56)⟩] [2, 3]) (.ret)))))))
def cc_w_toNet : CC :=
  .seq (.reg [⟨none, some 1, .box 24 (.tmp 0)⟩,
    ⟨none, some 2, .alloc 36⟩] [1, 2]) (.seq (.reg [⟨none, some 3, .alloc 36⟩] [3]) (.seq (.reg [⟨none, some 4, .fieldAddr 24 (.tmp 1) 0⟩,
    ⟨none, some 5, .load 3 (.tmp 4)⟩,
    ⟨none, some 6, .fieldAddr 36 (.tmp 3) 0⟩,
    ⟨none, none, .store 3 (.tmp 6) (.tmp 5)⟩] []) (.seq (.reg [⟨none, some 7, .fieldAddr 24 (.tmp 1) 1⟩,
    ⟨none, some 8, .load 22 (.tmp 7)⟩,
    ⟨none, some 9, .call ⟨.value (.func 70), #[.tmp 8], #[22]⟩⟩,
    ⟨none, some 10, .fieldAddr 36 (.tmp 3) 1⟩,
    ⟨none, none, .store 34 (.tmp 10) (.tmp 9)⟩] []) (.seq (.reg [⟨none, some 11, .load 36 (.tmp 3)⟩,
    ⟨none, none, .store 36 (.tmp 2) (.tmp 11)⟩] []) (.ret)))))
def L0_w_toIntS : CC :=
  .seq (.seq (.reg [⟨none, some 8, .move (.tmp 4)⟩,
    ⟨none, some 9, .move (.tmp 0)⟩,
    ⟨none, some 10, .call ⟨.builtin .len, #[.tmp 9], #[25]⟩⟩,
    ⟨none, some 11, .binOp .lss 3 (.tmp 8) (.tmp 10) 3⟩] [11]) (.cond (.tmp 11) (.skip) (.exit 0))) (.seq (.block 1 (.reg [⟨none, some 14, .move (.tmp 3)⟩,
    ⟨none, some 15, .move (.tmp 4)⟩,
    ⟨none, some 16, .move (.tmp 0)⟩,
    ⟨none, some 17, .move (.tmp 4)⟩,
    ⟨none, some 18, .indexAddr 25 (.tmp 16) (.tmp 17)⟩,
    ⟨none, some 19, .load 3 (.tmp 18)⟩,
    ⟨none, some 20, .indexAddr 25 (.tmp 14) (.tmp 15)⟩,
    ⟨none, none, .store 3 (.tmp 20) (.tmp 19)⟩] [])) (.reg [⟨none, some 12, .move (.tmp 4)⟩,
    ⟨none, some 13, .binOp .add 3 (.tmp 12) (.const (.int .i64 1)) 3⟩,
    ⟨none, some 4, .assign (.tmp 13)⟩] [4]))
def cc_w_toIntS : CC :=
  .seq (.reg [⟨none, some 2, .assign (.const (.slice none 0 0))⟩] [2]) (.seq (.reg [⟨none, some 5, .move (.tmp 0)⟩,
    ⟨none, some 6, .call ⟨.builtin .len, #[.tmp 5], #[25]⟩⟩,
    ⟨none, some 7, .makeSlice 25 (.tmp 6) (.tmp 6)⟩,
    ⟨none, some 3, .assign (.tmp 7)⟩] [3]) (.seq (.seq (.reg [⟨none, some 4, .assign (.const (.int .i64 0))⟩] [4]) (.block 0 (.loop L0_w_toIntS))) (.seq (.reg [⟨none, some 21, .move (.tmp 3)⟩,
    ⟨none, some 2, .assign (.tmp 21)⟩] [2]) (.ret))))
def L0_w_toProbeS : CC :=
  .seq (.seq (.reg [⟨none, some 8, .move (.tmp 4)⟩,
    ⟨none, some 9, .move (.tmp 0)⟩,
    ⟨none, some 10, .call ⟨.builtin .len, #[.tmp 9], #[26]⟩⟩,
    ⟨none, some 11, .binOp .lss 3 (.tmp 8) (.tmp 10) 3⟩] [11]) (.cond (.tmp 11) (.skip) (.exit 0))) (.seq (.block 1 (.reg [⟨none, some 14, .move (.tmp 3)⟩,
    ⟨none, some 15, .move (.tmp 4)⟩,
    ⟨none, some 16, .move (.tmp 0)⟩,
    ⟨none, some 17, .move (.tmp 4)⟩,
    ⟨none, some 18, .indexAddr 26 (.tmp 16) (.tmp 17)⟩,
    ⟨none, some 19, .load 80 (.tmp 18)⟩,
    ⟨none, some 20, .call ⟨.value (.func 71), #[.tmp 19], #[80]⟩⟩,
    ⟨none, some 21, .indexAddr 37 (.tmp 14) (.tmp 15)⟩,
    ⟨none, none, .store 91 (.tmp 21) (.tmp 20)⟩] [])) (.reg [⟨none, some 12, .move (.tmp 4)⟩,
    ⟨none, some 13, .binOp .add 3 (.tmp 12) (.const (.int .i64 1)) 3⟩,
    ⟨none, some 4, .assign (.tmp 13)⟩] [4]))
def cc_w_toProbeS : CC :=
  .seq (.reg [⟨none, some 2, .assign (.const (.slice none 0 0))⟩] [2]) (.seq (.reg [⟨none, some 5, .move (.tmp 0)⟩,
    ⟨none, some 6, .call ⟨.builtin .len, #[.tmp 5], #[26]⟩⟩,
    ⟨none, some 7, .makeSlice 37 (.tmp 6) (.tmp 6)⟩,
    ⟨none, some 3, .assign (.tmp 7)⟩] [3]) (.seq (.seq (.reg [⟨none, some 4, .assign (.const (.int .i64 0))⟩] [4]) (.block 0 (.loop L0_w_toProbeS))) (.seq (.reg [⟨none, some 22, .move (.tmp 3)⟩,
    ⟨none, some 2, .assign (.tmp 22)⟩] [2]) (.ret))))
def cc_w_toBucket : CC :=
  .seq (.reg [⟨none, some 1, .box 28 (.tmp 0)⟩,
    ⟨none, some 2, .alloc 38⟩] [1, 2]) (.seq (.reg [⟨none, some 3, .alloc 38⟩] [3]) (.seq (.reg [⟨none, some 4, .fieldAddr 28 (.tmp 1) 0⟩,
    ⟨none, some 5, .load 3 (.tmp 4)⟩,
    ⟨none, some 6, .fieldAddr 38 (.tmp 3) 0⟩,
    ⟨none, none, .store 3 (.tmp 6) (.tmp 5)⟩] []) (.seq (.reg [⟨none, some 7, .fieldAddr 28 (.tmp 1) 1⟩,
    ⟨none, some 8, .load 3 (.tmp 7)⟩,
    ⟨none, some 9, .fieldAddr 38 (.tmp 3) 1⟩,
    ⟨none, none, .store 3 (.tmp 9) (.tmp 8)⟩] []) (.seq (.reg [⟨none, some 10, .fieldAddr 28 (.tmp 1) 2⟩,
    ⟨none, some 11, .load 3 (.tmp 10)⟩,
    ⟨none, some 12, .fieldAddr 38 (.tmp 3) 2⟩,
    ⟨none, none, .store 3 (.tmp 12) (.tmp 11)⟩] []) (.seq (.reg [⟨none, some 13, .fieldAddr 28 (.tmp 1) 3⟩,
    ⟨none, some 14, .load 3 (.tmp 13)⟩,
    ⟨none, some 15, .fieldAddr 38 (.tmp 3) 3⟩,
    ⟨none, none, .store 3 (.tmp 15) (.tmp 14)⟩] []) (.seq (.reg [⟨none, some 16, .load 38 (.tmp 3)⟩,
    ⟨none, none, .store 38 (.tmp 2) (.tmp 16)⟩] []) (.ret)))))))
def L0_w_toSeenS : CC :=
  .seq (.seq (.reg [⟨none, some 8, .move (.tmp 4)⟩,
    ⟨none, some 9, .move (.tmp 0)⟩,
    ⟨none, some 10, .call ⟨.builtin .len, #[.tmp 9], #[29]⟩⟩,
    ⟨none, some 11, .binOp .lss 3 (.tmp 8) (.tmp 10) 3⟩] [11]) (.cond (.tmp 11) (.skip) (.exit 0))) (.seq (.block 1 (.reg [⟨none, some 14, .move (.tmp 3)⟩,
    ⟨none, some 15, .move (.tmp 4)⟩,
    ⟨none, some 16, .move (.tmp 0)⟩,
    ⟨none, some 17, .move (.tmp 4)⟩,
    ⟨none, some 18, .indexAddr 29 (.tmp 16) (.tmp 17)⟩,
    ⟨none, some 19, .load 98 (.tmp 18)⟩,
    ⟨none, some 20, .call ⟨.value (.func 72), #[.tmp 19], #[98]⟩⟩,
    ⟨none, some 21, .indexAddr 39 (.tmp 14) (.tmp 15)⟩,
    ⟨none, none, .store 89 (.tmp 21) (.tmp 20)⟩] [])) (.reg [⟨none, some 12, .move (.tmp 4)⟩,
    ⟨none, some 13, .binOp .add 3 (.tmp 12) (.const (.int .i64 1)) 3⟩,
    ⟨none, some 4, .assign (.tmp 13)⟩] [4]))
def cc_w_toSeenS : CC :=
  .seq (.reg [⟨none, some 2, .assign (.const (.slice none 0 0))⟩] [2]) (.seq (.reg [⟨none, some 5, .move (.tmp 0)⟩,
    ⟨none, some 6, .call ⟨.builtin .len, #[.tmp 5], #[29]⟩⟩,
    ⟨none, some 7, .makeSlice 39 (.tmp 6) (.tmp 6)⟩,
    ⟨none, some 3, .assign (.tmp 7)⟩] [3]) (.seq (.seq (.reg [⟨none, some 4, .assign (.const (.int .i64 0))⟩] [4]) (.block 0 (.loop L0_w_toSeenS))) (.seq (.reg [⟨none, some 22, .move (.tmp 3)⟩,
    ⟨none, some 2, .assign (.tmp 22)⟩] [2]) (.ret))))
def cc_i_IsWorld : CC :=
  .seq (.reg [⟨none, some 1, .box 41 (.tmp 0)⟩,
    ⟨none, some 2, .assign (.const (.bool false))⟩] [1, 2]) (.seq (.reg [⟨none, some 3, .fieldAddr 41 (.tmp 1) 0⟩,
    ⟨none, some 4, .load 36 (.tmp 3)⟩,
    ⟨none, some 5, .call ⟨.value (.func 73), #[.tmp 4], #[36]⟩⟩,
    ⟨none, some 6, .move (.tmp 5)⟩,
    ⟨some (6, true), some 7, .fieldAddr 41 (.tmp 1) 1⟩,
    ⟨some (6, true), some 8, .load 25 (.tmp 7)⟩,
    ⟨some (6, true), some 9, .call ⟨.builtin .len, #[.tmp 8], #[25]⟩⟩,
    ⟨some (6, true), some 10, .fieldAddr 41 (.tmp 1) 0⟩,
    ⟨some (6, true), some 11, .fieldAddr 36 (.tmp 10) 1⟩,
    ⟨some (6, true), some 12, .load 34 (.tmp 11)⟩,
    ⟨some (6, true), some 13, .call ⟨.builtin .len, #[.tmp 12], #[34]⟩⟩,
    ⟨some (6, true), some 14, .binOp .eql 3 (.tmp 9) (.tmp 13) 3⟩,
    ⟨none, some 15, .pick (.tmp 6) (.tmp 14) (.const (.bool false))⟩,
    ⟨none, some 16, .move (.tmp 15)⟩,
    ⟨some (16, true), some 17, .fieldAddr 41 (.tmp 1) 1⟩,
    ⟨some (16, true), some 18, .load 25 (.tmp 17)⟩,
    ⟨some (16, true), some 19, .call ⟨.value (.func 74), #[.tmp 18, .const (.int .i64 0), .const (.int .i64 100)], #[25, 3, 3]⟩⟩,
    ⟨none, some 20, .pick (.tmp 16) (.tmp 19) (.const (.bool false))⟩,
    ⟨none, some 21, .move (.tmp 20)⟩,
    ⟨some (21, true), some 22, .fieldAddr 41 (.tmp 1) 2⟩,
    ⟨some (21, true), some 23, .load 25 (.tmp 22)⟩,
    ⟨some (21, true), some 24, .fieldAddr 41 (.tmp 1) 0⟩,
    ⟨some (21, true), some 25, .fieldAddr 36 (.tmp 24) 1⟩,
    ⟨some (21, true), some 26, .load 34 (.tmp 25)⟩,
    ⟨some (21, true), some 27, .call ⟨.builtin .len, #[.tmp 26], #[34]⟩⟩,
    ⟨some (21, true), some 28, .call ⟨.value (.func 75), #[.tmp 23, .tmp 27], #[25, 3]⟩⟩,
    ⟨none, some 29, .pick (.tmp 21) (.tmp 28) (.const (.bool false))⟩,
    ⟨none, some 30, .move (.tmp 29)⟩,
    ⟨some (30, true), some 31, .fieldAddr 41 (.tmp 1) 3⟩,
    ⟨some (30, true), some 32, .load 37 (.tmp 31)⟩,
    ⟨some (30, true), some 33, .call ⟨.builtin .len, #[.tmp 32], #[37]⟩⟩,
    ⟨some (30, true), some 34, .binOp .gtr 3 (.tmp 33) (.const (.int .i64 0)) 3⟩,
    ⟨none, some 35, .pick (.tmp 30) (.tmp 34) (.const (.bool false))⟩,
    ⟨none, some 36, .move (.tmp 35)⟩,
    ⟨some (36, true), some 37, .fieldAddr 41 (.tmp 1) 0⟩,
    ⟨some (36, true), some 38, .load 36 (.tmp 37)⟩,
    ⟨some (36, true), some 39, .fieldAddr 41 (.tmp 1) 3⟩,
    ⟨some (36, true), some 40, .load 37 (.tmp 39)⟩,
    ⟨some (36, true), some 41, .call ⟨.value (.func 76), #[.tmp 38, .tmp 40], #[36, 37]⟩⟩,
    ⟨none, some 42, .pick (.tmp 36) (.tmp 41) (.const (.bool false))⟩,
    ⟨none, some 43, .move (.tmp 42)⟩,
    ⟨some (43, true), some 44, .fieldAddr 41 (.tmp 1) 4⟩,
    ⟨some (43, true), some 45, .load 25 (.tmp 44)⟩,
    ⟨some (43, true), some 46, .call ⟨.builtin .len, #[.tmp 45], #[25]⟩⟩,
    ⟨some (43, true), some 47, .fieldAddr 41 (.tmp 1) 3⟩,
    ⟨some (43, true), some 48, .load 37 (.tmp 47)⟩,
    ⟨some (43, true), some 49, .call ⟨.builtin .len, #[.tmp 48], #[37]⟩⟩,
    ⟨some (43, true), some 50, .binOp .eql 3 (.tmp 46) (.tmp 49) 3⟩,
    ⟨none, some 51, .pick (.tmp 43) (.tmp 50) (.const (.bool false))⟩,
    ⟨none, some 52, .move (.tmp 51)⟩,
    ⟨some (52, true), some 53, .fieldAddr 41 (.tmp 1) 4⟩,
    ⟨some (52, true), some 54, .load 25 (.tmp 53)⟩,
    ⟨some (52, true), some 55, .call ⟨.value (.func 74), #[.tmp 54, .const (.int .i64 0), .const (.int .i64 5)], #[25, 3, 3]⟩⟩,
    ⟨none, some 56, .pick (.tmp 52) (.tmp 55) (.const (.bool false))⟩,
    ⟨none, some 57, .move (.tmp 56)⟩,
    ⟨some (57, true), some 58, .fieldAddr 41 (.tmp 1) 5⟩,
    ⟨some (57, true), some 59, .load 25 (.tmp 58)⟩,
    ⟨some (57, true), some 60, .call ⟨.value (.func 75), #[.tmp 59, .const (.int .i64 6)], #[25, 3]⟩⟩,
    ⟨none, some 61, .pick (.tmp 57) (.tmp 60) (.const (.bool false))⟩,
    ⟨none, some 62, .move (.tmp 61)⟩,
    ⟨some (62, true), some 63, .fieldAddr 41 (.tmp 1) 6⟩,
    ⟨some (62, true), some 64, .load 38 (.tmp 63)⟩,
    ⟨some (62, true), some 65, .call ⟨.value (.func 77), #[.tmp 64], #[38]⟩⟩,
    ⟨none, some 66, .pick (.tmp 62) (.tmp 65) (.const (.bool false))⟩,
    ⟨none, some 67, .move (.tmp 66)⟩,
    ⟨some (67, true), some 68, .fieldAddr 41 (.tmp 1) 6⟩,
    ⟨some (67, true), some 69, .fieldAddr 38 (.tmp 68) 3⟩,
    ⟨some (67, true), some 70, .load 3 (.tmp 69)⟩,
    ⟨some (67, true), some 71, .fieldAddr 41 (.tmp 1) 8⟩,
    ⟨some (67, true), some 72, .load 3 (.tmp 71)⟩,
    ⟨some (67, true), some 73, .binOp .leq 3 (.tmp 70) (.tmp 72) 3⟩,
    ⟨none, some 74, .pick (.tmp 67) (.tmp 73) (.const (.bool false))⟩,
    ⟨none, some 75, .move (.tmp 74)⟩,
    ⟨some (75, true), some 76, .fieldAddr 41 (.tmp 1) 7⟩,
    ⟨some (75, true), some 77, .load 39 (.tmp 76)⟩,
    ⟨some (75, true), some 78, .fieldAddr 41 (.tmp 1) 3⟩,
    ⟨some (75, true), some 79, .load 37 (.tmp 78)⟩,
    ⟨some (75, true), some 80, .call ⟨.builtin .len, #[.tmp 79], #[37]⟩⟩,
    ⟨some (75, true), some 81, .fieldAddr 41 (.tmp 1) 8⟩,
    ⟨some (75, true), some 82, .load 3 (.tmp 81)⟩,
    ⟨some (75, true), some 83, .call ⟨.value (.func 78), #[.tmp 77, .tmp 80, .tmp 82], #[39, 3, 3]⟩⟩,
    ⟨none, some 84, .pick (.tmp 75) (.tmp 83) (.const (.bool false))⟩,
    ⟨none, some 85, .move (.tmp 84)⟩,
    ⟨some (85, true), some 86, .fieldAddr 41 (.tmp 1) 8⟩,
    ⟨some (85, true), some 87, .load 3 (.tmp 86)⟩,
    ⟨some (85, true), some 88, .call ⟨.value (.func 79), #[.tmp 87, .const (.int .i64 0), .const (.int .i64 100000)], #[3, 3, 3]⟩⟩,
    ⟨none, some 89, .pick (.tmp 85) (.tmp 88) (.const (.bool false))⟩,
    ⟨none, some 2, .assign (.tmp 89)⟩] [2]) (.ret))
def L0_i_VerdictsNow : CC :=
  .seq (.reg [⟨none, some 19, .binOp .lss 3 (.tmp 18) (.tmp 17) 3⟩] [19]) (.seq (.cond (.tmp 19) (.skip) (.exit 0)) (.seq (.block 1 (.seq (.reg [⟨none, some 20, .indexAddr 25 (.tmp 16) (.tmp 18)⟩,
    ⟨none, some 21, .load 3 (.tmp 20)⟩,
    ⟨none, some 7, .assign (.tmp 21)⟩] [7]) (.seq (.reg [⟨none, some 22, .fieldAddr 41 (.tmp 1) 7⟩,
    ⟨none, some 23, .load 39 (.tmp 22)⟩,
    ⟨none, some 24, .move (.tmp 7)⟩,
    ⟨none, some 25, .indexAddr 39 (.tmp 23) (.tmp 24)⟩,
    ⟨none, some 26, .load 89 (.tmp 25)⟩,
    ⟨none, some 8, .alloc 89⟩,
    ⟨none, none, .store 89 (.tmp 8) (.tmp 26)⟩] [8]) (.seq (.reg [⟨none, some 27, .move (.tmp 4)⟩,
    ⟨none, some 28, .fieldAddr 41 (.tmp 1) 3⟩,
    ⟨none, some 29, .load 37 (.tmp 28)⟩,
    ⟨none, some 30, .fieldAddr 89 (.tmp 8) 0⟩,
    ⟨none, some 31, .load 3 (.tmp 30)⟩,
    ⟨none, some 32, .indexAddr 37 (.tmp 29) (.tmp 31)⟩,
    ⟨none, some 33, .fieldAddr 91 (.tmp 32) 2⟩,
    ⟨none, some 34, .load 25 (.tmp 33)⟩,
    ⟨none, some 35, .fieldAddr 41 (.tmp 1) 0⟩,
    ⟨none, some 36, .fieldAddr 36 (.tmp 35) 1⟩,
    ⟨none, some 37, .load 34 (.tmp 36)⟩,
    ⟨none, some 38, .call ⟨.builtin .len, #[.tmp 37], #[34]⟩⟩,
    ⟨none, some 39, .call ⟨.value (.func 81), #[.tmp 34, .tmp 38], #[25, 3]⟩⟩,
    ⟨none, some 40, .buildSlice 47 1 #[(0, .tmp 39)]⟩,
    ⟨none, some 41, .call ⟨.builtin .append, #[.tmp 27, .tmp 40], #[47, 47]⟩⟩,
    ⟨none, some 4, .assign (.tmp 41)⟩] [4]) (.reg [⟨none, some 42, .move (.tmp 5)⟩,
    ⟨none, some 43, .fieldAddr 89 (.tmp 8) 4⟩,
    ⟨none, some 44, .load 4 (.tmp 43)⟩,
    ⟨none, some 45, .buildSlice 57 1 #[(0, .tmp 44)]⟩,
    ⟨none, some 46, .call ⟨.builtin .append, #[.tmp 42, .tmp 45], #[57, 57]⟩⟩,
    ⟨none, some 5, .assign (.tmp 46)⟩] [5]))))) (.reg [⟨none, some 47, .binOp .add 3 (.tmp 18) (.const (.int .i64 1)) 3⟩,
    ⟨none, some 18, .move (.tmp 47)⟩] [18])))
def cc_i_VerdictsNow : CC :=
  .seq (.reg [⟨none, some 1, .box 41 (.tmp 0)⟩,
    ⟨none, some 2, .assign (.const (.slice none 0 0))⟩,
    ⟨none, some 3, .assign (.const (.slice none 0 0))⟩] [1, 2, 3]) (.seq (.seq (.reg [⟨none, some 9, .load 41 (.tmp 1)⟩,
    ⟨none, some 10, .call ⟨.value (.func 34), #[.tmp 9], #[41]⟩⟩,
    ⟨none, some 11, .unOp .not 4 (.tmp 10)⟩] [11]) (.cond (.tmp 11) (.seq (.reg [⟨none, some 2, .assign (.const (.slice none 0 0))⟩,
    ⟨none, some 3, .assign (.const (.slice none 0 0))⟩] [2, 3]) (.ret)) (.skip))) (.seq (.reg [⟨none, some 4, .assign (.const (.slice none 0 0))⟩] [4]) (.seq (.reg [⟨none, some 5, .assign (.const (.slice none 0 0))⟩] [5]) (.seq (.seq (.reg [⟨none, some 12, .fieldAddr 41 (.tmp 1) 7⟩,
    ⟨none, some 13, .load 39 (.tmp 12)⟩,
    ⟨none, some 14, .fieldAddr 41 (.tmp 1) 8⟩,
    ⟨none, some 15, .load 3 (.tmp 14)⟩,
    ⟨none, some 16, .call ⟨.value (.func 80), #[.tmp 13, .tmp 15], #[39, 3]⟩⟩,
    ⟨none, some 17, .call ⟨.builtin .len, #[.tmp 16], #[25]⟩⟩,
    ⟨none, some 18, .move (.const (.int .i64 0))⟩] [16, 17, 18]) (.block 0 (.loop L0_i_VerdictsNow))) (.seq (.reg [⟨none, some 48, .move (.tmp 4)⟩,
    ⟨none, some 49, .move (.tmp 5)⟩,
    ⟨none, some 2, .assign (.tmp 48)⟩,
    ⟨none, some 3, .assign (.tmp 49)⟩] [2, 3]) (.ret))))))
def cc_w_eqNet : CC :=
  .seq (.reg [⟨none, some 2, .box 36 (.tmp 0)⟩,
    ⟨none, some 3, .box 36 (.tmp 1)⟩,
    ⟨none, some 4, .assign (.const (.bool false))⟩] [2, 3, 4]) (.seq (.seq (.reg [⟨none, some 5, .fieldAddr 36 (.tmp 2) 0⟩,
    ⟨none, some 6, .load 3 (.tmp 5)⟩,
    ⟨none, some 7, .fieldAddr 36 (.tmp 3) 0⟩,
    ⟨none, some 8, .load 3 (.tmp 7)⟩,
    ⟨none, some 9, .binOp .neq 3 (.tmp 6) (.tmp 8) 3⟩] [9]) (.cond (.tmp 9) (.seq (.reg [⟨none, some 4, .assign (.const (.bool false))⟩] [4]) (.ret)) (.skip))) (.seq (.seq (.reg [⟨none, some 10, .fieldAddr 36 (.tmp 2) 1⟩,
    ⟨none, some 11, .load 34 (.tmp 10)⟩,
    ⟨none, some 12, .fieldAddr 36 (.tmp 3) 1⟩,
    ⟨none, some 13, .load 34 (.tmp 12)⟩,
    ⟨none, some 14, .call ⟨.value (.func 84), #[.tmp 11, .tmp 13], #[34, 34]⟩⟩,
    ⟨none, some 15, .unOp .not 4 (.tmp 14)⟩] [15]) (.cond (.tmp 15) (.seq (.reg [⟨none, some 4, .assign (.const (.bool false))⟩] [4]) (.ret)) (.skip))) (.seq (.reg [⟨none, some 4, .assign (.const (.bool true))⟩] [4]) (.ret))))
def L0_w_eqIntS : CC :=
  .seq (.seq (.reg [⟨none, some 11, .move (.tmp 5)⟩,
    ⟨none, some 12, .move (.tmp 0)⟩,
    ⟨none, some 13, .call ⟨.builtin .len, #[.tmp 12], #[25]⟩⟩,
    ⟨none, some 14, .binOp .lss 3 (.tmp 11) (.tmp 13) 3⟩] [14]) (.cond (.tmp 14) (.skip) (.exit 0))) (.seq (.block 1 (.seq (.reg [⟨none, some 17, .move (.tmp 0)⟩,
    ⟨none, some 18, .move (.tmp 5)⟩,
    ⟨none, some 19, .indexAddr 25 (.tmp 17) (.tmp 18)⟩,
    ⟨none, some 20, .load 3 (.tmp 19)⟩,
    ⟨none, some 21, .move (.tmp 1)⟩,
    ⟨none, some 22, .move (.tmp 5)⟩,
    ⟨none, some 23, .indexAddr 25 (.tmp 21) (.tmp 22)⟩,
    ⟨none, some 24, .load 3 (.tmp 23)⟩,
    ⟨none, some 25, .binOp .neq 3 (.tmp 20) (.tmp 24) 3⟩] [25]) (.cond (.tmp 25) (.seq (.reg [⟨none, some 4, .assign (.const (.bool false))⟩] [4]) (.ret)) (.skip)))) (.reg [⟨none, some 15, .move (.tmp 5)⟩,
    ⟨none, some 16, .binOp .add 3 (.tmp 15) (.const (.int .i64 1)) 3⟩,
    ⟨none, some 5, .assign (.tmp 16)⟩] [5]))
def cc_w_eqIntS : CC :=
  .seq (.reg [⟨none, some 4, .assign (.const (.bool false))⟩] [4]) (.seq (.seq (.reg [⟨none, some 6, .move (.tmp 0)⟩,
    ⟨none, some 7, .call ⟨.builtin .len, #[.tmp 6], #[25]⟩⟩,
    ⟨none, some 8, .move (.tmp 1)⟩,
    ⟨none, some 9, .call ⟨.builtin .len, #[.tmp 8], #[25]⟩⟩,
    ⟨none, some 10, .binOp .neq 3 (.tmp 7) (.tmp 9) 3⟩] [10]) (.cond (.tmp 10) (.seq (.reg [⟨none, some 4, .assign (.const (.bool false))⟩] [4]) (.ret)) (.skip))) (.seq (.seq (.reg [⟨none, some 5, .assign (.const (.int .i64 0))⟩] [5]) (.block 0 (.loop L0_w_eqIntS))) (.seq (.reg [⟨none, some 4, .assign (.const (.bool true))⟩] [4]) (.ret))))
def L0_w_eqProbeS : CC :=
  .seq (.seq (.reg [⟨none, some 11, .move (.tmp 5)⟩,
    ⟨none, some 12, .move (.tmp 0)⟩,
    ⟨none, some 13, .call ⟨.builtin .len, #[.tmp 12], #[37]⟩⟩,
    ⟨none, some 14, .binOp .lss 3 (.tmp 11) (.tmp 13) 3⟩] [14]) (.cond (.tmp 14) (.skip) (.exit 0))) (.seq (.block 1 (.seq (.reg [⟨none, some 17, .move (.tmp 0)⟩,
    ⟨none, some 18, .move (.tmp 5)⟩,
    ⟨none, some 19, .indexAddr 37 (.tmp 17) (.tmp 18)⟩,
    ⟨none, some 20, .load 91 (.tmp 19)⟩,
    ⟨none, some 21, .move (.tmp 1)⟩,
    ⟨none, some 22, .move (.tmp 5)⟩,
    ⟨none, some 23, .indexAddr 37 (.tmp 21) (.tmp 22)⟩,
    ⟨none, some 24, .load 91 (.tmp 23)⟩,
    ⟨none, some 25, .call ⟨.value (.func 85), #[.tmp 20, .tmp 24], #[91, 91]⟩⟩,
    ⟨none, some 26, .unOp .not 4 (.tmp 25)⟩] [26]) (.cond (.tmp 26) (.seq (.reg [⟨none, some 4, .assign (.const (.bool false))⟩] [4]) (.ret)) (.skip)))) (.reg [⟨none, some 15, .move (.tmp 5)⟩,
    ⟨none, some 16, .binOp .add 3 (.tmp 15) (.const (.int .i64 1)) 3⟩,
    ⟨none, some 5, .assign (.tmp 16)⟩] [5]))
def cc_w_eqProbeS : CC :=
  .seq (.reg [⟨none, some 4, .assign (.const (.bool false))⟩] [4]) (.seq (.seq (.reg [⟨none, some 6, .move (.tmp 0)⟩,
    ⟨none, some 7, .call ⟨.builtin .len, #[.tmp 6], #[37]⟩⟩,
    ⟨none, some 8, .move (.tmp 1)⟩,
    ⟨none, some 9, .call ⟨.builtin .len, #[.tmp 8], #[37]⟩⟩,
    ⟨none, some 10, .binOp .neq 3 (.tmp 7) (.tmp 9) 3⟩] [10]) (.cond (.tmp 10) (.seq (.reg [⟨none, some 4, .assign (.const (.bool false))⟩] [4]) (.ret)) (.skip))) (.seq (.seq (.reg [⟨none, some 5, .assign (.const (.int .i64 0))⟩] [5]) (.block 0 (.loop L0_w_eqProbeS))) (.seq (.reg [⟨none, some 4, .assign (.const (.bool true))⟩] [4]) (.ret))))
def cc_w_eqBucket : CC :=
  .seq (.reg [⟨none, some 2, .box 38 (.tmp 0)⟩,
    ⟨none, some 3, .box 38 (.tmp 1)⟩,
    ⟨none, some 4, .assign (.const (.bool false))⟩] [2, 3, 4]) (.seq (.seq (.reg [⟨none, some 5, .fieldAddr 38 (.tmp 2) 0⟩,
    ⟨none, some 6, .load 3 (.tmp 5)⟩,
    ⟨none, some 7, .fieldAddr 38 (.tmp 3) 0⟩,
    ⟨none, some 8, .load 3 (.tmp 7)⟩,
    ⟨none, some 9, .binOp .neq 3 (.tmp 6) (.tmp 8) 3⟩] [9]) (.cond (.tmp 9) (.seq (.reg [⟨none, some 4, .assign (.const (.bool false))⟩] [4]) (.ret)) (.skip))) (.seq (.seq (.reg [⟨none, some 10, .fieldAddr 38 (.tmp 2) 1⟩,
    ⟨none, some 11, .load 3 (.tmp 10)⟩,
    ⟨none, some 12, .fieldAddr 38 (.tmp 3) 1⟩,
    ⟨none, some 13, .load 3 (.tmp 12)⟩,
    ⟨none, some 14, .binOp .neq 3 (.tmp 11) (.tmp 13) 3⟩] [14]) (.cond (.tmp 14) (.seq (.reg [⟨none, some 4, .assign (.const (.bool false))⟩] [4]) (.ret)) (.skip))) (.seq (.seq (.reg [⟨none, some 15, .fieldAddr 38 (.tmp 2) 2⟩,
    ⟨none, some 16, .load 3 (.tmp 15)⟩,
    ⟨none, some 17, .fieldAddr 38 (.tmp 3) 2⟩,
    ⟨none, some 18, .load 3 (.tmp 17)⟩,
    ⟨none, some 19, .binOp .neq 3 (.tmp 16) (.tmp 18) 3⟩] [19]) (.cond (.tmp 19) (.seq (.reg [⟨none, some 4, .assign (.const (.bool false))⟩] [4]) (.ret)) (.skip))) (.seq (.seq (.reg [⟨none, some 20, .fieldAddr 38 (.tmp 2) 3⟩,
    ⟨none, some 21, .load 3 (.tmp 20)⟩,
    ⟨none, some 22, .fieldAddr 38 (.tmp 3) 3⟩,
    ⟨none, some 23, .load 3 (.tmp 22)⟩,
    ⟨none, some 24, .binOp .neq 3 (.tmp 21) (.tmp 23) 3⟩] [24]) (.cond (.tmp 24) (.seq (.reg [⟨none, some 4, .assign (.const (.bool false))⟩] [4]) (.ret)) (.skip))) (.seq (.reg [⟨none, some 4, .assign (.const (.bool true))⟩] [4]) (.ret))))))
def L0_w_eqSeenS : CC :=
  .seq (.seq (.reg [⟨none, some 11, .move (.tmp 5)⟩,
    ⟨none, some 12, .move (.tmp 0)⟩,
    ⟨none, some 13, .call ⟨.builtin .len, #[.tmp 12], #[39]⟩⟩,
    ⟨none, some 14, .binOp .lss 3 (.tmp 11) (.tmp 13) 3⟩] [14]) (.cond (.tmp 14) (.skip) (.exit 0))) (.seq (.block 1 (.seq (.reg [⟨none, some 17, .move (.tmp 0)⟩,
    ⟨none, some 18, .move (.tmp 5)⟩,
    ⟨none, some 19, .indexAddr 39 (.tmp 17) (.tmp 18)⟩,
    ⟨none, some 20, .load 89 (.tmp 19)⟩,
    ⟨none, some 21, .move (.tmp 1)⟩,
    ⟨none, some 22, .move (.tmp 5)⟩,
    ⟨none, some 23, .indexAddr 39 (.tmp 21) (.tmp 22)⟩,
    ⟨none, some 24, .load 89 (.tmp 23)⟩,
    ⟨none, some 25, .call ⟨.value (.func 86), #[.tmp 20, .tmp 24], #[89, 89]⟩⟩,
    ⟨none, some 26, .unOp .not 4 (.tmp 25)⟩] [26]) (.cond (.tmp 26) (.seq (.reg [⟨none, some 4, .assign (.const (.bool false))⟩] [4]) (.ret)) (.skip)))) (.reg [⟨none, some 15, .move (.tmp 5)⟩,
    ⟨none, some 16, .binOp .add 3 (.tmp 15) (.const (.int .i64 1)) 3⟩,
    ⟨none, some 5, .assign (.tmp 16)⟩] [5]))
def cc_w_eqSeenS : CC :=
  .seq (.reg [⟨none, some 4, .assign (.const (.bool false))⟩] [4]) (.seq (.seq (.reg [⟨none, some 6, .move (.tmp 0)⟩,
    ⟨none, some 7, .call ⟨.builtin .len, #[.tmp 6], #[39]⟩⟩,
    ⟨none, some 8, .move (.tmp 1)⟩,
    ⟨none, some 9, .call ⟨.builtin .len, #[.tmp 8], #[39]⟩⟩,
    ⟨none, some 10, .binOp .neq 3 (.tmp 7) (.tmp 9) 3⟩] [10]) (.cond (.tmp 10) (.seq (.reg [⟨none, some 4, .assign (.const (.bool false))⟩] [4]) (.ret)) (.skip))) (.seq (.seq (.reg [⟨none, some 5, .assign (.const (.int .i64 0))⟩] [5]) (.block 0 (.loop L0_w_eqSeenS))) (.seq (.reg [⟨none, some 4, .assign (.const (.bool true))⟩] [4]) (.ret))))
def L0_s_BestRow : CC :=
  .seq (.seq (.reg [⟨none, some 11, .move (.tmp 7)⟩,
    ⟨none, some 12, .move (.tmp 1)⟩,
    ⟨none, some 13, .call ⟨.builtin .len, #[.tmp 12], #[47]⟩⟩,
    ⟨none, some 14, .binOp .lss 3 (.tmp 11) (.tmp 13) 3⟩] [14]) (.cond (.tmp 14) (.skip) (.exit 0))) (.seq (.block 1 (.seq (.reg [⟨none, some 17, .move (.tmp 0)⟩,
    ⟨none, some 18, .move (.tmp 1)⟩,
    ⟨none, some 19, .move (.tmp 7)⟩,
    ⟨none, some 20, .indexAddr 47 (.tmp 18) (.tmp 19)⟩,
    ⟨none, some 21, .load 25 (.tmp 20)⟩,
    ⟨none, some 22, .call ⟨.value (.func 87), #[.tmp 17, .tmp 21], #[47, 25]⟩⟩,
    ⟨none, some 8, .assign (.tmp 22)⟩] [8]) (.seq (.reg [⟨none, some 23, .move (.tmp 8)⟩,
    ⟨none, some 24, .move (.tmp 6)⟩,
    ⟨none, some 25, .binOp .lss 3 (.tmp 23) (.tmp 24) 3⟩] [25]) (.cond (.tmp 25) (.seq (.reg [⟨none, some 26, .move (.tmp 7)⟩,
    ⟨none, some 5, .assign (.tmp 26)⟩] [5]) (.reg [⟨none, some 27, .move (.tmp 8)⟩,
    ⟨none, some 6, .assign (.tmp 27)⟩] [6])) (.skip))))) (.reg [⟨none, some 15, .move (.tmp 7)⟩,
    ⟨none, some 16, .binOp .add 3 (.tmp 15) (.const (.int .i64 1)) 3⟩,
    ⟨none, some 7, .assign (.tmp 16)⟩] [7]))
def cc_s_BestRow : CC :=
  .seq (.reg [⟨none, some 4, .assign (.const (.int .i64 0))⟩] [4]) (.seq (.reg [⟨none, some 5, .assign (.const (.int .i64 (-1)))⟩] [5]) (.seq (.reg [⟨none, some 9, .move (.tmp 0)⟩,
    ⟨none, some 10, .call ⟨.builtin .len, #[.tmp 9], #[47]⟩⟩,
    ⟨none, some 6, .assign (.tmp 10)⟩] [6]) (.seq (.seq (.reg [⟨none, some 7, .assign (.const (.int .i64 0))⟩] [7]) (.block 0 (.loop L0_s_BestRow))) (.seq (.reg [⟨none, some 28, .move (.tmp 5)⟩,
    ⟨none, some 4, .assign (.tmp 28)⟩] [4]) (.ret)))))
def cc_s_WorldMatrix : CC :=
  .seq (.reg [⟨none, some 1, .box 41 (.tmp 0)⟩,
    ⟨none, some 2, .assign (.const (.slice none 0 0))⟩] [1, 2]) (.seq (.reg [⟨none, some 3, .fieldAddr 41 (.tmp 1) 3⟩,
    ⟨none, some 4, .load 37 (.tmp 3)⟩,
    ⟨none, some 5, .fieldAddr 41 (.tmp 1) 0⟩,
    ⟨none, some 6, .fieldAddr 36 (.tmp 5) 1⟩,
    ⟨none, some 7, .load 34 (.tmp 6)⟩,
    ⟨none, some 8, .call ⟨.builtin .len, #[.tmp 7], #[34]⟩⟩,
    ⟨none, some 9, .call ⟨.value (.func 88), #[.tmp 4, .tmp 8], #[37, 3]⟩⟩,
    ⟨none, some 2, .assign (.tmp 9)⟩] [2]) (.ret))
def L0_i_BestRow : CC :=
  .seq (.reg [⟨none, some 15, .binOp .lss 3 (.tmp 14) (.tmp 13) 3⟩] [15]) (.seq (.cond (.tmp 15) (.skip) (.exit 0)) (.seq (.block 1 (.seq (.reg [⟨none, some 16, .move (.tmp 14)⟩,
    ⟨none, some 17, .indexAddr 47 (.tmp 12) (.tmp 14)⟩,
    ⟨none, some 18, .load 25 (.tmp 17)⟩,
    ⟨none, some 7, .assign (.tmp 16)⟩,
    ⟨none, some 8, .assign (.tmp 18)⟩] [7, 8]) (.seq (.reg [⟨none, some 19, .move (.tmp 0)⟩,
    ⟨none, some 20, .move (.tmp 8)⟩,
    ⟨none, some 21, .call ⟨.value (.func 89), #[.tmp 19, .tmp 20], #[47, 25]⟩⟩,
    ⟨none, some 9, .assign (.tmp 21)⟩] [9]) (.seq (.reg [⟨none, some 22, .move (.tmp 9)⟩,
    ⟨none, some 23, .move (.tmp 6)⟩,
    ⟨none, some 24, .binOp .lss 3 (.tmp 22) (.tmp 23) 3⟩] [24]) (.cond (.tmp 24) (.reg [⟨none, some 25, .move (.tmp 7)⟩,
    ⟨none, some 26, .move (.tmp 9)⟩,
    ⟨none, some 5, .assign (.tmp 25)⟩,
    ⟨none, some 6, .assign (.tmp 26)⟩] [5, 6]) (.skip)))))) (.reg [⟨none, some 27, .binOp .add 3 (.tmp 14) (.const (.int .i64 1)) 3⟩,
    ⟨none, some 14, .move (.tmp 27)⟩] [14])))
def cc_i_BestRow : CC :=
  .seq (.reg [⟨none, some 4, .assign (.const (.int .i64 0))⟩] [4]) (.seq (.reg [⟨none, some 10, .move (.tmp 0)⟩,
    ⟨none, some 11, .call ⟨.builtin .len, #[.tmp 10], #[47]⟩⟩,
    ⟨none, some 5, .assign (.const (.int .i64 (-1)))⟩,
    ⟨none, some 6, .assign (.tmp 11)⟩] [5, 6]) (.seq (.seq (.reg [⟨none, some 12, .move (.tmp 1)⟩,
    ⟨none, some 13, .call ⟨.builtin .len, #[.tmp 12], #[47]⟩⟩,
    ⟨none, some 14, .move (.const (.int .i64 0))⟩] [12, 13, 14]) (.block 0 (.loop L0_i_BestRow))) (.seq (.reg [⟨none, some 28, .move (.tmp 5)⟩,
    ⟨none, some 4, .assign (.tmp 28)⟩] [4]) (.ret))))
def cc_i_WorldMatrix : CC :=
  .seq (.reg [⟨none, some 1, .box 41 (.tmp 0)⟩,
    ⟨none, some 2, .assign (.const (.slice none 0 0))⟩] [1, 2]) (.seq (.reg [⟨none, some 3, .fieldAddr 41 (.tmp 1) 3⟩,
    ⟨none, some 4, .load 37 (.tmp 3)⟩,
    ⟨none, some 5, .fieldAddr 41 (.tmp 1) 0⟩,
    ⟨none, some 6, .fieldAddr 36 (.tmp 5) 1⟩,
    ⟨none, some 7, .load 34 (.tmp 6)⟩,
    ⟨none, some 8, .call ⟨.builtin .len, #[.tmp 7], #[34]⟩⟩,
    ⟨none, some 9, .call ⟨.value (.func 90), #[.tmp 4, .tmp 8], #[37, 3]⟩⟩,
    ⟨none, some 2, .assign (.tmp 9)⟩] [2]) (.ret))
def L0_s_l16Sets : CC :=
  .seq (.seq (.reg [⟨none, some 8, .move (.tmp 6)⟩,
    ⟨none, some 9, .move (.tmp 0)⟩,
    ⟨none, some 10, .binOp .leq 3 (.tmp 8) (.tmp 9) 3⟩,
    ⟨none, some 11, .move (.tmp 10)⟩,
    ⟨some (11, true), some 12, .move (.tmp 6)⟩,
    ⟨some (11, true), some 13, .move (.tmp 1)⟩,
    ⟨some (11, true), some 14, .binOp .leq 3 (.tmp 12) (.tmp 13) 3⟩,
    ⟨none, some 15, .pick (.tmp 11) (.tmp 14) (.const (.bool false))⟩] [15]) (.cond (.tmp 15) (.skip) (.exit 0))) (.seq (.block 1 (.reg [⟨none, some 18, .move (.tmp 5)⟩,
    ⟨none, some 19, .move (.tmp 0)⟩,
    ⟨none, some 20, .move (.tmp 6)⟩,
    ⟨none, some 21, .call ⟨.value (.func 91), #[.tmp 19, .tmp 20], #[3, 3]⟩⟩,
    ⟨none, some 22, .call ⟨.builtin .append, #[.tmp 18, .tmp 21], #[47, 47]⟩⟩,
    ⟨none, some 5, .assign (.tmp 22)⟩] [5])) (.reg [⟨none, some 16, .move (.tmp 6)⟩,
    ⟨none, some 17, .binOp .add 3 (.tmp 16) (.const (.int .i64 1)) 3⟩,
    ⟨none, some 6, .assign (.tmp 17)⟩] [6]))
def cc_s_l16Sets : CC :=
  .seq (.reg [⟨none, some 4, .assign (.const (.slice none 0 0))⟩] [4]) (.seq (.reg [⟨none, some 7, .buildSlice 47 0 #[]⟩,
    ⟨none, some 5, .assign (.tmp 7)⟩] [5]) (.seq (.seq (.reg [⟨none, some 6, .assign (.const (.int .i64 0))⟩] [6]) (.block 0 (.loop L0_s_l16Sets))) (.seq (.reg [⟨none, some 23, .move (.tmp 5)⟩,
    ⟨none, some 4, .assign (.tmp 23)⟩] [4]) (.ret))))
def L0_s_Explains : CC :=
  .seq (.seq (.reg [⟨none, some 13, .move (.tmp 7)⟩,
    ⟨none, some 14, .move (.tmp 0)⟩,
    ⟨none, some 15, .call ⟨.builtin .len, #[.tmp 14], #[47]⟩⟩,
    ⟨none, some 16, .binOp .lss 3 (.tmp 13) (.tmp 15) 3⟩] [16]) (.cond (.tmp 16) (.skip) (.exit 0))) (.seq (.block 1 (.seq (.reg [⟨none, some 19, .move (.tmp 0)⟩,
    ⟨none, some 20, .move (.tmp 7)⟩,
    ⟨none, some 21, .indexAddr 47 (.tmp 19) (.tmp 20)⟩,
    ⟨none, some 22, .load 25 (.tmp 21)⟩,
    ⟨none, some 23, .move (.tmp 2)⟩,
    ⟨none, some 24, .call ⟨.value (.func 92), #[.tmp 22, .tmp 23], #[25, 25]⟩⟩,
    ⟨none, some 25, .move (.tmp 1)⟩,
    ⟨none, some 26, .move (.tmp 7)⟩,
    ⟨none, some 27, .indexAddr 57 (.tmp 25) (.tmp 26)⟩,
    ⟨none, some 28, .load 4 (.tmp 27)⟩,
    ⟨none, some 29, .binOp .neq 4 (.tmp 24) (.tmp 28) 4⟩] [29]) (.cond (.tmp 29) (.seq (.reg [⟨none, some 6, .assign (.const (.bool false))⟩] [6]) (.ret)) (.skip)))) (.reg [⟨none, some 17, .move (.tmp 7)⟩,
    ⟨none, some 18, .binOp .add 3 (.tmp 17) (.const (.int .i64 1)) 3⟩,
    ⟨none, some 7, .assign (.tmp 18)⟩] [7]))
def cc_s_Explains : CC :=
  .seq (.reg [⟨none, some 6, .assign (.const (.bool false))⟩] [6]) (.seq (.seq (.reg [⟨none, some 8, .move (.tmp 1)⟩,
    ⟨none, some 9, .call ⟨.builtin .len, #[.tmp 8], #[57]⟩⟩,
    ⟨none, some 10, .move (.tmp 0)⟩,
    ⟨none, some 11, .call ⟨.builtin .len, #[.tmp 10], #[47]⟩⟩,
    ⟨none, some 12, .binOp .neq 3 (.tmp 9) (.tmp 11) 3⟩] [12]) (.cond (.tmp 12) (.seq (.reg [⟨none, some 6, .assign (.const (.bool false))⟩] [6]) (.ret)) (.skip))) (.seq (.seq (.reg [⟨none, some 7, .assign (.const (.int .i64 0))⟩] [7]) (.block 0 (.loop L0_s_Explains))) (.seq (.reg [⟨none, some 6, .assign (.const (.bool true))⟩] [6]) (.ret))))
def L0_i_setsTo : CC :=
  .seq (.seq (.reg [⟨none, some 7, .move (.tmp 6)⟩,
    ⟨none, some 8, .move (.tmp 0)⟩,
    ⟨none, some 9, .move (.tmp 1)⟩,
    ⟨none, some 10, .call ⟨.builtin .min, #[.tmp 8, .tmp 9], #[3, 3]⟩⟩,
    ⟨none, some 11, .binOp .leq 3 (.tmp 7) (.tmp 10) 3⟩] [11]) (.cond (.tmp 11) (.skip) (.exit 0))) (.seq (.block 1 (.reg [⟨none, some 14, .move (.tmp 5)⟩,
    ⟨none, some 15, .move (.tmp 0)⟩,
    ⟨none, some 16, .move (.tmp 6)⟩,
    ⟨none, some 17, .call ⟨.value (.func 93), #[.tmp 15, .tmp 16], #[3, 3]⟩⟩,
    ⟨none, some 18, .call ⟨.builtin .append, #[.tmp 14, .tmp 17], #[47, 47]⟩⟩,
    ⟨none, some 5, .assign (.tmp 18)⟩] [5])) (.reg [⟨none, some 12, .move (.tmp 6)⟩,
    ⟨none, some 13, .binOp .add 3 (.tmp 12) (.const (.int .i64 1)) 3⟩,
    ⟨none, some 6, .assign (.tmp 13)⟩] [6]))
def cc_i_setsTo : CC :=
  .seq (.reg [⟨none, some 4, .assign (.const (.slice none 0 0))⟩] [4]) (.seq (.reg [⟨none, some 5, .assign (.const (.slice none 0 0))⟩] [5]) (.seq (.seq (.reg [⟨none, some 6, .assign (.const (.int .i64 0))⟩] [6]) (.block 0 (.loop L0_i_setsTo))) (.seq (.reg [⟨none, some 19, .move (.tmp 5)⟩,
    ⟨none, some 4, .assign (.tmp 19)⟩] [4]) (.ret))))
def L0_i_Explains : CC :=
  .seq (.reg [⟨none, some 17, .binOp .lss 3 (.tmp 16) (.tmp 15) 3⟩] [17]) (.seq (.cond (.tmp 17) (.skip) (.exit 0)) (.seq (.block 1 (.seq (.reg [⟨none, some 18, .move (.tmp 16)⟩,
    ⟨none, some 19, .indexAddr 47 (.tmp 14) (.tmp 16)⟩,
    ⟨none, some 20, .load 25 (.tmp 19)⟩,
    ⟨none, some 7, .assign (.tmp 18)⟩,
    ⟨none, some 8, .assign (.tmp 20)⟩] [7, 8]) (.seq (.reg [⟨none, some 21, .move (.tmp 8)⟩,
    ⟨none, some 22, .move (.tmp 2)⟩,
    ⟨none, some 23, .call ⟨.value (.func 94), #[.tmp 21, .tmp 22], #[25, 25]⟩⟩,
    ⟨none, some 24, .move (.tmp 1)⟩,
    ⟨none, some 25, .move (.tmp 7)⟩,
    ⟨none, some 26, .indexAddr 57 (.tmp 24) (.tmp 25)⟩,
    ⟨none, some 27, .load 4 (.tmp 26)⟩,
    ⟨none, some 28, .binOp .neq 4 (.tmp 23) (.tmp 27) 4⟩] [28]) (.cond (.tmp 28) (.seq (.reg [⟨none, some 6, .assign (.const (.bool false))⟩] [6]) (.ret)) (.skip))))) (.reg [⟨none, some 29, .binOp .add 3 (.tmp 16) (.const (.int .i64 1)) 3⟩,
    ⟨none, some 16, .move (.tmp 29)⟩] [16])))
def cc_i_Explains : CC :=
  .seq (.reg [⟨none, some 6, .assign (.const (.bool false))⟩] [6]) (.seq (.seq (.reg [⟨none, some 9, .move (.tmp 1)⟩,
    ⟨none, some 10, .call ⟨.builtin .len, #[.tmp 9], #[57]⟩⟩,
    ⟨none, some 11, .move (.tmp 0)⟩,
    ⟨none, some 12, .call ⟨.builtin .len, #[.tmp 11], #[47]⟩⟩,
    ⟨none, some 13, .binOp .neq 3 (.tmp 10) (.tmp 12) 3⟩] [13]) (.cond (.tmp 13) (.seq (.reg [⟨none, some 6, .assign (.const (.bool false))⟩] [6]) (.ret)) (.skip))) (.seq (.seq (.reg [⟨none, some 14, .move (.tmp 0)⟩,
    ⟨none, some 15, .call ⟨.builtin .len, #[.tmp 14], #[47]⟩⟩,
    ⟨none, some 16, .move (.const (.int .i64 0))⟩] [14, 15, 16]) (.block 0 (.loop L0_i_Explains))) (.seq (.reg [⟨none, some 6, .assign (.const (.bool true))⟩] [6]) (.ret))))
def cc_w_markNet : CC :=
  .seq (.reg [⟨none, some 2, .box 36 (.tmp 0)⟩,
    ⟨none, some 4, .assign (.const (.int .i64 0))⟩] [2, 4]) (.seq (.reg [⟨none, some 5, .fieldAddr 36 (.tmp 2) 1⟩,
    ⟨none, some 6, .load 34 (.tmp 5)⟩,
    ⟨none, some 7, .move (.tmp 1)⟩,
    ⟨none, some 8, .call ⟨.value (.func 95), #[.tmp 6, .tmp 7], #[34, 3]⟩⟩,
    ⟨none, some 1, .assign (.tmp 8)⟩] [1]) (.seq (.reg [⟨none, some 9, .move (.tmp 1)⟩,
    ⟨none, some 4, .assign (.tmp 9)⟩] [4]) (.ret)))
def L0_w_markIntS : CC :=
  .seq (.seq (.reg [⟨none, some 6, .move (.tmp 5)⟩,
    ⟨none, some 7, .move (.tmp 0)⟩,
    ⟨none, some 8, .call ⟨.builtin .len, #[.tmp 7], #[25]⟩⟩,
    ⟨none, some 9, .binOp .lss 3 (.tmp 6) (.tmp 8) 3⟩] [9]) (.cond (.tmp 9) (.skip) (.exit 0))) (.seq (.block 1 (.seq (.reg [⟨none, some 12, .move (.tmp 0)⟩,
    ⟨none, some 13, .move (.tmp 5)⟩,
    ⟨none, some 14, .move (.tmp 1)⟩,
    ⟨none, some 15, .indexAddr 25 (.tmp 12) (.tmp 13)⟩,
    ⟨none, none, .store 3 (.tmp 15) (.tmp 14)⟩] []) (.reg [⟨none, some 16, .move (.tmp 1)⟩,
    ⟨none, some 17, .binOp .add 3 (.tmp 16) (.const (.int .i64 1)) 3⟩,
    ⟨none, some 1, .assign (.tmp 17)⟩] [1]))) (.reg [⟨none, some 10, .move (.tmp 5)⟩,
    ⟨none, some 11, .binOp .add 3 (.tmp 10) (.const (.int .i64 1)) 3⟩,
    ⟨none, some 5, .assign (.tmp 11)⟩] [5]))
def cc_w_markIntS : CC :=
  .seq (.reg [⟨none, some 4, .assign (.const (.int .i64 0))⟩] [4]) (.seq (.seq (.reg [⟨none, some 5, .assign (.const (.int .i64 0))⟩] [5]) (.block 0 (.loop L0_w_markIntS))) (.seq (.reg [⟨none, some 18, .move (.tmp 1)⟩,
    ⟨none, some 4, .assign (.tmp 18)⟩] [4]) (.ret)))
def L0_w_markProbeS : CC :=
  .seq (.seq (.reg [⟨none, some 6, .move (.tmp 5)⟩,
    ⟨none, some 7, .move (.tmp 0)⟩,
    ⟨none, some 8, .call ⟨.builtin .len, #[.tmp 7], #[37]⟩⟩,
    ⟨none, some 9, .binOp .lss 3 (.tmp 6) (.tmp 8) 3⟩] [9]) (.cond (.tmp 9) (.skip) (.exit 0))) (.seq (.block 1 (.seq (.reg [⟨none, some 12, .move (.tmp 0)⟩,
    ⟨none, some 13, .move (.tmp 5)⟩,
    ⟨none, some 14, .move (.tmp 1)⟩,
    ⟨none, some 15, .indexAddr 37 (.tmp 12) (.tmp 13)⟩,
    ⟨none, some 16, .fieldAddr 91 (.tmp 15) 0⟩,
    ⟨none, none, .store 3 (.tmp 16) (.tmp 14)⟩] []) (.seq (.reg [⟨none, some 17, .move (.tmp 1)⟩,
    ⟨none, some 18, .binOp .add 3 (.tmp 17) (.const (.int .i64 1)) 3⟩,
    ⟨none, some 1, .assign (.tmp 18)⟩] [1]) (.seq (.reg [⟨none, some 19, .move (.tmp 0)⟩,
    ⟨none, some 20, .move (.tmp 5)⟩,
    ⟨none, some 21, .move (.tmp 1)⟩,
    ⟨none, some 22, .indexAddr 37 (.tmp 19) (.tmp 20)⟩,
    ⟨none, some 23, .fieldAddr 91 (.tmp 22) 1⟩,
    ⟨none, none, .store 3 (.tmp 23) (.tmp 21)⟩] []) (.seq (.reg [⟨none, some 24, .move (.tmp 1)⟩,
    ⟨none, some 25, .binOp .add 3 (.tmp 24) (.const (.int .i64 1)) 3⟩,
    ⟨none, some 1, .assign (.tmp 25)⟩] [1]) (.reg [⟨none, some 26, .move (.tmp 0)⟩,
    ⟨none, some 27, .move (.tmp 5)⟩,
    ⟨none, some 28, .indexAddr 37 (.tmp 26) (.tmp 27)⟩,
    ⟨none, some 29, .fieldAddr 91 (.tmp 28) 2⟩,
    ⟨none, some 30, .load 25 (.tmp 29)⟩,
    ⟨none, some 31, .move (.tmp 1)⟩,
    ⟨none, some 32, .call ⟨.value (.func 51), #[.tmp 30, .tmp 31], #[25, 3]⟩⟩,
    ⟨none, some 1, .assign (.tmp 32)⟩] [1])))))) (.reg [⟨none, some 10, .move (.tmp 5)⟩,
    ⟨none, some 11, .binOp .add 3 (.tmp 10) (.const (.int .i64 1)) 3⟩,
    ⟨none, some 5, .assign (.tmp 11)⟩] [5]))
def cc_w_markProbeS : CC :=
  .seq (.reg [⟨none, some 4, .assign (.const (.int .i64 0))⟩] [4]) (.seq (.seq (.reg [⟨none, some 5, .assign (.const (.int .i64 0))⟩] [5]) (.block 0 (.loop L0_w_markProbeS))) (.seq (.reg [⟨none, some 33, .move (.tmp 1)⟩,
    ⟨none, some 4, .assign (.tmp 33)⟩] [4]) (.ret)))
def L0_w_markSeenS : CC :=
  .seq (.seq (.reg [⟨none, some 6, .move (.tmp 5)⟩,
    ⟨none, some 7, .move (.tmp 0)⟩,
    ⟨none, some 8, .call ⟨.builtin .len, #[.tmp 7], #[39]⟩⟩,
    ⟨none, some 9, .binOp .lss 3 (.tmp 6) (.tmp 8) 3⟩] [9]) (.cond (.tmp 9) (.skip) (.exit 0))) (.seq (.block 1 (.seq (.reg [⟨none, some 12, .move (.tmp 0)⟩,
    ⟨none, some 13, .move (.tmp 5)⟩,
    ⟨none, some 14, .move (.tmp 1)⟩,
    ⟨none, some 15, .indexAddr 39 (.tmp 12) (.tmp 13)⟩,
    ⟨none, some 16, .fieldAddr 89 (.tmp 15) 0⟩,
    ⟨none, none, .store 3 (.tmp 16) (.tmp 14)⟩] []) (.seq (.reg [⟨none, some 17, .move (.tmp 1)⟩,
    ⟨none, some 18, .binOp .add 3 (.tmp 17) (.const (.int .i64 1)) 3⟩,
    ⟨none, some 1, .assign (.tmp 18)⟩] [1]) (.seq (.reg [⟨none, some 19, .move (.tmp 0)⟩,
    ⟨none, some 20, .move (.tmp 5)⟩,
    ⟨none, some 21, .move (.tmp 1)⟩,
    ⟨none, some 22, .indexAddr 39 (.tmp 19) (.tmp 20)⟩,
    ⟨none, some 23, .fieldAddr 89 (.tmp 22) 1⟩,
    ⟨none, none, .store 3 (.tmp 23) (.tmp 21)⟩] []) (.seq (.reg [⟨none, some 24, .move (.tmp 1)⟩,
    ⟨none, some 25, .binOp .add 3 (.tmp 24) (.const (.int .i64 1)) 3⟩,
    ⟨none, some 1, .assign (.tmp 25)⟩] [1]) (.seq (.reg [⟨none, some 26, .move (.tmp 0)⟩,
    ⟨none, some 27, .move (.tmp 5)⟩,
    ⟨none, some 28, .move (.tmp 1)⟩,
    ⟨none, some 29, .indexAddr 39 (.tmp 26) (.tmp 27)⟩,
    ⟨none, some 30, .fieldAddr 89 (.tmp 29) 2⟩,
    ⟨none, none, .store 3 (.tmp 30) (.tmp 28)⟩] []) (.seq (.reg [⟨none, some 31, .move (.tmp 1)⟩,
    ⟨none, some 32, .binOp .add 3 (.tmp 31) (.const (.int .i64 1)) 3⟩,
    ⟨none, some 1, .assign (.tmp 32)⟩] [1]) (.seq (.reg [⟨none, some 33, .move (.tmp 0)⟩,
    ⟨none, some 34, .move (.tmp 5)⟩,
    ⟨none, some 35, .move (.tmp 1)⟩,
    ⟨none, some 36, .indexAddr 39 (.tmp 33) (.tmp 34)⟩,
    ⟨none, some 37, .fieldAddr 89 (.tmp 36) 3⟩,
    ⟨none, none, .store 3 (.tmp 37) (.tmp 35)⟩] []) (.seq (.reg [⟨none, some 38, .move (.tmp 1)⟩,
    ⟨none, some 39, .binOp .add 3 (.tmp 38) (.const (.int .i64 1)) 3⟩,
    ⟨none, some 1, .assign (.tmp 39)⟩] [1]) (.seq (.reg [⟨none, some 40, .move (.tmp 0)⟩,
    ⟨none, some 41, .move (.tmp 5)⟩,
    ⟨none, some 42, .move (.tmp 1)⟩,
    ⟨none, some 43, .binOp .rem 3 (.tmp 42) (.const (.int .i64 3)) 3⟩,
    ⟨none, some 44, .binOp .eql 3 (.tmp 43) (.const (.int .i64 0)) 3⟩,
    ⟨none, some 45, .indexAddr 39 (.tmp 40) (.tmp 41)⟩,
    ⟨none, some 46, .fieldAddr 89 (.tmp 45) 4⟩,
    ⟨none, none, .store 4 (.tmp 46) (.tmp 44)⟩] []) (.reg [⟨none, some 47, .move (.tmp 1)⟩,
    ⟨none, some 48, .binOp .add 3 (.tmp 47) (.const (.int .i64 1)) 3⟩,
    ⟨none, some 1, .assign (.tmp 48)⟩] [1]))))))))))) (.reg [⟨none, some 10, .move (.tmp 5)⟩,
    ⟨none, some 11, .binOp .add 3 (.tmp 10) (.const (.int .i64 1)) 3⟩,
    ⟨none, some 5, .assign (.tmp 11)⟩] [5]))
def cc_w_markSeenS : CC :=
  .seq (.reg [⟨none, some 4, .assign (.const (.int .i64 0))⟩] [4]) (.seq (.seq (.reg [⟨none, some 5, .assign (.const (.int .i64 0))⟩] [5]) (.block 0 (.loop L0_w_markSeenS))) (.seq (.reg [⟨none, some 49, .move (.tmp 1)⟩,
    ⟨none, some 4, .assign (.tmp 49)⟩] [4]) (.ret)))
def L0_w_heldIntS : CC :=
  .seq (.seq (.reg [⟨none, some 6, .move (.tmp 5)⟩,
    ⟨none, some 7, .move (.tmp 0)⟩,
    ⟨none, some 8, .call ⟨.builtin .len, #[.tmp 7], #[25]⟩⟩,
    ⟨none, some 9, .binOp .lss 3 (.tmp 6) (.tmp 8) 3⟩] [9]) (.cond (.tmp 9) (.skip) (.exit 0))) (.seq (.block 1 (.seq (.seq (.reg [⟨none, some 12, .move (.tmp 0)⟩,
    ⟨none, some 13, .move (.tmp 5)⟩,
    ⟨none, some 14, .indexAddr 25 (.tmp 12) (.tmp 13)⟩,
    ⟨none, some 15, .load 3 (.tmp 14)⟩,
    ⟨none, some 16, .move (.tmp 1)⟩,
    ⟨none, some 17, .binOp .neq 3 (.tmp 15) (.tmp 16) 3⟩] [17]) (.cond (.tmp 17) (.seq (.reg [⟨none, some 4, .assign (.const (.int .i64 (-1)))⟩] [4]) (.ret)) (.skip))) (.reg [⟨none, some 18, .move (.tmp 1)⟩,
    ⟨none, some 19, .binOp .add 3 (.tmp 18) (.const (.int .i64 1)) 3⟩,
    ⟨none, some 1, .assign (.tmp 19)⟩] [1]))) (.reg [⟨none, some 10, .move (.tmp 5)⟩,
    ⟨none, some 11, .binOp .add 3 (.tmp 10) (.const (.int .i64 1)) 3⟩,
    ⟨none, some 5, .assign (.tmp 11)⟩] [5]))
def cc_w_heldIntS : CC :=
  .seq (.reg [⟨none, some 4, .assign (.const (.int .i64 0))⟩] [4]) (.seq (.seq (.reg [⟨none, some 5, .assign (.const (.int .i64 0))⟩] [5]) (.block 0 (.loop L0_w_heldIntS))) (.seq (.reg [⟨none, some 20, .move (.tmp 1)⟩,
    ⟨none, some 4, .assign (.tmp 20)⟩] [4]) (.ret)))
def L0_s_SmallestSets : CC :=
  .seq (.seq (.reg [⟨none, some 31, .move (.tmp 10)⟩,
    ⟨none, some 32, .move (.tmp 9)⟩,
    ⟨none, some 33, .call ⟨.builtin .len, #[.tmp 32], #[47]⟩⟩,
    ⟨none, some 34, .binOp .lss 3 (.tmp 31) (.tmp 33) 3⟩] [34]) (.cond (.tmp 34) (.skip) (.exit 2))) (.seq (.block 3 (.seq (.reg [⟨none, some 37, .move (.tmp 0)⟩,
    ⟨none, some 38, .move (.tmp 1)⟩,
    ⟨none, some 39, .move (.tmp 9)⟩,
    ⟨none, some 40, .move (.tmp 10)⟩,
    ⟨none, some 41, .indexAddr 47 (.tmp 39) (.tmp 40)⟩,
    ⟨none, some 42, .load 25 (.tmp 41)⟩,
    ⟨none, some 43, .call ⟨.value (.func 47), #[.tmp 37, .tmp 38, .tmp 42], #[47, 57, 25]⟩⟩] [43]) (.cond (.tmp 43) (.reg [⟨none, some 44, .move (.tmp 7)⟩,
    ⟨none, some 45, .move (.tmp 9)⟩,
    ⟨none, some 46, .move (.tmp 10)⟩,
    ⟨none, some 47, .indexAddr 47 (.tmp 45) (.tmp 46)⟩,
    ⟨none, some 48, .load 25 (.tmp 47)⟩,
    ⟨none, some 49, .buildSlice 47 1 #[(0, .tmp 48)]⟩,
    ⟨none, some 50, .call ⟨.builtin .append, #[.tmp 44, .tmp 49], #[47, 47]⟩⟩,
    ⟨none, some 7, .assign (.tmp 50)⟩] [7]) (.skip)))) (.reg [⟨none, some 35, .move (.tmp 10)⟩,
    ⟨none, some 36, .binOp .add 3 (.tmp 35) (.const (.int .i64 1)) 3⟩,
    ⟨none, some 10, .assign (.tmp 36)⟩] [10]))
def L1_s_SmallestSets : CC :=
  .seq (.seq (.reg [⟨none, some 12, .move (.tmp 8)⟩,
    ⟨none, some 13, .move (.tmp 2)⟩,
    ⟨none, some 14, .binOp .leq 3 (.tmp 12) (.tmp 13) 3⟩,
    ⟨none, some 15, .move (.tmp 14)⟩,
    ⟨some (15, true), some 16, .move (.tmp 0)⟩,
    ⟨some (15, true), some 17, .move (.tmp 1)⟩,
    ⟨some (15, true), some 18, .move (.tmp 2)⟩,
    ⟨some (15, true), some 19, .call ⟨.value (.func 96), #[.tmp 16, .tmp 17, .tmp 18], #[47, 57, 3]⟩⟩,
    ⟨none, some 20, .pick (.tmp 15) (.tmp 19) (.const (.bool false))⟩,
    ⟨none, some 21, .move (.tmp 20)⟩,
    ⟨some (21, true), some 22, .move (.tmp 7)⟩,
    ⟨some (21, true), some 23, .call ⟨.builtin .len, #[.tmp 22], #[47]⟩⟩,
    ⟨some (21, true), some 24, .binOp .eql 3 (.tmp 23) (.const (.int .i64 0)) 3⟩,
    ⟨none, some 25, .pick (.tmp 21) (.tmp 24) (.const (.bool false))⟩] [25]) (.cond (.tmp 25) (.skip) (.exit 0))) (.seq (.block 1 (.seq (.reg [⟨none, some 28, .move (.tmp 2)⟩,
    ⟨none, some 29, .move (.tmp 8)⟩,
    ⟨none, some 30, .call ⟨.value (.func 91), #[.tmp 28, .tmp 29], #[3, 3]⟩⟩,
    ⟨none, some 9, .assign (.tmp 30)⟩] [9]) (.seq (.reg [⟨none, some 10, .assign (.const (.int .i64 0))⟩] [10]) (.block 2 (.loop L0_s_SmallestSets))))) (.reg [⟨none, some 26, .move (.tmp 8)⟩,
    ⟨none, some 27, .binOp .add 3 (.tmp 26) (.const (.int .i64 1)) 3⟩,
    ⟨none, some 8, .assign (.tmp 27)⟩] [8]))
def cc_s_SmallestSets : CC :=
  .seq (.reg [⟨none, some 6, .assign (.const (.slice none 0 0))⟩] [6]) (.seq (.reg [⟨none, some 11, .buildSlice 47 0 #[]⟩,
    ⟨none, some 7, .assign (.tmp 11)⟩] [7]) (.seq (.seq (.reg [⟨none, some 8, .assign (.const (.int .i64 0))⟩] [8]) (.block 0 (.loop L1_s_SmallestSets))) (.seq (.reg [⟨none, some 51, .move (.tmp 7)⟩,
    ⟨none, some 6, .assign (.tmp 51)⟩] [6]) (.ret))))
def L0_i_SmallestSets : CC :=
  .seq (.reg [⟨none, some 26, .binOp .lss 3 (.tmp 25) (.tmp 24) 3⟩] [26]) (.seq (.cond (.tmp 26) (.skip) (.exit 2)) (.seq (.block 3 (.seq (.reg [⟨none, some 27, .indexAddr 47 (.tmp 23) (.tmp 25)⟩,
    ⟨none, some 28, .load 25 (.tmp 27)⟩,
    ⟨none, some 10, .assign (.tmp 28)⟩] [10]) (.seq (.reg [⟨none, some 29, .move (.tmp 0)⟩,
    ⟨none, some 30, .move (.tmp 1)⟩,
    ⟨none, some 31, .move (.tmp 10)⟩,
    ⟨none, some 32, .call ⟨.value (.func 49), #[.tmp 29, .tmp 30, .tmp 31], #[47, 57, 25]⟩⟩] [32]) (.cond (.tmp 32) (.reg [⟨none, some 33, .move (.tmp 8)⟩,
    ⟨none, some 34, .move (.tmp 10)⟩,
    ⟨none, some 35, .buildSlice 47 1 #[(0, .tmp 34)]⟩,
    ⟨none, some 36, .call ⟨.builtin .append, #[.tmp 33, .tmp 35], #[47, 47]⟩⟩,
    ⟨none, some 8, .assign (.tmp 36)⟩] [8]) (.skip))))) (.reg [⟨none, some 37, .binOp .add 3 (.tmp 25) (.const (.int .i64 1)) 3⟩,
    ⟨none, some 25, .move (.tmp 37)⟩] [25])))
def L1_i_SmallestSets : CC :=
  .seq (.reg [⟨none, some 19, .binOp .lss 3 (.tmp 18) (.tmp 17) 3⟩] [19]) (.seq (.cond (.tmp 19) (.skip) (.exit 0)) (.seq (.block 1 (.seq (.reg [⟨none, some 20, .move (.tmp 18)⟩,
    ⟨none, some 7, .assign (.tmp 20)⟩] [7]) (.seq (.reg [⟨none, some 8, .assign (.const (.slice none 0 0))⟩] [8]) (.seq (.seq (.reg [⟨none, some 21, .move (.tmp 2)⟩,
    ⟨none, some 22, .move (.tmp 7)⟩,
    ⟨none, some 23, .call ⟨.value (.func 93), #[.tmp 21, .tmp 22], #[3, 3]⟩⟩,
    ⟨none, some 24, .call ⟨.builtin .len, #[.tmp 23], #[47]⟩⟩,
    ⟨none, some 25, .move (.const (.int .i64 0))⟩] [23, 24, 25]) (.block 2 (.loop L0_i_SmallestSets))) (.seq (.reg [⟨none, some 38, .move (.tmp 8)⟩,
    ⟨none, some 39, .call ⟨.builtin .len, #[.tmp 38], #[47]⟩⟩,
    ⟨none, some 40, .binOp .gtr 3 (.tmp 39) (.const (.int .i64 0)) 3⟩] [40]) (.cond (.tmp 40) (.seq (.reg [⟨none, some 41, .move (.tmp 8)⟩,
    ⟨none, some 6, .assign (.tmp 41)⟩] [6]) (.ret)) (.skip))))))) (.reg [⟨none, some 42, .binOp .add 3 (.tmp 18) (.const (.int .i64 1)) 3⟩,
    ⟨none, some 18, .move (.tmp 42)⟩] [18])))
def cc_i_SmallestSets : CC :=
  .seq (.reg [⟨none, some 6, .assign (.const (.slice none 0 0))⟩] [6]) (.seq (.seq (.reg [⟨none, some 11, .move (.tmp 0)⟩,
    ⟨none, some 12, .move (.tmp 1)⟩,
    ⟨none, some 13, .move (.tmp 2)⟩,
    ⟨none, some 14, .call ⟨.value (.func 97), #[.tmp 11, .tmp 12, .tmp 13], #[47, 57, 3]⟩⟩,
    ⟨none, some 15, .unOp .not 4 (.tmp 14)⟩] [15]) (.cond (.tmp 15) (.seq (.reg [⟨none, some 6, .assign (.const (.slice none 0 0))⟩] [6]) (.ret)) (.skip))) (.seq (.seq (.reg [⟨none, some 16, .move (.tmp 2)⟩,
    ⟨none, some 17, .binOp .add 3 (.tmp 16) (.const (.int .i64 1)) 3⟩,
    ⟨none, some 18, .move (.const (.int .i64 0))⟩] [17, 18]) (.block 0 (.loop L1_i_SmallestSets))) (.seq (.reg [⟨none, some 6, .assign (.const (.slice none 0 0))⟩] [6]) (.ret))))
def cc_w_szLinkS : CC :=
  .seq (.reg [⟨none, some 4, .assign (.const (.int .i64 0))⟩] [4]) (.seq (.reg [⟨none, some 5, .move (.tmp 1)⟩,
    ⟨none, some 6, .move (.tmp 0)⟩,
    ⟨none, some 7, .call ⟨.builtin .len, #[.tmp 6], #[22]⟩⟩,
    ⟨none, some 8, .binOp .sub 3 (.tmp 5) (.tmp 7) 3⟩,
    ⟨none, some 1, .assign (.tmp 8)⟩] [1]) (.seq (.seq (.reg [⟨none, some 9, .move (.tmp 1)⟩,
    ⟨none, some 10, .binOp .lss 3 (.tmp 9) (.const (.int .i64 0)) 3⟩] [10]) (.cond (.tmp 10) (.seq (.reg [⟨none, some 4, .assign (.const (.int .i64 (-1)))⟩] [4]) (.ret)) (.skip))) (.seq (.reg [⟨none, some 11, .move (.tmp 1)⟩,
    ⟨none, some 4, .assign (.tmp 11)⟩] [4]) (.ret))))
def cc_w_szProbe : CC :=
  .seq (.reg [⟨none, some 2, .box 80 (.tmp 0)⟩,
    ⟨none, some 4, .assign (.const (.int .i64 0))⟩] [2, 4]) (.seq (.reg [⟨none, some 5, .fieldAddr 80 (.tmp 2) 2⟩,
    ⟨none, some 6, .load 25 (.tmp 5)⟩,
    ⟨none, some 7, .move (.tmp 1)⟩,
    ⟨none, some 8, .call ⟨.value (.func 23), #[.tmp 6, .tmp 7], #[25, 3]⟩⟩,
    ⟨none, some 1, .assign (.tmp 8)⟩] [1]) (.seq (.seq (.reg [⟨none, some 9, .move (.tmp 1)⟩,
    ⟨none, some 10, .binOp .lss 3 (.tmp 9) (.const (.int .i64 0)) 3⟩] [10]) (.cond (.tmp 10) (.seq (.reg [⟨none, some 4, .assign (.const (.int .i64 (-1)))⟩] [4]) (.ret)) (.skip))) (.seq (.reg [⟨none, some 11, .move (.tmp 1)⟩,
    ⟨none, some 4, .assign (.tmp 11)⟩] [4]) (.ret))))
def cc_s_l1In : CC :=
  .seq (.reg [⟨none, some 6, .assign (.const (.bool false))⟩] [6]) (.seq (.reg [⟨none, some 7, .move (.tmp 0)⟩,
    ⟨none, some 8, .move (.tmp 1)⟩,
    ⟨none, some 9, .binOp .geq 3 (.tmp 7) (.tmp 8) 3⟩,
    ⟨none, some 10, .move (.tmp 9)⟩,
    ⟨some (10, true), some 11, .move (.tmp 0)⟩,
    ⟨some (10, true), some 12, .move (.tmp 2)⟩,
    ⟨some (10, true), some 13, .binOp .leq 3 (.tmp 11) (.tmp 12) 3⟩,
    ⟨none, some 14, .pick (.tmp 10) (.tmp 13) (.const (.bool false))⟩,
    ⟨none, some 6, .assign (.tmp 14)⟩] [6]) (.ret))
def L0_s_IsNet : CC :=
  .seq (.seq (.reg [⟨none, some 17, .move (.tmp 3)⟩,
    ⟨none, some 18, .fieldAddr 36 (.tmp 1) 1⟩,
    ⟨none, some 19, .load 34 (.tmp 18)⟩,
    ⟨none, some 20, .call ⟨.builtin .len, #[.tmp 19], #[34]⟩⟩,
    ⟨none, some 21, .binOp .lss 3 (.tmp 17) (.tmp 20) 3⟩] [21]) (.cond (.tmp 21) (.skip) (.exit 0))) (.seq (.block 1 (.seq (.reg [⟨none, some 24, .fieldAddr 36 (.tmp 1) 1⟩,
    ⟨none, some 25, .load 34 (.tmp 24)⟩,
    ⟨none, some 26, .move (.tmp 3)⟩,
    ⟨none, some 27, .indexAddr 34 (.tmp 25) (.tmp 26)⟩,
    ⟨none, some 28, .fieldAddr 109 (.tmp 27) 0⟩,
    ⟨none, some 29, .load 3 (.tmp 28)⟩,
    ⟨none, some 4, .assign (.tmp 29)⟩] [4]) (.seq (.reg [⟨none, some 30, .fieldAddr 36 (.tmp 1) 1⟩,
    ⟨none, some 31, .load 34 (.tmp 30)⟩,
    ⟨none, some 32, .move (.tmp 3)⟩,
    ⟨none, some 33, .indexAddr 34 (.tmp 31) (.tmp 32)⟩,
    ⟨none, some 34, .fieldAddr 109 (.tmp 33) 1⟩,
    ⟨none, some 35, .load 3 (.tmp 34)⟩,
    ⟨none, some 5, .assign (.tmp 35)⟩] [5]) (.seq (.reg [⟨none, some 36, .move (.tmp 4)⟩,
    ⟨none, some 37, .fieldAddr 36 (.tmp 1) 0⟩,
    ⟨none, some 38, .load 3 (.tmp 37)⟩,
    ⟨none, some 39, .binOp .sub 3 (.tmp 38) (.const (.int .i64 1)) 3⟩,
    ⟨none, some 40, .call ⟨.value (.func 59), #[.tmp 36, .const (.int .i64 0), .tmp 39], #[3, 3, 3]⟩⟩,
    ⟨none, some 41, .unOp .not 4 (.tmp 40)⟩,
    ⟨none, some 42, .move (.tmp 41)⟩,
    ⟨some (42, false), some 43, .move (.tmp 5)⟩,
    ⟨some (42, false), some 44, .fieldAddr 36 (.tmp 1) 0⟩,
    ⟨some (42, false), some 45, .load 3 (.tmp 44)⟩,
    ⟨some (42, false), some 46, .binOp .sub 3 (.tmp 45) (.const (.int .i64 1)) 3⟩,
    ⟨some (42, false), some 47, .call ⟨.value (.func 59), #[.tmp 43, .const (.int .i64 0), .tmp 46], #[3, 3, 3]⟩⟩,
    ⟨some (42, false), some 48, .unOp .not 4 (.tmp 47)⟩,
    ⟨none, some 49, .pick (.tmp 42) (.const (.bool true)) (.tmp 48)⟩,
    ⟨none, some 50, .move (.tmp 49)⟩,
    ⟨some (50, false), some 51, .move (.tmp 4)⟩,
    ⟨some (50, false), some 52, .move (.tmp 5)⟩,
    ⟨some (50, false), some 53, .binOp .eql 3 (.tmp 51) (.tmp 52) 3⟩,
    ⟨none, some 54, .pick (.tmp 50) (.const (.bool true)) (.tmp 53)⟩,
    ⟨none, some 55, .move (.tmp 54)⟩,
    ⟨some (55, false), some 56, .load 36 (.tmp 1)⟩,
    ⟨some (55, false), some 57, .move (.tmp 4)⟩,
    ⟨some (55, false), some 58, .move (.tmp 5)⟩,
    ⟨some (55, false), some 59, .call ⟨.value (.func 98), #[.tmp 56, .tmp 57, .tmp 58], #[36, 3, 3]⟩⟩,
    ⟨some (55, false), some 60, .move (.tmp 3)⟩,
    ⟨some (55, false), some 61, .binOp .lss 3 (.tmp 59) (.tmp 60) 3⟩,
    ⟨none, some 62, .pick (.tmp 55) (.const (.bool true)) (.tmp 61)⟩] [62]) (.cond (.tmp 62) (.seq (.reg [⟨none, some 2, .assign (.const (.bool false))⟩] [2]) (.ret)) (.skip)))))) (.reg [⟨none, some 22, .move (.tmp 3)⟩,
    ⟨none, some 23, .binOp .add 3 (.tmp 22) (.const (.int .i64 1)) 3⟩,
    ⟨none, some 3, .assign (.tmp 23)⟩] [3]))
def cc_s_IsNet : CC :=
  .seq (.reg [⟨none, some 1, .box 36 (.tmp 0)⟩,
    ⟨none, some 2, .assign (.const (.bool false))⟩] [1, 2]) (.seq (.seq (.reg [⟨none, some 6, .fieldAddr 36 (.tmp 1) 0⟩,
    ⟨none, some 7, .load 3 (.tmp 6)⟩,
    ⟨none, some 8, .call ⟨.value (.func 59), #[.tmp 7, .const (.int .i64 1), .const (.int .i64 8)], #[3, 3, 3]⟩⟩,
    ⟨none, some 9, .unOp .not 4 (.tmp 8)⟩,
    ⟨none, some 10, .move (.tmp 9)⟩,
    ⟨some (10, false), some 11, .fieldAddr 36 (.tmp 1) 1⟩,
    ⟨some (10, false), some 12, .load 34 (.tmp 11)⟩,
    ⟨some (10, false), some 13, .call ⟨.builtin .len, #[.tmp 12], #[34]⟩⟩,
    ⟨some (10, false), some 14, .call ⟨.value (.func 59), #[.tmp 13, .const (.int .i64 1), .const (.int .i64 6)], #[3, 3, 3]⟩⟩,
    ⟨some (10, false), some 15, .unOp .not 4 (.tmp 14)⟩,
    ⟨none, some 16, .pick (.tmp 10) (.const (.bool true)) (.tmp 15)⟩] [16]) (.cond (.tmp 16) (.seq (.reg [⟨none, some 2, .assign (.const (.bool false))⟩] [2]) (.ret)) (.skip))) (.seq (.seq (.reg [⟨none, some 3, .assign (.const (.int .i64 0))⟩] [3]) (.block 0 (.loop L0_s_IsNet))) (.seq (.reg [⟨none, some 2, .assign (.const (.bool true))⟩] [2]) (.ret))))
def L0_s_l29Set : CC :=
  .seq (.seq (.reg [⟨none, some 6, .move (.tmp 5)⟩,
    ⟨none, some 7, .move (.tmp 0)⟩,
    ⟨none, some 8, .call ⟨.builtin .len, #[.tmp 7], #[25]⟩⟩,
    ⟨none, some 9, .binOp .lss 3 (.tmp 6) (.tmp 8) 3⟩] [9]) (.cond (.tmp 9) (.skip) (.exit 0))) (.seq (.block 1 (.seq (.reg [⟨none, some 12, .move (.tmp 0)⟩,
    ⟨none, some 13, .move (.tmp 5)⟩,
    ⟨none, some 14, .indexAddr 25 (.tmp 12) (.tmp 13)⟩,
    ⟨none, some 15, .load 3 (.tmp 14)⟩,
    ⟨none, some 16, .move (.tmp 1)⟩,
    ⟨none, some 17, .binOp .sub 3 (.tmp 16) (.const (.int .i64 1)) 3⟩,
    ⟨none, some 18, .call ⟨.value (.func 59), #[.tmp 15, .const (.int .i64 0), .tmp 17], #[3, 3, 3]⟩⟩,
    ⟨none, some 19, .unOp .not 4 (.tmp 18)⟩,
    ⟨none, some 20, .move (.tmp 19)⟩,
    ⟨some (20, false), some 21, .move (.tmp 5)⟩,
    ⟨some (20, false), some 22, .binOp .gtr 3 (.tmp 21) (.const (.int .i64 0)) 3⟩,
    ⟨some (20, false), some 23, .move (.tmp 22)⟩,
    ⟨some (23, true), some 24, .move (.tmp 0)⟩,
    ⟨some (23, true), some 25, .move (.tmp 5)⟩,
    ⟨some (23, true), some 26, .binOp .sub 3 (.tmp 25) (.const (.int .i64 1)) 3⟩,
    ⟨some (23, true), some 27, .indexAddr 25 (.tmp 24) (.tmp 26)⟩,
    ⟨some (23, true), some 28, .load 3 (.tmp 27)⟩,
    ⟨some (23, true), some 29, .move (.tmp 0)⟩,
    ⟨some (23, true), some 30, .move (.tmp 5)⟩,
    ⟨some (23, true), some 31, .indexAddr 25 (.tmp 29) (.tmp 30)⟩,
    ⟨some (23, true), some 32, .load 3 (.tmp 31)⟩,
    ⟨some (23, true), some 33, .binOp .geq 3 (.tmp 28) (.tmp 32) 3⟩,
    ⟨some (20, false), some 34, .pick (.tmp 23) (.tmp 33) (.const (.bool false))⟩,
    ⟨none, some 35, .pick (.tmp 20) (.const (.bool true)) (.tmp 34)⟩] [35]) (.cond (.tmp 35) (.seq (.reg [⟨none, some 4, .assign (.const (.bool false))⟩] [4]) (.ret)) (.skip)))) (.reg [⟨none, some 10, .move (.tmp 5)⟩,
    ⟨none, some 11, .binOp .add 3 (.tmp 10) (.const (.int .i64 1)) 3⟩,
    ⟨none, some 5, .assign (.tmp 11)⟩] [5]))
def cc_s_l29Set : CC :=
  .seq (.reg [⟨none, some 4, .assign (.const (.bool false))⟩] [4]) (.seq (.seq (.reg [⟨none, some 5, .assign (.const (.int .i64 0))⟩] [5]) (.block 0 (.loop L0_s_l29Set))) (.seq (.reg [⟨none, some 4, .assign (.const (.bool true))⟩] [4]) (.ret)))
def L0_s_AreProbes : CC :=
  .seq (.seq (.reg [⟨none, some 6, .move (.tmp 5)⟩,
    ⟨none, some 7, .move (.tmp 1)⟩,
    ⟨none, some 8, .call ⟨.builtin .len, #[.tmp 7], #[37]⟩⟩,
    ⟨none, some 9, .binOp .lss 3 (.tmp 6) (.tmp 8) 3⟩] [9]) (.cond (.tmp 9) (.skip) (.exit 0))) (.seq (.block 1 (.seq (.reg [⟨none, some 12, .move (.tmp 1)⟩,
    ⟨none, some 13, .move (.tmp 5)⟩,
    ⟨none, some 14, .indexAddr 37 (.tmp 12) (.tmp 13)⟩,
    ⟨none, some 15, .fieldAddr 91 (.tmp 14) 2⟩,
    ⟨none, some 16, .load 25 (.tmp 15)⟩,
    ⟨none, some 17, .call ⟨.builtin .len, #[.tmp 16], #[25]⟩⟩,
    ⟨none, some 18, .binOp .eql 3 (.tmp 17) (.const (.int .i64 0)) 3⟩,
    ⟨none, some 19, .move (.tmp 18)⟩,
    ⟨some (19, false), some 20, .load 36 (.tmp 2)⟩,
    ⟨some (19, false), some 21, .move (.tmp 1)⟩,
    ⟨some (19, false), some 22, .move (.tmp 5)⟩,
    ⟨some (19, false), some 23, .indexAddr 37 (.tmp 21) (.tmp 22)⟩,
    ⟨some (19, false), some 24, .fieldAddr 91 (.tmp 23) 2⟩,
    ⟨some (19, false), some 25, .load 25 (.tmp 24)⟩,
    ⟨some (19, false), some 26, .move (.tmp 1)⟩,
    ⟨some (19, false), some 27, .move (.tmp 5)⟩,
    ⟨some (19, false), some 28, .indexAddr 37 (.tmp 26) (.tmp 27)⟩,
    ⟨some (19, false), some 29, .fieldAddr 91 (.tmp 28) 0⟩,
    ⟨some (19, false), some 30, .load 3 (.tmp 29)⟩,
    ⟨some (19, false), some 31, .move (.tmp 1)⟩,
    ⟨some (19, false), some 32, .move (.tmp 5)⟩,
    ⟨some (19, false), some 33, .indexAddr 37 (.tmp 31) (.tmp 32)⟩,
    ⟨some (19, false), some 34, .fieldAddr 91 (.tmp 33) 1⟩,
    ⟨some (19, false), some 35, .load 3 (.tmp 34)⟩,
    ⟨some (19, false), some 36, .call ⟨.value (.func 99), #[.tmp 20, .tmp 25, .tmp 30, .tmp 35], #[36, 25, 3, 3]⟩⟩,
    ⟨some (19, false), some 37, .unOp .not 4 (.tmp 36)⟩,
    ⟨none, some 38, .pick (.tmp 19) (.const (.bool true)) (.tmp 37)⟩] [38]) (.cond (.tmp 38) (.seq (.reg [⟨none, some 4, .assign (.const (.bool false))⟩] [4]) (.ret)) (.skip)))) (.reg [⟨none, some 10, .move (.tmp 5)⟩,
    ⟨none, some 11, .binOp .add 3 (.tmp 10) (.const (.int .i64 1)) 3⟩,
    ⟨none, some 5, .assign (.tmp 11)⟩] [5]))
def cc_s_AreProbes : CC :=
  .seq (.reg [⟨none, some 2, .box 36 (.tmp 0)⟩,
    ⟨none, some 4, .assign (.const (.bool false))⟩] [2, 4]) (.seq (.seq (.reg [⟨none, some 5, .assign (.const (.int .i64 0))⟩] [5]) (.block 0 (.loop L0_s_AreProbes))) (.seq (.reg [⟨none, some 39, .load 36 (.tmp 2)⟩,
    ⟨none, some 40, .call ⟨.value (.func 60), #[.tmp 39], #[36]⟩⟩,
    ⟨none, some 41, .move (.tmp 40)⟩,
    ⟨some (41, true), some 42, .move (.tmp 1)⟩,
    ⟨some (41, true), some 43, .call ⟨.builtin .len, #[.tmp 42], #[37]⟩⟩,
    ⟨some (41, true), some 44, .binOp .leq 3 (.tmp 43) (.const (.int .i64 12)) 3⟩,
    ⟨none, some 45, .pick (.tmp 41) (.tmp 44) (.const (.bool false))⟩,
    ⟨none, some 4, .assign (.tmp 45)⟩] [4]) (.ret)))
def cc_s_IsBucket : CC :=
  .seq (.reg [⟨none, some 1, .box 38 (.tmp 0)⟩,
    ⟨none, some 2, .assign (.const (.bool false))⟩] [1, 2]) (.seq (.reg [⟨none, some 3, .fieldAddr 38 (.tmp 1) 1⟩,
    ⟨none, some 4, .load 3 (.tmp 3)⟩,
    ⟨none, some 5, .call ⟨.value (.func 59), #[.tmp 4, .const (.int .i64 0), .const (.int .i64 1000)], #[3, 3, 3]⟩⟩,
    ⟨none, some 6, .move (.tmp 5)⟩,
    ⟨some (6, true), some 7, .fieldAddr 38 (.tmp 1) 2⟩,
    ⟨some (6, true), some 8, .load 3 (.tmp 7)⟩,
    ⟨some (6, true), some 9, .call ⟨.value (.func 59), #[.tmp 8, .const (.int .i64 0), .const (.int .i64 1000)], #[3, 3, 3]⟩⟩,
    ⟨none, some 10, .pick (.tmp 6) (.tmp 9) (.const (.bool false))⟩,
    ⟨none, some 11, .move (.tmp 10)⟩,
    ⟨some (11, true), some 12, .fieldAddr 38 (.tmp 1) 0⟩,
    ⟨some (11, true), some 13, .load 3 (.tmp 12)⟩,
    ⟨some (11, true), some 14, .fieldAddr 38 (.tmp 1) 1⟩,
    ⟨some (11, true), some 15, .load 3 (.tmp 14)⟩,
    ⟨some (11, true), some 16, .call ⟨.value (.func 59), #[.tmp 13, .const (.int .i64 0), .tmp 15], #[3, 3, 3]⟩⟩,
    ⟨none, some 17, .pick (.tmp 11) (.tmp 16) (.const (.bool false))⟩,
    ⟨none, some 18, .move (.tmp 17)⟩,
    ⟨some (18, true), some 19, .fieldAddr 38 (.tmp 1) 3⟩,
    ⟨some (18, true), some 20, .load 3 (.tmp 19)⟩,
    ⟨some (18, true), some 21, .call ⟨.value (.func 59), #[.tmp 20, .const (.int .i64 0), .const (.int .i64 100000)], #[3, 3, 3]⟩⟩,
    ⟨none, some 22, .pick (.tmp 18) (.tmp 21) (.const (.bool false))⟩,
    ⟨none, some 2, .assign (.tmp 22)⟩] [2]) (.ret))
def L0_s_AreSeen : CC :=
  .seq (.seq (.reg [⟨none, some 9, .move (.tmp 7)⟩,
    ⟨none, some 10, .move (.tmp 0)⟩,
    ⟨none, some 11, .call ⟨.builtin .len, #[.tmp 10], #[39]⟩⟩,
    ⟨none, some 12, .binOp .lss 3 (.tmp 9) (.tmp 11) 3⟩] [12]) (.cond (.tmp 12) (.skip) (.exit 0))) (.seq (.block 1 (.seq (.reg [⟨none, some 15, .move (.tmp 0)⟩,
    ⟨none, some 16, .move (.tmp 7)⟩,
    ⟨none, some 17, .indexAddr 39 (.tmp 15) (.tmp 16)⟩,
    ⟨none, some 18, .load 89 (.tmp 17)⟩,
    ⟨none, some 8, .alloc 89⟩,
    ⟨none, none, .store 89 (.tmp 8) (.tmp 18)⟩] [8]) (.seq (.seq (.reg [⟨none, some 19, .fieldAddr 89 (.tmp 8) 0⟩,
    ⟨none, some 20, .load 3 (.tmp 19)⟩,
    ⟨none, some 21, .binOp .lss 3 (.tmp 20) (.const (.int .i64 0)) 3⟩,
    ⟨none, some 22, .move (.tmp 21)⟩,
    ⟨some (22, false), some 23, .fieldAddr 89 (.tmp 8) 0⟩,
    ⟨some (22, false), some 24, .load 3 (.tmp 23)⟩,
    ⟨some (22, false), some 25, .move (.tmp 1)⟩,
    ⟨some (22, false), some 26, .binOp .geq 3 (.tmp 24) (.tmp 25) 3⟩,
    ⟨none, some 27, .pick (.tmp 22) (.const (.bool true)) (.tmp 26)⟩,
    ⟨none, some 28, .move (.tmp 27)⟩,
    ⟨some (28, false), some 29, .fieldAddr 89 (.tmp 8) 1⟩,
    ⟨some (28, false), some 30, .load 3 (.tmp 29)⟩,
    ⟨some (28, false), some 31, .call ⟨.value (.func 59), #[.tmp 30, .const (.int .i64 0), .const (.int .i64 5)], #[3, 3, 3]⟩⟩,
    ⟨some (28, false), some 32, .unOp .not 4 (.tmp 31)⟩,
    ⟨none, some 33, .pick (.tmp 28) (.const (.bool true)) (.tmp 32)⟩,
    ⟨none, some 34, .move (.tmp 33)⟩,
    ⟨some (34, false), some 35, .fieldAddr 89 (.tmp 8) 2⟩,
    ⟨some (34, false), some 36, .load 3 (.tmp 35)⟩,
    ⟨some (34, false), some 37, .move (.tmp 2)⟩,
    ⟨some (34, false), some 38, .call ⟨.value (.func 59), #[.tmp 36, .const (.int .i64 0), .tmp 37], #[3, 3, 3]⟩⟩,
    ⟨some (34, false), some 39, .unOp .not 4 (.tmp 38)⟩,
    ⟨none, some 40, .pick (.tmp 34) (.const (.bool true)) (.tmp 39)⟩,
    ⟨none, some 41, .move (.tmp 40)⟩,
    ⟨some (41, false), some 42, .fieldAddr 89 (.tmp 8) 3⟩,
    ⟨some (41, false), some 43, .load 3 (.tmp 42)⟩,
    ⟨some (41, false), some 44, .call ⟨.value (.func 59), #[.tmp 43, .const (.int .i64 0), .const (.int .i64 1000)], #[3, 3, 3]⟩⟩,
    ⟨some (41, false), some 45, .unOp .not 4 (.tmp 44)⟩,
    ⟨none, some 46, .pick (.tmp 41) (.const (.bool true)) (.tmp 45)⟩] [46]) (.cond (.tmp 46) (.seq (.reg [⟨none, some 6, .assign (.const (.bool false))⟩] [6]) (.ret)) (.skip))) (.seq (.reg [⟨none, some 47, .fieldAddr 89 (.tmp 8) 4⟩,
    ⟨none, some 48, .load 4 (.tmp 47)⟩,
    ⟨none, some 49, .move (.tmp 48)⟩,
    ⟨some (49, true), some 50, .fieldAddr 89 (.tmp 8) 3⟩,
    ⟨some (49, true), some 51, .load 3 (.tmp 50)⟩,
    ⟨some (49, true), some 52, .binOp .neq 3 (.tmp 51) (.const (.int .i64 0)) 3⟩,
    ⟨none, some 53, .pick (.tmp 49) (.tmp 52) (.const (.bool false))⟩,
    ⟨none, some 54, .move (.tmp 53)⟩,
    ⟨some (54, false), some 55, .move (.tmp 7)⟩,
    ⟨some (54, false), some 56, .binOp .gtr 3 (.tmp 55) (.const (.int .i64 0)) 3⟩,
    ⟨some (54, false), some 57, .move (.tmp 56)⟩,
    ⟨some (57, true), some 58, .move (.tmp 0)⟩,
    ⟨some (57, true), some 59, .move (.tmp 7)⟩,
    ⟨some (57, true), some 60, .binOp .sub 3 (.tmp 59) (.const (.int .i64 1)) 3⟩,
    ⟨some (57, true), some 61, .indexAddr 39 (.tmp 58) (.tmp 60)⟩,
    ⟨some (57, true), some 62, .fieldAddr 89 (.tmp 61) 2⟩,
    ⟨some (57, true), some 63, .load 3 (.tmp 62)⟩,
    ⟨some (57, true), some 64, .fieldAddr 89 (.tmp 8) 2⟩,
    ⟨some (57, true), some 65, .load 3 (.tmp 64)⟩,
    ⟨some (57, true), some 66, .binOp .gtr 3 (.tmp 63) (.tmp 65) 3⟩,
    ⟨some (54, false), some 67, .pick (.tmp 57) (.tmp 66) (.const (.bool false))⟩,
    ⟨none, some 68, .pick (.tmp 54) (.const (.bool true)) (.tmp 67)⟩] [68]) (.cond (.tmp 68) (.seq (.reg [⟨none, some 6, .assign (.const (.bool false))⟩] [6]) (.ret)) (.skip)))))) (.reg [⟨none, some 13, .move (.tmp 7)⟩,
    ⟨none, some 14, .binOp .add 3 (.tmp 13) (.const (.int .i64 1)) 3⟩,
    ⟨none, some 7, .assign (.tmp 14)⟩] [7]))
def cc_s_AreSeen : CC :=
  .seq (.reg [⟨none, some 6, .assign (.const (.bool false))⟩] [6]) (.seq (.seq (.reg [⟨none, some 7, .assign (.const (.int .i64 0))⟩] [7]) (.block 0 (.loop L0_s_AreSeen))) (.seq (.reg [⟨none, some 69, .move (.tmp 0)⟩,
    ⟨none, some 70, .call ⟨.builtin .len, #[.tmp 69], #[39]⟩⟩,
    ⟨none, some 71, .binOp .leq 3 (.tmp 70) (.const (.int .i64 60)) 3⟩,
    ⟨none, some 6, .assign (.tmp 71)⟩] [6]) (.ret)))
def L0_s_SeenAt : CC :=
  .seq (.seq (.reg [⟨none, some 25, .move (.tmp 8)⟩,
    ⟨none, some 26, .move (.tmp 0)⟩,
    ⟨none, some 27, .call ⟨.builtin .len, #[.tmp 26], #[39]⟩⟩,
    ⟨none, some 28, .binOp .lss 3 (.tmp 25) (.tmp 27) 3⟩,
    ⟨none, some 29, .move (.tmp 28)⟩,
    ⟨some (29, true), some 30, .move (.tmp 7)⟩,
    ⟨none, some 31, .pick (.tmp 29) (.tmp 30) (.const (.bool false))⟩] [31]) (.cond (.tmp 31) (.skip) (.exit 2))) (.seq (.block 3 (.reg [⟨none, some 34, .move (.tmp 0)⟩,
    ⟨none, some 35, .move (.tmp 8)⟩,
    ⟨none, some 36, .indexAddr 39 (.tmp 34) (.tmp 35)⟩,
    ⟨none, some 37, .fieldAddr 89 (.tmp 36) 0⟩,
    ⟨none, some 38, .load 3 (.tmp 37)⟩,
    ⟨none, some 39, .move (.tmp 0)⟩,
    ⟨none, some 40, .move (.tmp 6)⟩,
    ⟨none, some 41, .indexAddr 39 (.tmp 39) (.tmp 40)⟩,
    ⟨none, some 42, .fieldAddr 89 (.tmp 41) 0⟩,
    ⟨none, some 43, .load 3 (.tmp 42)⟩,
    ⟨none, some 44, .binOp .neq 3 (.tmp 38) (.tmp 43) 3⟩,
    ⟨none, some 7, .assign (.tmp 44)⟩] [7])) (.reg [⟨none, some 32, .move (.tmp 8)⟩,
    ⟨none, some 33, .binOp .add 3 (.tmp 32) (.const (.int .i64 1)) 3⟩,
    ⟨none, some 8, .assign (.tmp 33)⟩] [8]))
def L1_s_SeenAt : CC :=
  .seq (.seq (.reg [⟨none, some 10, .move (.tmp 6)⟩,
    ⟨none, some 11, .move (.tmp 0)⟩,
    ⟨none, some 12, .call ⟨.builtin .len, #[.tmp 11], #[39]⟩⟩,
    ⟨none, some 13, .binOp .lss 3 (.tmp 10) (.tmp 12) 3⟩] [13]) (.cond (.tmp 13) (.skip) (.exit 0))) (.seq (.block 1 (.seq (.reg [⟨none, some 16, .move (.tmp 0)⟩,
    ⟨none, some 17, .move (.tmp 6)⟩,
    ⟨none, some 18, .indexAddr 39 (.tmp 16) (.tmp 17)⟩,
    ⟨none, some 19, .fieldAddr 89 (.tmp 18) 2⟩,
    ⟨none, some 20, .load 3 (.tmp 19)⟩,
    ⟨none, some 21, .move (.tmp 1)⟩,
    ⟨none, some 22, .binOp .eql 3 (.tmp 20) (.tmp 21) 3⟩,
    ⟨none, some 7, .assign (.tmp 22)⟩] [7]) (.seq (.seq (.reg [⟨none, some 23, .move (.tmp 6)⟩,
    ⟨none, some 24, .binOp .add 3 (.tmp 23) (.const (.int .i64 1)) 3⟩,
    ⟨none, some 8, .assign (.tmp 24)⟩] [8]) (.block 2 (.loop L0_s_SeenAt))) (.seq (.reg [⟨none, some 45, .move (.tmp 7)⟩] [45]) (.cond (.tmp 45) (.reg [⟨none, some 46, .move (.tmp 5)⟩,
    ⟨none, some 47, .move (.tmp 6)⟩,
    ⟨none, some 48, .buildSlice 25 1 #[(0, .tmp 47)]⟩,
    ⟨none, some 49, .call ⟨.builtin .append, #[.tmp 46, .tmp 48], #[25, 25]⟩⟩,
    ⟨none, some 5, .assign (.tmp 49)⟩] [5]) (.skip)))))) (.reg [⟨none, some 14, .move (.tmp 6)⟩,
    ⟨none, some 15, .binOp .add 3 (.tmp 14) (.const (.int .i64 1)) 3⟩,
    ⟨none, some 6, .assign (.tmp 15)⟩] [6]))
def cc_s_SeenAt : CC :=
  .seq (.reg [⟨none, some 4, .assign (.const (.slice none 0 0))⟩] [4]) (.seq (.reg [⟨none, some 9, .buildSlice 25 0 #[]⟩,
    ⟨none, some 5, .assign (.tmp 9)⟩] [5]) (.seq (.seq (.reg [⟨none, some 6, .assign (.const (.int .i64 0))⟩] [6]) (.block 0 (.loop L1_s_SeenAt))) (.seq (.reg [⟨none, some 50, .move (.tmp 5)⟩,
    ⟨none, some 4, .assign (.tmp 50)⟩] [4]) (.ret))))
def L0_s_RowOf : CC :=
  .seq (.seq (.reg [⟨none, some 13, .move (.tmp 6)⟩,
    ⟨none, some 14, .move (.tmp 1)⟩,
    ⟨none, some 15, .binOp .lss 3 (.tmp 13) (.tmp 14) 3⟩] [15]) (.cond (.tmp 15) (.skip) (.exit 0))) (.seq (.block 1 (.seq (.reg [⟨none, some 7, .assign (.const (.int .i64 0))⟩] [7]) (.seq (.seq (.reg [⟨none, some 18, .move (.tmp 0)⟩,
    ⟨none, some 19, .move (.tmp 6)⟩,
    ⟨none, some 20, .call ⟨.value (.func 100), #[.tmp 18, .tmp 19], #[25, 3]⟩⟩] [20]) (.cond (.tmp 20) (.reg [⟨none, some 7, .assign (.const (.int .i64 1))⟩] [7]) (.skip))) (.reg [⟨none, some 21, .move (.tmp 5)⟩,
    ⟨none, some 22, .move (.tmp 7)⟩,
    ⟨none, some 23, .buildSlice 25 1 #[(0, .tmp 22)]⟩,
    ⟨none, some 24, .call ⟨.builtin .append, #[.tmp 21, .tmp 23], #[25, 25]⟩⟩,
    ⟨none, some 5, .assign (.tmp 24)⟩] [5])))) (.reg [⟨none, some 16, .move (.tmp 6)⟩,
    ⟨none, some 17, .binOp .add 3 (.tmp 16) (.const (.int .i64 1)) 3⟩,
    ⟨none, some 6, .assign (.tmp 17)⟩] [6]))
def cc_s_RowOf : CC :=
  .seq (.reg [⟨none, some 4, .assign (.const (.slice none 0 0))⟩] [4]) (.seq (.reg [⟨none, some 8, .buildSlice 25 0 #[]⟩,
    ⟨none, some 5, .assign (.tmp 8)⟩] [5]) (.seq (.seq (.reg [⟨none, some 9, .move (.tmp 1)⟩,
    ⟨none, some 10, .call ⟨.value (.func 59), #[.tmp 9, .const (.int .i64 1), .const (.int .i64 6)], #[3, 3, 3]⟩⟩,
    ⟨none, some 11, .unOp .not 4 (.tmp 10)⟩] [11]) (.cond (.tmp 11) (.seq (.reg [⟨none, some 12, .move (.tmp 5)⟩,
    ⟨none, some 4, .assign (.tmp 12)⟩] [4]) (.ret)) (.skip))) (.seq (.seq (.reg [⟨none, some 6, .assign (.const (.int .i64 0))⟩] [6]) (.block 0 (.loop L0_s_RowOf))) (.seq (.reg [⟨none, some 25, .move (.tmp 5)⟩,
    ⟨none, some 4, .assign (.tmp 25)⟩] [4]) (.ret)))))
def L0_s_IsMatrix : CC :=
  .seq (.seq (.reg [⟨none, some 28, .move (.tmp 6)⟩,
    ⟨none, some 29, .move (.tmp 1)⟩,
    ⟨none, some 30, .binOp .lss 3 (.tmp 28) (.tmp 29) 3⟩] [30]) (.cond (.tmp 30) (.skip) (.exit 2))) (.seq (.block 3 (.seq (.reg [⟨none, some 33, .move (.tmp 0)⟩,
    ⟨none, some 34, .move (.tmp 5)⟩,
    ⟨none, some 35, .indexAddr 47 (.tmp 33) (.tmp 34)⟩,
    ⟨none, some 36, .load 25 (.tmp 35)⟩,
    ⟨none, some 37, .move (.tmp 6)⟩,
    ⟨none, some 38, .indexAddr 25 (.tmp 36) (.tmp 37)⟩,
    ⟨none, some 39, .load 3 (.tmp 38)⟩,
    ⟨none, some 40, .call ⟨.value (.func 59), #[.tmp 39, .const (.int .i64 (-2)), .const (.int .i64 2)], #[3, 3, 3]⟩⟩,
    ⟨none, some 41, .unOp .not 4 (.tmp 40)⟩] [41]) (.cond (.tmp 41) (.seq (.reg [⟨none, some 4, .assign (.const (.bool false))⟩] [4]) (.ret)) (.skip)))) (.reg [⟨none, some 31, .move (.tmp 6)⟩,
    ⟨none, some 32, .binOp .add 3 (.tmp 31) (.const (.int .i64 1)) 3⟩,
    ⟨none, some 6, .assign (.tmp 32)⟩] [6]))
def L1_s_IsMatrix : CC :=
  .seq (.seq (.reg [⟨none, some 15, .move (.tmp 5)⟩,
    ⟨none, some 16, .move (.tmp 0)⟩,
    ⟨none, some 17, .call ⟨.builtin .len, #[.tmp 16], #[47]⟩⟩,
    ⟨none, some 18, .binOp .lss 3 (.tmp 15) (.tmp 17) 3⟩] [18]) (.cond (.tmp 18) (.skip) (.exit 0))) (.seq (.block 1 (.seq (.seq (.reg [⟨none, some 21, .move (.tmp 0)⟩,
    ⟨none, some 22, .move (.tmp 5)⟩,
    ⟨none, some 23, .indexAddr 47 (.tmp 21) (.tmp 22)⟩,
    ⟨none, some 24, .load 25 (.tmp 23)⟩,
    ⟨none, some 25, .call ⟨.builtin .len, #[.tmp 24], #[25]⟩⟩,
    ⟨none, some 26, .move (.tmp 1)⟩,
    ⟨none, some 27, .binOp .neq 3 (.tmp 25) (.tmp 26) 3⟩] [27]) (.cond (.tmp 27) (.seq (.reg [⟨none, some 4, .assign (.const (.bool false))⟩] [4]) (.ret)) (.skip))) (.seq (.reg [⟨none, some 6, .assign (.const (.int .i64 0))⟩] [6]) (.block 2 (.loop L0_s_IsMatrix))))) (.reg [⟨none, some 19, .move (.tmp 5)⟩,
    ⟨none, some 20, .binOp .add 3 (.tmp 19) (.const (.int .i64 1)) 3⟩,
    ⟨none, some 5, .assign (.tmp 20)⟩] [5]))
def cc_s_IsMatrix : CC :=
  .seq (.reg [⟨none, some 4, .assign (.const (.bool false))⟩] [4]) (.seq (.seq (.reg [⟨none, some 7, .move (.tmp 1)⟩,
    ⟨none, some 8, .call ⟨.value (.func 59), #[.tmp 7, .const (.int .i64 1), .const (.int .i64 6)], #[3, 3, 3]⟩⟩,
    ⟨none, some 9, .unOp .not 4 (.tmp 8)⟩,
    ⟨none, some 10, .move (.tmp 9)⟩,
    ⟨some (10, false), some 11, .move (.tmp 0)⟩,
    ⟨some (10, false), some 12, .call ⟨.builtin .len, #[.tmp 11], #[47]⟩⟩,
    ⟨some (10, false), some 13, .binOp .gtr 3 (.tmp 12) (.const (.int .i64 12)) 3⟩,
    ⟨none, some 14, .pick (.tmp 10) (.const (.bool true)) (.tmp 13)⟩] [14]) (.cond (.tmp 14) (.seq (.reg [⟨none, some 4, .assign (.const (.bool false))⟩] [4]) (.ret)) (.skip))) (.seq (.seq (.reg [⟨none, some 5, .assign (.const (.int .i64 0))⟩] [5]) (.block 0 (.loop L1_s_IsMatrix))) (.seq (.reg [⟨none, some 4, .assign (.const (.bool true))⟩] [4]) (.ret))))
def L0_s_l15Bits : CC :=
  .seq (.seq (.reg [⟨none, some 11, .move (.tmp 4)⟩,
    ⟨none, some 12, .move (.tmp 0)⟩,
    ⟨none, some 13, .move (.tmp 3)⟩,
    ⟨none, some 14, .indexAddr 47 (.tmp 12) (.tmp 13)⟩,
    ⟨none, some 15, .load 25 (.tmp 14)⟩,
    ⟨none, some 16, .call ⟨.builtin .len, #[.tmp 15], #[25]⟩⟩,
    ⟨none, some 17, .binOp .lss 3 (.tmp 11) (.tmp 16) 3⟩] [17]) (.cond (.tmp 17) (.skip) (.exit 2))) (.seq (.block 3 (.seq (.reg [⟨none, some 20, .move (.tmp 0)⟩,
    ⟨none, some 21, .move (.tmp 3)⟩,
    ⟨none, some 22, .indexAddr 47 (.tmp 20) (.tmp 21)⟩,
    ⟨none, some 23, .load 25 (.tmp 22)⟩,
    ⟨none, some 24, .move (.tmp 4)⟩,
    ⟨none, some 25, .indexAddr 25 (.tmp 23) (.tmp 24)⟩,
    ⟨none, some 26, .load 3 (.tmp 25)⟩,
    ⟨none, some 27, .call ⟨.value (.func 59), #[.tmp 26, .const (.int .i64 0), .const (.int .i64 1)], #[3, 3, 3]⟩⟩,
    ⟨none, some 28, .unOp .not 4 (.tmp 27)⟩] [28]) (.cond (.tmp 28) (.seq (.reg [⟨none, some 2, .assign (.const (.bool false))⟩] [2]) (.ret)) (.skip)))) (.reg [⟨none, some 18, .move (.tmp 4)⟩,
    ⟨none, some 19, .binOp .add 3 (.tmp 18) (.const (.int .i64 1)) 3⟩,
    ⟨none, some 4, .assign (.tmp 19)⟩] [4]))
def L1_s_l15Bits : CC :=
  .seq (.seq (.reg [⟨none, some 5, .move (.tmp 3)⟩,
    ⟨none, some 6, .move (.tmp 0)⟩,
    ⟨none, some 7, .call ⟨.builtin .len, #[.tmp 6], #[47]⟩⟩,
    ⟨none, some 8, .binOp .lss 3 (.tmp 5) (.tmp 7) 3⟩] [8]) (.cond (.tmp 8) (.skip) (.exit 0))) (.seq (.block 1 (.seq (.reg [⟨none, some 4, .assign (.const (.int .i64 0))⟩] [4]) (.block 2 (.loop L0_s_l15Bits)))) (.reg [⟨none, some 9, .move (.tmp 3)⟩,
    ⟨none, some 10, .binOp .add 3 (.tmp 9) (.const (.int .i64 1)) 3⟩,
    ⟨none, some 3, .assign (.tmp 10)⟩] [3]))
def cc_s_l15Bits : CC :=
  .seq (.reg [⟨none, some 2, .assign (.const (.bool false))⟩] [2]) (.seq (.seq (.reg [⟨none, some 3, .assign (.const (.int .i64 0))⟩] [3]) (.block 0 (.loop L1_s_l15Bits))) (.seq (.reg [⟨none, some 2, .assign (.const (.bool true))⟩] [2]) (.ret)))
def L0_w_toLinkS : CC :=
  .seq (.seq (.reg [⟨none, some 8, .move (.tmp 4)⟩,
    ⟨none, some 9, .move (.tmp 0)⟩,
    ⟨none, some 10, .call ⟨.builtin .len, #[.tmp 9], #[22]⟩⟩,
    ⟨none, some 11, .binOp .lss 3 (.tmp 8) (.tmp 10) 3⟩] [11]) (.cond (.tmp 11) (.skip) (.exit 0))) (.seq (.block 1 (.reg [⟨none, some 14, .move (.tmp 3)⟩,
    ⟨none, some 15, .move (.tmp 4)⟩,
    ⟨none, some 16, .move (.tmp 0)⟩,
    ⟨none, some 17, .move (.tmp 4)⟩,
    ⟨none, some 18, .indexAddr 22 (.tmp 16) (.tmp 17)⟩,
    ⟨none, some 19, .load 113 (.tmp 18)⟩,
    ⟨none, some 20, .call ⟨.value (.func 101), #[.tmp 19], #[113]⟩⟩,
    ⟨none, some 21, .indexAddr 34 (.tmp 14) (.tmp 15)⟩,
    ⟨none, none, .store 109 (.tmp 21) (.tmp 20)⟩] [])) (.reg [⟨none, some 12, .move (.tmp 4)⟩,
    ⟨none, some 13, .binOp .add 3 (.tmp 12) (.const (.int .i64 1)) 3⟩,
    ⟨none, some 4, .assign (.tmp 13)⟩] [4]))
def cc_w_toLinkS : CC :=
  .seq (.reg [⟨none, some 2, .assign (.const (.slice none 0 0))⟩] [2]) (.seq (.reg [⟨none, some 5, .move (.tmp 0)⟩,
    ⟨none, some 6, .call ⟨.builtin .len, #[.tmp 5], #[22]⟩⟩,
    ⟨none, some 7, .makeSlice 34 (.tmp 6) (.tmp 6)⟩,
    ⟨none, some 3, .assign (.tmp 7)⟩] [3]) (.seq (.seq (.reg [⟨none, some 4, .assign (.const (.int .i64 0))⟩] [4]) (.block 0 (.loop L0_w_toLinkS))) (.seq (.reg [⟨none, some 22, .move (.tmp 3)⟩,
    ⟨none, some 2, .assign (.tmp 22)⟩] [2]) (.ret))))
def cc_w_toProbe : CC :=
  .seq (.reg [⟨none, some 1, .box 80 (.tmp 0)⟩,
    ⟨none, some 2, .alloc 91⟩] [1, 2]) (.seq (.reg [⟨none, some 3, .alloc 91⟩] [3]) (.seq (.reg [⟨none, some 4, .fieldAddr 80 (.tmp 1) 0⟩,
    ⟨none, some 5, .load 3 (.tmp 4)⟩,
    ⟨none, some 6, .fieldAddr 91 (.tmp 3) 0⟩,
    ⟨none, none, .store 3 (.tmp 6) (.tmp 5)⟩] []) (.seq (.reg [⟨none, some 7, .fieldAddr 80 (.tmp 1) 1⟩,
    ⟨none, some 8, .load 3 (.tmp 7)⟩,
    ⟨none, some 9, .fieldAddr 91 (.tmp 3) 1⟩,
    ⟨none, none, .store 3 (.tmp 9) (.tmp 8)⟩] []) (.seq (.reg [⟨none, some 10, .fieldAddr 80 (.tmp 1) 2⟩,
    ⟨none, some 11, .load 25 (.tmp 10)⟩,
    ⟨none, some 12, .call ⟨.value (.func 30), #[.tmp 11], #[25]⟩⟩,
    ⟨none, some 13, .fieldAddr 91 (.tmp 3) 2⟩,
    ⟨none, none, .store 25 (.tmp 13) (.tmp 12)⟩] []) (.seq (.reg [⟨none, some 14, .load 91 (.tmp 3)⟩,
    ⟨none, none, .store 91 (.tmp 2) (.tmp 14)⟩] []) (.ret))))))
def cc_w_toSeen : CC :=
  .seq (.reg [⟨none, some 1, .box 98 (.tmp 0)⟩,
    ⟨none, some 2, .alloc 89⟩] [1, 2]) (.seq (.reg [⟨none, some 3, .alloc 89⟩] [3]) (.seq (.reg [⟨none, some 4, .fieldAddr 98 (.tmp 1) 0⟩,
    ⟨none, some 5, .load 3 (.tmp 4)⟩,
    ⟨none, some 6, .fieldAddr 89 (.tmp 3) 0⟩,
    ⟨none, none, .store 3 (.tmp 6) (.tmp 5)⟩] []) (.seq (.reg [⟨none, some 7, .fieldAddr 98 (.tmp 1) 1⟩,
    ⟨none, some 8, .load 3 (.tmp 7)⟩,
    ⟨none, some 9, .fieldAddr 89 (.tmp 3) 1⟩,
    ⟨none, none, .store 3 (.tmp 9) (.tmp 8)⟩] []) (.seq (.reg [⟨none, some 10, .fieldAddr 98 (.tmp 1) 2⟩,
    ⟨none, some 11, .load 3 (.tmp 10)⟩,
    ⟨none, some 12, .fieldAddr 89 (.tmp 3) 2⟩,
    ⟨none, none, .store 3 (.tmp 12) (.tmp 11)⟩] []) (.seq (.reg [⟨none, some 13, .fieldAddr 98 (.tmp 1) 3⟩,
    ⟨none, some 14, .load 3 (.tmp 13)⟩,
    ⟨none, some 15, .fieldAddr 89 (.tmp 3) 3⟩,
    ⟨none, none, .store 3 (.tmp 15) (.tmp 14)⟩] []) (.seq (.reg [⟨none, some 16, .fieldAddr 98 (.tmp 1) 4⟩,
    ⟨none, some 17, .load 4 (.tmp 16)⟩,
    ⟨none, some 18, .fieldAddr 89 (.tmp 3) 4⟩,
    ⟨none, none, .store 4 (.tmp 18) (.tmp 17)⟩] []) (.seq (.reg [⟨none, some 19, .load 89 (.tmp 3)⟩,
    ⟨none, none, .store 89 (.tmp 2) (.tmp 19)⟩] []) (.ret))))))))
def L0_i_IsNet : CC :=
  .seq (.reg [⟨none, some 20, .binOp .lss 3 (.tmp 19) (.tmp 18) 3⟩] [20]) (.seq (.cond (.tmp 20) (.skip) (.exit 0)) (.seq (.block 1 (.seq (.reg [⟨none, some 21, .move (.tmp 19)⟩,
    ⟨none, some 22, .indexAddr 34 (.tmp 17) (.tmp 19)⟩,
    ⟨none, some 23, .load 109 (.tmp 22)⟩,
    ⟨none, some 4, .alloc 109⟩,
    ⟨none, some 3, .assign (.tmp 21)⟩,
    ⟨none, none, .store 109 (.tmp 4) (.tmp 23)⟩] [4, 3]) (.seq (.reg [⟨none, some 24, .fieldAddr 109 (.tmp 4) 0⟩,
    ⟨none, some 25, .load 3 (.tmp 24)⟩,
    ⟨none, some 26, .fieldAddr 109 (.tmp 4) 1⟩,
    ⟨none, some 27, .load 3 (.tmp 26)⟩,
    ⟨none, some 28, .binOp .eql 3 (.tmp 25) (.tmp 27) 3⟩,
    ⟨none, some 29, .move (.tmp 28)⟩,
    ⟨some (29, false), some 30, .fieldAddr 109 (.tmp 4) 0⟩,
    ⟨some (29, false), some 31, .load 3 (.tmp 30)⟩,
    ⟨some (29, false), some 32, .fieldAddr 36 (.tmp 1) 0⟩,
    ⟨some (29, false), some 33, .load 3 (.tmp 32)⟩,
    ⟨some (29, false), some 34, .call ⟨.value (.func 102), #[.tmp 31, .tmp 33], #[3, 3]⟩⟩,
    ⟨some (29, false), some 35, .unOp .not 4 (.tmp 34)⟩,
    ⟨none, some 36, .pick (.tmp 29) (.const (.bool true)) (.tmp 35)⟩,
    ⟨none, some 37, .move (.tmp 36)⟩,
    ⟨some (37, false), some 38, .fieldAddr 109 (.tmp 4) 1⟩,
    ⟨some (37, false), some 39, .load 3 (.tmp 38)⟩,
    ⟨some (37, false), some 40, .fieldAddr 36 (.tmp 1) 0⟩,
    ⟨some (37, false), some 41, .load 3 (.tmp 40)⟩,
    ⟨some (37, false), some 42, .call ⟨.value (.func 102), #[.tmp 39, .tmp 41], #[3, 3]⟩⟩,
    ⟨some (37, false), some 43, .unOp .not 4 (.tmp 42)⟩,
    ⟨none, some 44, .pick (.tmp 37) (.const (.bool true)) (.tmp 43)⟩,
    ⟨none, some 45, .move (.tmp 44)⟩,
    ⟨some (45, false), some 46, .load 36 (.tmp 1)⟩,
    ⟨some (45, false), some 47, .fieldAddr 109 (.tmp 4) 0⟩,
    ⟨some (45, false), some 48, .load 3 (.tmp 47)⟩,
    ⟨some (45, false), some 49, .fieldAddr 109 (.tmp 4) 1⟩,
    ⟨some (45, false), some 50, .load 3 (.tmp 49)⟩,
    ⟨some (45, false), some 51, .call ⟨.value (.func 103), #[.tmp 46, .tmp 48, .tmp 50], #[36, 3, 3]⟩⟩,
    ⟨some (45, false), some 52, .move (.tmp 3)⟩,
    ⟨some (45, false), some 53, .binOp .neq 3 (.tmp 51) (.tmp 52) 3⟩,
    ⟨none, some 54, .pick (.tmp 45) (.const (.bool true)) (.tmp 53)⟩] [54]) (.cond (.tmp 54) (.seq (.reg [⟨none, some 2, .assign (.const (.bool false))⟩] [2]) (.ret)) (.skip))))) (.reg [⟨none, some 55, .binOp .add 3 (.tmp 19) (.const (.int .i64 1)) 3⟩,
    ⟨none, some 19, .move (.tmp 55)⟩] [19])))
def cc_i_IsNet : CC :=
  .seq (.reg [⟨none, some 1, .box 36 (.tmp 0)⟩,
    ⟨none, some 2, .assign (.const (.bool false))⟩] [1, 2]) (.seq (.seq (.reg [⟨none, some 5, .fieldAddr 36 (.tmp 1) 0⟩,
    ⟨none, some 6, .load 3 (.tmp 5)⟩,
    ⟨none, some 7, .call ⟨.value (.func 79), #[.tmp 6, .const (.int .i64 1), .const (.int .i64 8)], #[3, 3, 3]⟩⟩,
    ⟨none, some 8, .unOp .not 4 (.tmp 7)⟩,
    ⟨none, some 9, .move (.tmp 8)⟩,
    ⟨some (9, false), some 10, .fieldAddr 36 (.tmp 1) 1⟩,
    ⟨some (9, false), some 11, .load 34 (.tmp 10)⟩,
    ⟨some (9, false), some 12, .call ⟨.builtin .len, #[.tmp 11], #[34]⟩⟩,
    ⟨some (9, false), some 13, .call ⟨.value (.func 79), #[.tmp 12, .const (.int .i64 1), .const (.int .i64 6)], #[3, 3, 3]⟩⟩,
    ⟨some (9, false), some 14, .unOp .not 4 (.tmp 13)⟩,
    ⟨none, some 15, .pick (.tmp 9) (.const (.bool true)) (.tmp 14)⟩] [15]) (.cond (.tmp 15) (.seq (.reg [⟨none, some 2, .assign (.const (.bool false))⟩] [2]) (.ret)) (.skip))) (.seq (.seq (.reg [⟨none, some 16, .fieldAddr 36 (.tmp 1) 1⟩,
    ⟨none, some 17, .load 34 (.tmp 16)⟩,
    ⟨none, some 18, .call ⟨.builtin .len, #[.tmp 17], #[34]⟩⟩,
    ⟨none, some 19, .move (.const (.int .i64 0))⟩] [17, 18, 19]) (.block 0 (.loop L0_i_IsNet))) (.seq (.reg [⟨none, some 2, .assign (.const (.bool true))⟩] [2]) (.ret))))
def L0_i_allIn : CC :=
  .seq (.reg [⟨none, some 12, .binOp .lss 3 (.tmp 11) (.tmp 10) 3⟩] [12]) (.seq (.cond (.tmp 12) (.skip) (.exit 0)) (.seq (.block 1 (.seq (.reg [⟨none, some 13, .indexAddr 25 (.tmp 9) (.tmp 11)⟩,
    ⟨none, some 14, .load 3 (.tmp 13)⟩,
    ⟨none, some 8, .assign (.tmp 14)⟩] [8]) (.seq (.reg [⟨none, some 15, .move (.tmp 8)⟩,
    ⟨none, some 16, .move (.tmp 1)⟩,
    ⟨none, some 17, .move (.tmp 2)⟩,
    ⟨none, some 18, .call ⟨.value (.func 79), #[.tmp 15, .tmp 16, .tmp 17], #[3, 3, 3]⟩⟩,
    ⟨none, some 19, .unOp .not 4 (.tmp 18)⟩] [19]) (.cond (.tmp 19) (.seq (.reg [⟨none, some 6, .assign (.const (.bool false))⟩] [6]) (.ret)) (.skip))))) (.reg [⟨none, some 20, .binOp .add 3 (.tmp 11) (.const (.int .i64 1)) 3⟩,
    ⟨none, some 11, .move (.tmp 20)⟩] [11])))
def cc_i_allIn : CC :=
  .seq (.reg [⟨none, some 6, .assign (.const (.bool false))⟩] [6]) (.seq (.seq (.reg [⟨none, some 9, .move (.tmp 0)⟩,
    ⟨none, some 10, .call ⟨.builtin .len, #[.tmp 9], #[25]⟩⟩,
    ⟨none, some 11, .move (.const (.int .i64 0))⟩] [9, 10, 11]) (.block 0 (.loop L0_i_allIn))) (.seq (.reg [⟨none, some 6, .assign (.const (.bool true))⟩] [6]) (.ret)))
def cc_i_isSet : CC :=
  .seq (.reg [⟨none, some 4, .assign (.const (.bool false))⟩] [4]) (.seq (.reg [⟨none, some 5, .move (.tmp 0)⟩,
    ⟨none, some 6, .move (.tmp 1)⟩,
    ⟨none, some 7, .binOp .sub 3 (.tmp 6) (.const (.int .i64 1)) 3⟩,
    ⟨none, some 8, .call ⟨.value (.func 74), #[.tmp 5, .const (.int .i64 0), .tmp 7], #[25, 3, 3]⟩⟩,
    ⟨none, some 9, .move (.tmp 8)⟩,
    ⟨some (9, true), some 10, .move (.tmp 0)⟩,
    ⟨some (9, true), some 11, .call ⟨.value (.func 105), #[.tmp 10], #[25]⟩⟩,
    ⟨some (9, true), some 12, .move (.tmp 0)⟩,
    ⟨some (9, true), some 13, .call ⟨.value (.func 104), #[.tmp 11, .tmp 12], #[25, 25]⟩⟩,
    ⟨none, some 14, .pick (.tmp 9) (.tmp 13) (.const (.bool false))⟩,
    ⟨none, some 4, .assign (.tmp 14)⟩] [4]) (.ret))
def cc_i_AreProbes : CC :=
  .seq (.reg [⟨none, some 2, .box 36 (.tmp 0)⟩,
    ⟨none, some 4, .assign (.const (.bool false))⟩] [2, 4]) (.seq (.reg [⟨none, some 5, .load 36 (.tmp 2)⟩,
    ⟨none, some 6, .call ⟨.value (.func 73), #[.tmp 5], #[36]⟩⟩,
    ⟨none, some 7, .move (.tmp 6)⟩,
    ⟨some (7, true), some 8, .move (.tmp 1)⟩,
    ⟨some (7, true), some 9, .call ⟨.builtin .len, #[.tmp 8], #[37]⟩⟩,
    ⟨some (7, true), some 10, .binOp .leq 3 (.tmp 9) (.const (.int .i64 12)) 3⟩,
    ⟨none, some 11, .pick (.tmp 7) (.tmp 10) (.const (.bool false))⟩,
    ⟨none, some 12, .move (.tmp 11)⟩,
    ⟨some (12, true), some 13, .move (.tmp 1)⟩,
    ⟨some (12, true), some 14, .makeFunc (.func 107) #[] #[.tmp 2]⟩,
    ⟨some (12, true), some 15, .call ⟨.value (.func 106), #[.tmp 13, .tmp 14], #[37, 116]⟩⟩,
    ⟨some (12, true), some 16, .unOp .not 4 (.tmp 15)⟩,
    ⟨none, some 17, .pick (.tmp 12) (.tmp 16) (.const (.bool false))⟩,
    ⟨none, some 4, .assign (.tmp 17)⟩] [4]) (.ret))
def cc_i_IsBucket : CC :=
  .seq (.reg [⟨none, some 1, .box 38 (.tmp 0)⟩,
    ⟨none, some 2, .assign (.const (.bool false))⟩] [1, 2]) (.seq (.reg [⟨none, some 3, .fieldAddr 38 (.tmp 1) 1⟩,
    ⟨none, some 4, .load 3 (.tmp 3)⟩,
    ⟨none, some 5, .call ⟨.value (.func 79), #[.tmp 4, .const (.int .i64 0), .const (.int .i64 1000)], #[3, 3, 3]⟩⟩,
    ⟨none, some 6, .move (.tmp 5)⟩,
    ⟨some (6, true), some 7, .fieldAddr 38 (.tmp 1) 2⟩,
    ⟨some (6, true), some 8, .load 3 (.tmp 7)⟩,
    ⟨some (6, true), some 9, .call ⟨.value (.func 79), #[.tmp 8, .const (.int .i64 0), .const (.int .i64 1000)], #[3, 3, 3]⟩⟩,
    ⟨none, some 10, .pick (.tmp 6) (.tmp 9) (.const (.bool false))⟩,
    ⟨none, some 11, .move (.tmp 10)⟩,
    ⟨some (11, true), some 12, .fieldAddr 38 (.tmp 1) 0⟩,
    ⟨some (11, true), some 13, .load 3 (.tmp 12)⟩,
    ⟨some (11, true), some 14, .fieldAddr 38 (.tmp 1) 1⟩,
    ⟨some (11, true), some 15, .load 3 (.tmp 14)⟩,
    ⟨some (11, true), some 16, .call ⟨.value (.func 79), #[.tmp 13, .const (.int .i64 0), .tmp 15], #[3, 3, 3]⟩⟩,
    ⟨none, some 17, .pick (.tmp 11) (.tmp 16) (.const (.bool false))⟩,
    ⟨none, some 18, .move (.tmp 17)⟩,
    ⟨some (18, true), some 19, .fieldAddr 38 (.tmp 1) 3⟩,
    ⟨some (18, true), some 20, .load 3 (.tmp 19)⟩,
    ⟨some (18, true), some 21, .call ⟨.value (.func 79), #[.tmp 20, .const (.int .i64 0), .const (.int .i64 100000)], #[3, 3, 3]⟩⟩,
    ⟨none, some 22, .pick (.tmp 18) (.tmp 21) (.const (.bool false))⟩,
    ⟨none, some 2, .assign (.tmp 22)⟩] [2]) (.ret))
def L0_i_AreSeen : CC :=
  .seq (.reg [⟨none, some 16, .binOp .lss 3 (.tmp 15) (.tmp 14) 3⟩] [16]) (.seq (.cond (.tmp 16) (.skip) (.exit 0)) (.seq (.block 1 (.seq (.reg [⟨none, some 17, .indexAddr 39 (.tmp 13) (.tmp 15)⟩,
    ⟨none, some 18, .load 89 (.tmp 17)⟩,
    ⟨none, some 9, .alloc 89⟩,
    ⟨none, none, .store 89 (.tmp 9) (.tmp 18)⟩] [9]) (.seq (.seq (.reg [⟨none, some 19, .fieldAddr 89 (.tmp 9) 0⟩,
    ⟨none, some 20, .load 3 (.tmp 19)⟩,
    ⟨none, some 21, .move (.tmp 1)⟩,
    ⟨none, some 22, .call ⟨.value (.func 102), #[.tmp 20, .tmp 21], #[3, 3]⟩⟩,
    ⟨none, some 23, .unOp .not 4 (.tmp 22)⟩,
    ⟨none, some 24, .move (.tmp 23)⟩,
    ⟨some (24, false), some 25, .fieldAddr 89 (.tmp 9) 1⟩,
    ⟨some (24, false), some 26, .load 3 (.tmp 25)⟩,
    ⟨some (24, false), some 27, .call ⟨.value (.func 102), #[.tmp 26, .const (.int .i64 6)], #[3, 3]⟩⟩,
    ⟨some (24, false), some 28, .unOp .not 4 (.tmp 27)⟩,
    ⟨none, some 29, .pick (.tmp 24) (.const (.bool true)) (.tmp 28)⟩,
    ⟨none, some 30, .move (.tmp 29)⟩,
    ⟨some (30, false), some 31, .fieldAddr 89 (.tmp 9) 2⟩,
    ⟨some (30, false), some 32, .load 3 (.tmp 31)⟩,
    ⟨some (30, false), some 33, .move (.tmp 7)⟩,
    ⟨some (30, false), some 34, .move (.tmp 2)⟩,
    ⟨some (30, false), some 35, .call ⟨.value (.func 79), #[.tmp 32, .tmp 33, .tmp 34], #[3, 3, 3]⟩⟩,
    ⟨some (30, false), some 36, .unOp .not 4 (.tmp 35)⟩,
    ⟨none, some 37, .pick (.tmp 30) (.const (.bool true)) (.tmp 36)⟩,
    ⟨none, some 38, .move (.tmp 37)⟩,
    ⟨some (38, false), some 39, .fieldAddr 89 (.tmp 9) 3⟩,
    ⟨some (38, false), some 40, .load 3 (.tmp 39)⟩,
    ⟨some (38, false), some 41, .call ⟨.value (.func 79), #[.tmp 40, .const (.int .i64 0), .const (.int .i64 1000)], #[3, 3, 3]⟩⟩,
    ⟨some (38, false), some 42, .unOp .not 4 (.tmp 41)⟩,
    ⟨none, some 43, .pick (.tmp 38) (.const (.bool true)) (.tmp 42)⟩,
    ⟨none, some 44, .move (.tmp 43)⟩,
    ⟨some (44, false), some 45, .fieldAddr 89 (.tmp 9) 4⟩,
    ⟨some (44, false), some 46, .load 4 (.tmp 45)⟩,
    ⟨some (44, false), some 47, .move (.tmp 46)⟩,
    ⟨some (47, true), some 48, .fieldAddr 89 (.tmp 9) 3⟩,
    ⟨some (47, true), some 49, .load 3 (.tmp 48)⟩,
    ⟨some (47, true), some 50, .binOp .neq 3 (.tmp 49) (.const (.int .i64 0)) 3⟩,
    ⟨some (44, false), some 51, .pick (.tmp 47) (.tmp 50) (.const (.bool false))⟩,
    ⟨none, some 52, .pick (.tmp 44) (.const (.bool true)) (.tmp 51)⟩] [52]) (.cond (.tmp 52) (.seq (.reg [⟨none, some 6, .assign (.const (.bool false))⟩] [6]) (.ret)) (.skip))) (.reg [⟨none, some 53, .fieldAddr 89 (.tmp 9) 2⟩,
    ⟨none, some 54, .load 3 (.tmp 53)⟩,
    ⟨none, some 7, .assign (.tmp 54)⟩] [7])))) (.reg [⟨none, some 55, .binOp .add 3 (.tmp 15) (.const (.int .i64 1)) 3⟩,
    ⟨none, some 15, .move (.tmp 55)⟩] [15])))
def cc_i_AreSeen : CC :=
  .seq (.reg [⟨none, some 6, .assign (.const (.bool false))⟩] [6]) (.seq (.seq (.reg [⟨none, some 10, .move (.tmp 0)⟩,
    ⟨none, some 11, .call ⟨.builtin .len, #[.tmp 10], #[39]⟩⟩,
    ⟨none, some 12, .binOp .gtr 3 (.tmp 11) (.const (.int .i64 60)) 3⟩] [12]) (.cond (.tmp 12) (.seq (.reg [⟨none, some 6, .assign (.const (.bool false))⟩] [6]) (.ret)) (.skip))) (.seq (.reg [⟨none, some 7, .assign (.const (.int .i64 0))⟩] [7]) (.seq (.seq (.reg [⟨none, some 13, .move (.tmp 0)⟩,
    ⟨none, some 14, .call ⟨.builtin .len, #[.tmp 13], #[39]⟩⟩,
    ⟨none, some 15, .move (.const (.int .i64 0))⟩] [13, 14, 15]) (.block 0 (.loop L0_i_AreSeen))) (.seq (.reg [⟨none, some 6, .assign (.const (.bool true))⟩] [6]) (.ret)))))
def cc_i_InRange : CC :=
  .seq (.reg [⟨none, some 6, .assign (.const (.bool false))⟩] [6]) (.seq (.reg [⟨none, some 7, .move (.tmp 1)⟩,
    ⟨none, some 8, .move (.tmp 0)⟩,
    ⟨none, some 9, .binOp .leq 3 (.tmp 7) (.tmp 8) 3⟩,
    ⟨none, some 10, .move (.tmp 9)⟩,
    ⟨some (10, true), some 11, .move (.tmp 0)⟩,
    ⟨some (10, true), some 12, .move (.tmp 2)⟩,
    ⟨some (10, true), some 13, .binOp .leq 3 (.tmp 11) (.tmp 12) 3⟩,
    ⟨none, some 14, .pick (.tmp 10) (.tmp 13) (.const (.bool false))⟩,
    ⟨none, some 6, .assign (.tmp 14)⟩] [6]) (.ret))
def L0_i_SeenAt : CC :=
  .seq (.reg [⟨none, some 11, .binOp .lss 3 (.tmp 10) (.tmp 9) 3⟩] [11]) (.seq (.cond (.tmp 11) (.skip) (.exit 0)) (.seq (.block 1 (.seq (.reg [⟨none, some 12, .move (.tmp 10)⟩,
    ⟨none, some 13, .indexAddr 39 (.tmp 8) (.tmp 10)⟩,
    ⟨none, some 14, .load 89 (.tmp 13)⟩,
    ⟨none, some 7, .alloc 89⟩,
    ⟨none, some 6, .assign (.tmp 12)⟩,
    ⟨none, none, .store 89 (.tmp 7) (.tmp 14)⟩] [7, 6]) (.seq (.reg [⟨none, some 15, .fieldAddr 89 (.tmp 7) 2⟩,
    ⟨none, some 16, .load 3 (.tmp 15)⟩,
    ⟨none, some 17, .move (.tmp 1)⟩,
    ⟨none, some 18, .binOp .eql 3 (.tmp 16) (.tmp 17) 3⟩,
    ⟨none, some 19, .move (.tmp 18)⟩,
    ⟨some (19, true), some 20, .move (.tmp 0)⟩,
    ⟨some (19, true), some 21, .fieldAddr 89 (.tmp 7) 0⟩,
    ⟨some (19, true), some 22, .load 3 (.tmp 21)⟩,
    ⟨some (19, true), some 23, .call ⟨.value (.func 109), #[.tmp 20, .tmp 22], #[39, 3]⟩⟩,
    ⟨some (19, true), some 24, .move (.tmp 6)⟩,
    ⟨some (19, true), some 25, .binOp .eql 3 (.tmp 23) (.tmp 24) 3⟩,
    ⟨none, some 26, .pick (.tmp 19) (.tmp 25) (.const (.bool false))⟩] [26]) (.cond (.tmp 26) (.reg [⟨none, some 27, .move (.tmp 5)⟩,
    ⟨none, some 28, .move (.tmp 6)⟩,
    ⟨none, some 29, .buildSlice 25 1 #[(0, .tmp 28)]⟩,
    ⟨none, some 30, .call ⟨.builtin .append, #[.tmp 27, .tmp 29], #[25, 25]⟩⟩,
    ⟨none, some 5, .assign (.tmp 30)⟩] [5]) (.skip))))) (.reg [⟨none, some 31, .binOp .add 3 (.tmp 10) (.const (.int .i64 1)) 3⟩,
    ⟨none, some 10, .move (.tmp 31)⟩] [10])))
def cc_i_SeenAt : CC :=
  .seq (.reg [⟨none, some 4, .assign (.const (.slice none 0 0))⟩] [4]) (.seq (.reg [⟨none, some 5, .assign (.const (.slice none 0 0))⟩] [5]) (.seq (.seq (.reg [⟨none, some 8, .move (.tmp 0)⟩,
    ⟨none, some 9, .call ⟨.builtin .len, #[.tmp 8], #[39]⟩⟩,
    ⟨none, some 10, .move (.const (.int .i64 0))⟩] [8, 9, 10]) (.block 0 (.loop L0_i_SeenAt))) (.seq (.reg [⟨none, some 32, .move (.tmp 5)⟩,
    ⟨none, some 4, .assign (.tmp 32)⟩] [4]) (.ret))))
def L0_i_RowOf : CC :=
  .seq (.reg [⟨none, some 16, .binOp .lss 3 (.tmp 15) (.tmp 14) 3⟩] [16]) (.seq (.cond (.tmp 16) (.skip) (.exit 0)) (.seq (.block 1 (.seq (.reg [⟨none, some 17, .indexAddr 25 (.tmp 13) (.tmp 15)⟩,
    ⟨none, some 18, .load 3 (.tmp 17)⟩,
    ⟨none, some 7, .assign (.tmp 18)⟩] [7]) (.seq (.reg [⟨none, some 19, .move (.tmp 7)⟩,
    ⟨none, some 20, .move (.tmp 1)⟩,
    ⟨none, some 21, .call ⟨.value (.func 102), #[.tmp 19, .tmp 20], #[3, 3]⟩⟩] [21]) (.cond (.tmp 21) (.reg [⟨none, some 22, .move (.tmp 5)⟩,
    ⟨none, some 23, .move (.tmp 7)⟩,
    ⟨none, some 24, .indexAddr 25 (.tmp 22) (.tmp 23)⟩,
    ⟨none, none, .store 3 (.tmp 24) (.const (.int .i64 1))⟩] []) (.skip))))) (.reg [⟨none, some 25, .binOp .add 3 (.tmp 15) (.const (.int .i64 1)) 3⟩,
    ⟨none, some 15, .move (.tmp 25)⟩] [15])))
def cc_i_RowOf : CC :=
  .seq (.reg [⟨none, some 4, .assign (.const (.slice none 0 0))⟩] [4]) (.seq (.seq (.reg [⟨none, some 8, .move (.tmp 1)⟩,
    ⟨none, some 9, .call ⟨.value (.func 79), #[.tmp 8, .const (.int .i64 1), .const (.int .i64 6)], #[3, 3, 3]⟩⟩,
    ⟨none, some 10, .unOp .not 4 (.tmp 9)⟩] [10]) (.cond (.tmp 10) (.seq (.reg [⟨none, some 4, .assign (.const (.slice none 0 0))⟩] [4]) (.ret)) (.skip))) (.seq (.reg [⟨none, some 11, .move (.tmp 1)⟩,
    ⟨none, some 12, .makeSlice 25 (.tmp 11) (.tmp 11)⟩,
    ⟨none, some 5, .assign (.tmp 12)⟩] [5]) (.seq (.seq (.reg [⟨none, some 13, .move (.tmp 0)⟩,
    ⟨none, some 14, .call ⟨.builtin .len, #[.tmp 13], #[25]⟩⟩,
    ⟨none, some 15, .move (.const (.int .i64 0))⟩] [13, 14, 15]) (.block 0 (.loop L0_i_RowOf))) (.seq (.reg [⟨none, some 26, .move (.tmp 5)⟩,
    ⟨none, some 4, .assign (.tmp 26)⟩] [4]) (.ret)))))
def cc_i_isBits : CC :=
  .seq (.reg [⟨none, some 4, .assign (.const (.bool false))⟩] [4]) (.seq (.reg [⟨none, some 5, .move (.tmp 0)⟩,
    ⟨none, some 6, .move (.tmp 1)⟩,
    ⟨none, some 7, .call ⟨.value (.func 110), #[.tmp 5, .tmp 6], #[47, 3]⟩⟩,
    ⟨none, some 8, .move (.tmp 7)⟩,
    ⟨some (8, true), some 9, .move (.tmp 0)⟩,
    ⟨some (8, true), some 10, .call ⟨.value (.func 111), #[.tmp 9, .func 112], #[47, 118]⟩⟩,
    ⟨some (8, true), some 11, .unOp .not 4 (.tmp 10)⟩,
    ⟨none, some 12, .pick (.tmp 8) (.tmp 11) (.const (.bool false))⟩,
    ⟨none, some 4, .assign (.tmp 12)⟩] [4]) (.ret))
def L0_w_eqLinkS : CC :=
  .seq (.seq (.reg [⟨none, some 11, .move (.tmp 5)⟩,
    ⟨none, some 12, .move (.tmp 0)⟩,
    ⟨none, some 13, .call ⟨.builtin .len, #[.tmp 12], #[34]⟩⟩,
    ⟨none, some 14, .binOp .lss 3 (.tmp 11) (.tmp 13) 3⟩] [14]) (.cond (.tmp 14) (.skip) (.exit 0))) (.seq (.block 1 (.seq (.reg [⟨none, some 17, .move (.tmp 0)⟩,
    ⟨none, some 18, .move (.tmp 5)⟩,
    ⟨none, some 19, .indexAddr 34 (.tmp 17) (.tmp 18)⟩,
    ⟨none, some 20, .load 109 (.tmp 19)⟩,
    ⟨none, some 21, .move (.tmp 1)⟩,
    ⟨none, some 22, .move (.tmp 5)⟩,
    ⟨none, some 23, .indexAddr 34 (.tmp 21) (.tmp 22)⟩,
    ⟨none, some 24, .load 109 (.tmp 23)⟩,
    ⟨none, some 25, .call ⟨.value (.func 113), #[.tmp 20, .tmp 24], #[109, 109]⟩⟩,
    ⟨none, some 26, .unOp .not 4 (.tmp 25)⟩] [26]) (.cond (.tmp 26) (.seq (.reg [⟨none, some 4, .assign (.const (.bool false))⟩] [4]) (.ret)) (.skip)))) (.reg [⟨none, some 15, .move (.tmp 5)⟩,
    ⟨none, some 16, .binOp .add 3 (.tmp 15) (.const (.int .i64 1)) 3⟩,
    ⟨none, some 5, .assign (.tmp 16)⟩] [5]))
def cc_w_eqLinkS : CC :=
  .seq (.reg [⟨none, some 4, .assign (.const (.bool false))⟩] [4]) (.seq (.seq (.reg [⟨none, some 6, .move (.tmp 0)⟩,
    ⟨none, some 7, .call ⟨.builtin .len, #[.tmp 6], #[34]⟩⟩,
    ⟨none, some 8, .move (.tmp 1)⟩,
    ⟨none, some 9, .call ⟨.builtin .len, #[.tmp 8], #[34]⟩⟩,
    ⟨none, some 10, .binOp .neq 3 (.tmp 7) (.tmp 9) 3⟩] [10]) (.cond (.tmp 10) (.seq (.reg [⟨none, some 4, .assign (.const (.bool false))⟩] [4]) (.ret)) (.skip))) (.seq (.seq (.reg [⟨none, some 5, .assign (.const (.int .i64 0))⟩] [5]) (.block 0 (.loop L0_w_eqLinkS))) (.seq (.reg [⟨none, some 4, .assign (.const (.bool true))⟩] [4]) (.ret))))
def cc_w_eqProbe : CC :=
  .seq (.reg [⟨none, some 2, .box 91 (.tmp 0)⟩,
    ⟨none, some 3, .box 91 (.tmp 1)⟩,
    ⟨none, some 4, .assign (.const (.bool false))⟩] [2, 3, 4]) (.seq (.seq (.reg [⟨none, some 5, .fieldAddr 91 (.tmp 2) 0⟩,
    ⟨none, some 6, .load 3 (.tmp 5)⟩,
    ⟨none, some 7, .fieldAddr 91 (.tmp 3) 0⟩,
    ⟨none, some 8, .load 3 (.tmp 7)⟩,
    ⟨none, some 9, .binOp .neq 3 (.tmp 6) (.tmp 8) 3⟩] [9]) (.cond (.tmp 9) (.seq (.reg [⟨none, some 4, .assign (.const (.bool false))⟩] [4]) (.ret)) (.skip))) (.seq (.seq (.reg [⟨none, some 10, .fieldAddr 91 (.tmp 2) 1⟩,
    ⟨none, some 11, .load 3 (.tmp 10)⟩,
    ⟨none, some 12, .fieldAddr 91 (.tmp 3) 1⟩,
    ⟨none, some 13, .load 3 (.tmp 12)⟩,
    ⟨none, some 14, .binOp .neq 3 (.tmp 11) (.tmp 13) 3⟩] [14]) (.cond (.tmp 14) (.seq (.reg [⟨none, some 4, .assign (.const (.bool false))⟩] [4]) (.ret)) (.skip))) (.seq (.seq (.reg [⟨none, some 15, .fieldAddr 91 (.tmp 2) 2⟩,
    ⟨none, some 16, .load 25 (.tmp 15)⟩,
    ⟨none, some 17, .fieldAddr 91 (.tmp 3) 2⟩,
    ⟨none, some 18, .load 25 (.tmp 17)⟩,
    ⟨none, some 19, .call ⟨.value (.func 38), #[.tmp 16, .tmp 18], #[25, 25]⟩⟩,
    ⟨none, some 20, .unOp .not 4 (.tmp 19)⟩] [20]) (.cond (.tmp 20) (.seq (.reg [⟨none, some 4, .assign (.const (.bool false))⟩] [4]) (.ret)) (.skip))) (.seq (.reg [⟨none, some 4, .assign (.const (.bool true))⟩] [4]) (.ret)))))
def cc_w_eqSeen : CC :=
  .seq (.reg [⟨none, some 2, .box 89 (.tmp 0)⟩,
    ⟨none, some 3, .box 89 (.tmp 1)⟩,
    ⟨none, some 4, .assign (.const (.bool false))⟩] [2, 3, 4]) (.seq (.seq (.reg [⟨none, some 5, .fieldAddr 89 (.tmp 2) 0⟩,
    ⟨none, some 6, .load 3 (.tmp 5)⟩,
    ⟨none, some 7, .fieldAddr 89 (.tmp 3) 0⟩,
    ⟨none, some 8, .load 3 (.tmp 7)⟩,
    ⟨none, some 9, .binOp .neq 3 (.tmp 6) (.tmp 8) 3⟩] [9]) (.cond (.tmp 9) (.seq (.reg [⟨none, some 4, .assign (.const (.bool false))⟩] [4]) (.ret)) (.skip))) (.seq (.seq (.reg [⟨none, some 10, .fieldAddr 89 (.tmp 2) 1⟩,
    ⟨none, some 11, .load 3 (.tmp 10)⟩,
    ⟨none, some 12, .fieldAddr 89 (.tmp 3) 1⟩,
    ⟨none, some 13, .load 3 (.tmp 12)⟩,
    ⟨none, some 14, .binOp .neq 3 (.tmp 11) (.tmp 13) 3⟩] [14]) (.cond (.tmp 14) (.seq (.reg [⟨none, some 4, .assign (.const (.bool false))⟩] [4]) (.ret)) (.skip))) (.seq (.seq (.reg [⟨none, some 15, .fieldAddr 89 (.tmp 2) 2⟩,
    ⟨none, some 16, .load 3 (.tmp 15)⟩,
    ⟨none, some 17, .fieldAddr 89 (.tmp 3) 2⟩,
    ⟨none, some 18, .load 3 (.tmp 17)⟩,
    ⟨none, some 19, .binOp .neq 3 (.tmp 16) (.tmp 18) 3⟩] [19]) (.cond (.tmp 19) (.seq (.reg [⟨none, some 4, .assign (.const (.bool false))⟩] [4]) (.ret)) (.skip))) (.seq (.seq (.reg [⟨none, some 20, .fieldAddr 89 (.tmp 2) 3⟩,
    ⟨none, some 21, .load 3 (.tmp 20)⟩,
    ⟨none, some 22, .fieldAddr 89 (.tmp 3) 3⟩,
    ⟨none, some 23, .load 3 (.tmp 22)⟩,
    ⟨none, some 24, .binOp .neq 3 (.tmp 21) (.tmp 23) 3⟩] [24]) (.cond (.tmp 24) (.seq (.reg [⟨none, some 4, .assign (.const (.bool false))⟩] [4]) (.ret)) (.skip))) (.seq (.seq (.reg [⟨none, some 25, .fieldAddr 89 (.tmp 2) 4⟩,
    ⟨none, some 26, .load 4 (.tmp 25)⟩,
    ⟨none, some 27, .fieldAddr 89 (.tmp 3) 4⟩,
    ⟨none, some 28, .load 4 (.tmp 27)⟩,
    ⟨none, some 29, .binOp .neq 4 (.tmp 26) (.tmp 28) 4⟩] [29]) (.cond (.tmp 29) (.seq (.reg [⟨none, some 4, .assign (.const (.bool false))⟩] [4]) (.ret)) (.skip))) (.seq (.reg [⟨none, some 4, .assign (.const (.bool true))⟩] [4]) (.ret)))))))
def L0_s_WorstLeft : CC :=
  .seq (.seq (.reg [⟨none, some 7, .move (.tmp 6)⟩,
    ⟨none, some 8, .move (.tmp 0)⟩,
    ⟨none, some 9, .call ⟨.builtin .len, #[.tmp 8], #[47]⟩⟩,
    ⟨none, some 10, .binOp .lss 3 (.tmp 7) (.tmp 9) 3⟩] [10]) (.cond (.tmp 10) (.skip) (.exit 0))) (.seq (.block 1 (.seq (.reg [⟨none, some 13, .move (.tmp 1)⟩,
    ⟨none, some 14, .move (.tmp 0)⟩,
    ⟨none, some 15, .move (.tmp 6)⟩,
    ⟨none, some 16, .indexAddr 47 (.tmp 14) (.tmp 15)⟩,
    ⟨none, some 17, .load 25 (.tmp 16)⟩,
    ⟨none, some 18, .call ⟨.value (.func 92), #[.tmp 13, .tmp 17], #[25, 25]⟩⟩] [18]) (.cond (.tmp 18) (.reg [⟨none, some 19, .move (.tmp 5)⟩,
    ⟨none, some 20, .binOp .add 3 (.tmp 19) (.const (.int .i64 1)) 3⟩,
    ⟨none, some 5, .assign (.tmp 20)⟩] [5]) (.skip)))) (.reg [⟨none, some 11, .move (.tmp 6)⟩,
    ⟨none, some 12, .binOp .add 3 (.tmp 11) (.const (.int .i64 1)) 3⟩,
    ⟨none, some 6, .assign (.tmp 12)⟩] [6]))
def cc_s_WorstLeft : CC :=
  .seq (.reg [⟨none, some 4, .assign (.const (.int .i64 0))⟩] [4]) (.seq (.reg [⟨none, some 5, .assign (.const (.int .i64 0))⟩] [5]) (.seq (.seq (.reg [⟨none, some 6, .assign (.const (.int .i64 0))⟩] [6]) (.block 0 (.loop L0_s_WorstLeft))) (.seq (.reg [⟨none, some 21, .move (.tmp 5)⟩,
    ⟨none, some 22, .move (.tmp 0)⟩,
    ⟨none, some 23, .call ⟨.builtin .len, #[.tmp 22], #[47]⟩⟩,
    ⟨none, some 24, .move (.tmp 5)⟩,
    ⟨none, some 25, .binOp .sub 3 (.tmp 23) (.tmp 24) 3⟩,
    ⟨none, some 26, .call ⟨.value (.func 114), #[.tmp 21, .tmp 25], #[3, 3]⟩⟩,
    ⟨none, some 4, .assign (.tmp 26)⟩] [4]) (.ret))))
def L0_s_MatrixOf : CC :=
  .seq (.seq (.reg [⟨none, some 8, .move (.tmp 6)⟩,
    ⟨none, some 9, .move (.tmp 0)⟩,
    ⟨none, some 10, .call ⟨.builtin .len, #[.tmp 9], #[37]⟩⟩,
    ⟨none, some 11, .binOp .lss 3 (.tmp 8) (.tmp 10) 3⟩] [11]) (.cond (.tmp 11) (.skip) (.exit 0))) (.seq (.block 1 (.reg [⟨none, some 14, .move (.tmp 5)⟩,
    ⟨none, some 15, .move (.tmp 0)⟩,
    ⟨none, some 16, .move (.tmp 6)⟩,
    ⟨none, some 17, .indexAddr 37 (.tmp 15) (.tmp 16)⟩,
    ⟨none, some 18, .fieldAddr 91 (.tmp 17) 2⟩,
    ⟨none, some 19, .load 25 (.tmp 18)⟩,
    ⟨none, some 20, .move (.tmp 1)⟩,
    ⟨none, some 21, .call ⟨.value (.func 66), #[.tmp 19, .tmp 20], #[25, 3]⟩⟩,
    ⟨none, some 22, .buildSlice 47 1 #[(0, .tmp 21)]⟩,
    ⟨none, some 23, .call ⟨.builtin .append, #[.tmp 14, .tmp 22], #[47, 47]⟩⟩,
    ⟨none, some 5, .assign (.tmp 23)⟩] [5])) (.reg [⟨none, some 12, .move (.tmp 6)⟩,
    ⟨none, some 13, .binOp .add 3 (.tmp 12) (.const (.int .i64 1)) 3⟩,
    ⟨none, some 6, .assign (.tmp 13)⟩] [6]))
def cc_s_MatrixOf : CC :=
  .seq (.reg [⟨none, some 4, .assign (.const (.slice none 0 0))⟩] [4]) (.seq (.reg [⟨none, some 7, .buildSlice 47 0 #[]⟩,
    ⟨none, some 5, .assign (.tmp 7)⟩] [5]) (.seq (.seq (.reg [⟨none, some 6, .assign (.const (.int .i64 0))⟩] [6]) (.block 0 (.loop L0_s_MatrixOf))) (.seq (.reg [⟨none, some 24, .move (.tmp 5)⟩,
    ⟨none, some 4, .assign (.tmp 24)⟩] [4]) (.ret))))
def cc_i_WorstLeft : CC :=
  .seq (.reg [⟨none, some 4, .assign (.const (.int .i64 0))⟩] [4]) (.seq (.reg [⟨none, some 6, .move (.tmp 0)⟩,
    ⟨none, some 7, .move (.tmp 1)⟩,
    ⟨none, some 8, .call ⟨.value (.func 115), #[.tmp 6, .tmp 7, .const (.bool true)], #[47, 25, 4]⟩⟩,
    ⟨none, some 9, .call ⟨.builtin .len, #[.tmp 8], #[47]⟩⟩,
    ⟨none, some 5, .assign (.tmp 9)⟩] [5]) (.seq (.reg [⟨none, some 10, .move (.tmp 5)⟩,
    ⟨none, some 11, .move (.tmp 0)⟩,
    ⟨none, some 12, .call ⟨.builtin .len, #[.tmp 11], #[47]⟩⟩,
    ⟨none, some 13, .move (.tmp 5)⟩,
    ⟨none, some 14, .binOp .sub 3 (.tmp 12) (.tmp 13) 3⟩,
    ⟨none, some 15, .call ⟨.builtin .max, #[.tmp 10, .tmp 14], #[3, 3]⟩⟩,
    ⟨none, some 4, .assign (.tmp 15)⟩] [4]) (.ret)))
def L0_i_MatrixOf : CC :=
  .seq (.reg [⟨none, some 11, .binOp .lss 3 (.tmp 10) (.tmp 9) 3⟩] [11]) (.seq (.cond (.tmp 11) (.skip) (.exit 0)) (.seq (.block 1 (.seq (.reg [⟨none, some 12, .indexAddr 37 (.tmp 8) (.tmp 10)⟩,
    ⟨none, some 13, .load 91 (.tmp 12)⟩,
    ⟨none, some 7, .alloc 91⟩,
    ⟨none, none, .store 91 (.tmp 7) (.tmp 13)⟩] [7]) (.reg [⟨none, some 14, .move (.tmp 5)⟩,
    ⟨none, some 15, .fieldAddr 91 (.tmp 7) 2⟩,
    ⟨none, some 16, .load 25 (.tmp 15)⟩,
    ⟨none, some 17, .move (.tmp 1)⟩,
    ⟨none, some 18, .call ⟨.value (.func 81), #[.tmp 16, .tmp 17], #[25, 3]⟩⟩,
    ⟨none, some 19, .buildSlice 47 1 #[(0, .tmp 18)]⟩,
    ⟨none, some 20, .call ⟨.builtin .append, #[.tmp 14, .tmp 19], #[47, 47]⟩⟩,
    ⟨none, some 5, .assign (.tmp 20)⟩] [5]))) (.reg [⟨none, some 21, .binOp .add 3 (.tmp 10) (.const (.int .i64 1)) 3⟩,
    ⟨none, some 10, .move (.tmp 21)⟩] [10])))
def cc_i_MatrixOf : CC :=
  .seq (.reg [⟨none, some 4, .assign (.const (.slice none 0 0))⟩] [4]) (.seq (.reg [⟨none, some 5, .assign (.const (.slice none 0 0))⟩] [5]) (.seq (.seq (.reg [⟨none, some 8, .move (.tmp 0)⟩,
    ⟨none, some 9, .call ⟨.builtin .len, #[.tmp 8], #[37]⟩⟩,
    ⟨none, some 10, .move (.const (.int .i64 0))⟩] [8, 9, 10]) (.block 0 (.loop L0_i_MatrixOf))) (.seq (.reg [⟨none, some 22, .move (.tmp 5)⟩,
    ⟨none, some 4, .assign (.tmp 22)⟩] [4]) (.ret))))
def L0_s_SetsOf : CC :=
  .seq (.seq (.reg [⟨none, some 58, .move (.tmp 10)⟩,
    ⟨none, some 59, .move (.tmp 0)⟩,
    ⟨none, some 60, .binOp .lss 3 (.tmp 58) (.tmp 59) 3⟩] [60]) (.cond (.tmp 60) (.skip) (.exit 4))) (.seq (.block 5 (.reg [⟨none, some 63, .move (.tmp 7)⟩,
    ⟨none, some 64, .buildSlice 25 0 #[]⟩,
    ⟨none, some 65, .move (.tmp 5)⟩,
    ⟨none, some 66, .move (.tmp 8)⟩,
    ⟨none, some 67, .indexAddr 47 (.tmp 65) (.tmp 66)⟩,
    ⟨none, some 68, .load 25 (.tmp 67)⟩,
    ⟨none, some 69, .call ⟨.builtin .append, #[.tmp 64, .tmp 68], #[25, 25]⟩⟩,
    ⟨none, some 70, .move (.tmp 10)⟩,
    ⟨none, some 71, .buildSlice 25 1 #[(0, .tmp 70)]⟩,
    ⟨none, some 72, .call ⟨.builtin .append, #[.tmp 69, .tmp 71], #[25, 25]⟩⟩,
    ⟨none, some 73, .buildSlice 47 1 #[(0, .tmp 72)]⟩,
    ⟨none, some 74, .call ⟨.builtin .append, #[.tmp 63, .tmp 73], #[47, 47]⟩⟩,
    ⟨none, some 7, .assign (.tmp 74)⟩] [7])) (.reg [⟨none, some 61, .move (.tmp 10)⟩,
    ⟨none, some 62, .binOp .add 3 (.tmp 61) (.const (.int .i64 1)) 3⟩,
    ⟨none, some 10, .assign (.tmp 62)⟩] [10]))
def L1_s_SetsOf : CC :=
  .seq (.seq (.reg [⟨none, some 32, .move (.tmp 8)⟩,
    ⟨none, some 33, .move (.tmp 5)⟩,
    ⟨none, some 34, .call ⟨.builtin .len, #[.tmp 33], #[47]⟩⟩,
    ⟨none, some 35, .binOp .lss 3 (.tmp 32) (.tmp 34) 3⟩] [35]) (.cond (.tmp 35) (.skip) (.exit 2))) (.seq (.block 3 (.seq (.reg [⟨none, some 9, .assign (.const (.int .i64 0))⟩] [9]) (.seq (.seq (.reg [⟨none, some 38, .move (.tmp 5)⟩,
    ⟨none, some 39, .move (.tmp 8)⟩,
    ⟨none, some 40, .indexAddr 47 (.tmp 38) (.tmp 39)⟩,
    ⟨none, some 41, .load 25 (.tmp 40)⟩,
    ⟨none, some 42, .call ⟨.builtin .len, #[.tmp 41], #[25]⟩⟩,
    ⟨none, some 43, .binOp .gtr 3 (.tmp 42) (.const (.int .i64 0)) 3⟩] [43]) (.cond (.tmp 43) (.reg [⟨none, some 44, .move (.tmp 5)⟩,
    ⟨none, some 45, .move (.tmp 8)⟩,
    ⟨none, some 46, .indexAddr 47 (.tmp 44) (.tmp 45)⟩,
    ⟨none, some 47, .load 25 (.tmp 46)⟩,
    ⟨none, some 48, .move (.tmp 5)⟩,
    ⟨none, some 49, .move (.tmp 8)⟩,
    ⟨none, some 50, .indexAddr 47 (.tmp 48) (.tmp 49)⟩,
    ⟨none, some 51, .load 25 (.tmp 50)⟩,
    ⟨none, some 52, .call ⟨.builtin .len, #[.tmp 51], #[25]⟩⟩,
    ⟨none, some 53, .binOp .sub 3 (.tmp 52) (.const (.int .i64 1)) 3⟩,
    ⟨none, some 54, .indexAddr 25 (.tmp 47) (.tmp 53)⟩,
    ⟨none, some 55, .load 3 (.tmp 54)⟩,
    ⟨none, some 56, .binOp .add 3 (.tmp 55) (.const (.int .i64 1)) 3⟩,
    ⟨none, some 9, .assign (.tmp 56)⟩] [9]) (.skip))) (.seq (.reg [⟨none, some 57, .move (.tmp 9)⟩,
    ⟨none, some 10, .assign (.tmp 57)⟩] [10]) (.block 4 (.loop L0_s_SetsOf)))))) (.reg [⟨none, some 36, .move (.tmp 8)⟩,
    ⟨none, some 37, .binOp .add 3 (.tmp 36) (.const (.int .i64 1)) 3⟩,
    ⟨none, some 8, .assign (.tmp 37)⟩] [8]))
def L2_s_SetsOf : CC :=
  .seq (.seq (.reg [⟨none, some 26, .move (.tmp 6)⟩,
    ⟨none, some 27, .move (.tmp 1)⟩,
    ⟨none, some 28, .binOp .lss 3 (.tmp 26) (.tmp 27) 3⟩] [28]) (.cond (.tmp 28) (.skip) (.exit 0))) (.seq (.block 1 (.seq (.reg [⟨none, some 31, .buildSlice 47 0 #[]⟩,
    ⟨none, some 7, .assign (.tmp 31)⟩] [7]) (.seq (.seq (.reg [⟨none, some 8, .assign (.const (.int .i64 0))⟩] [8]) (.block 2 (.loop L1_s_SetsOf))) (.reg [⟨none, some 75, .move (.tmp 7)⟩,
    ⟨none, some 5, .assign (.tmp 75)⟩] [5])))) (.reg [⟨none, some 29, .move (.tmp 6)⟩,
    ⟨none, some 30, .binOp .add 3 (.tmp 29) (.const (.int .i64 1)) 3⟩,
    ⟨none, some 6, .assign (.tmp 30)⟩] [6]))
def cc_s_SetsOf : CC :=
  .seq (.reg [⟨none, some 4, .assign (.const (.slice none 0 0))⟩] [4]) (.seq (.reg [⟨none, some 11, .buildSlice 47 0 #[]⟩,
    ⟨none, some 5, .assign (.tmp 11)⟩] [5]) (.seq (.seq (.reg [⟨none, some 12, .move (.tmp 0)⟩,
    ⟨none, some 13, .call ⟨.value (.func 59), #[.tmp 12, .const (.int .i64 0), .const (.int .i64 6)], #[3, 3, 3]⟩⟩,
    ⟨none, some 14, .unOp .not 4 (.tmp 13)⟩,
    ⟨none, some 15, .move (.tmp 14)⟩,
    ⟨some (15, false), some 16, .move (.tmp 1)⟩,
    ⟨some (15, false), some 17, .move (.tmp 0)⟩,
    ⟨some (15, false), some 18, .call ⟨.value (.func 59), #[.tmp 16, .const (.int .i64 0), .tmp 17], #[3, 3, 3]⟩⟩,
    ⟨some (15, false), some 19, .unOp .not 4 (.tmp 18)⟩,
    ⟨none, some 20, .pick (.tmp 15) (.const (.bool true)) (.tmp 19)⟩] [20]) (.cond (.tmp 20) (.seq (.reg [⟨none, some 21, .move (.tmp 5)⟩,
    ⟨none, some 4, .assign (.tmp 21)⟩] [4]) (.ret)) (.skip))) (.seq (.reg [⟨none, some 22, .move (.tmp 5)⟩,
    ⟨none, some 23, .buildSlice 25 0 #[]⟩,
    ⟨none, some 24, .buildSlice 47 1 #[(0, .tmp 23)]⟩,
    ⟨none, some 25, .call ⟨.builtin .append, #[.tmp 22, .tmp 24], #[47, 47]⟩⟩,
    ⟨none, some 5, .assign (.tmp 25)⟩] [5]) (.seq (.seq (.reg [⟨none, some 6, .assign (.const (.int .i64 0))⟩] [6]) (.block 0 (.loop L2_s_SetsOf))) (.seq (.reg [⟨none, some 76, .move (.tmp 5)⟩,
    ⟨none, some 4, .assign (.tmp 76)⟩] [4]) (.ret))))))
def L0_s_FailsWith : CC :=
  .seq (.seq (.reg [⟨none, some 6, .move (.tmp 5)⟩,
    ⟨none, some 7, .move (.tmp 1)⟩,
    ⟨none, some 8, .call ⟨.builtin .len, #[.tmp 7], #[25]⟩⟩,
    ⟨none, some 9, .binOp .lss 3 (.tmp 6) (.tmp 8) 3⟩] [9]) (.cond (.tmp 9) (.skip) (.exit 0))) (.seq (.block 1 (.seq (.reg [⟨none, some 12, .move (.tmp 1)⟩,
    ⟨none, some 13, .move (.tmp 5)⟩,
    ⟨none, some 14, .indexAddr 25 (.tmp 12) (.tmp 13)⟩,
    ⟨none, some 15, .load 3 (.tmp 14)⟩,
    ⟨none, some 16, .move (.tmp 0)⟩,
    ⟨none, some 17, .call ⟨.builtin .len, #[.tmp 16], #[25]⟩⟩,
    ⟨none, some 18, .binOp .sub 3 (.tmp 17) (.const (.int .i64 1)) 3⟩,
    ⟨none, some 19, .call ⟨.value (.func 59), #[.tmp 15, .const (.int .i64 0), .tmp 18], #[3, 3, 3]⟩⟩,
    ⟨none, some 20, .move (.tmp 19)⟩,
    ⟨some (20, true), some 21, .move (.tmp 0)⟩,
    ⟨some (20, true), some 22, .move (.tmp 1)⟩,
    ⟨some (20, true), some 23, .move (.tmp 5)⟩,
    ⟨some (20, true), some 24, .indexAddr 25 (.tmp 22) (.tmp 23)⟩,
    ⟨some (20, true), some 25, .load 3 (.tmp 24)⟩,
    ⟨some (20, true), some 26, .indexAddr 25 (.tmp 21) (.tmp 25)⟩,
    ⟨some (20, true), some 27, .load 3 (.tmp 26)⟩,
    ⟨some (20, true), some 28, .binOp .eql 3 (.tmp 27) (.const (.int .i64 1)) 3⟩,
    ⟨none, some 29, .pick (.tmp 20) (.tmp 28) (.const (.bool false))⟩] [29]) (.cond (.tmp 29) (.seq (.reg [⟨none, some 4, .assign (.const (.bool true))⟩] [4]) (.ret)) (.skip)))) (.reg [⟨none, some 10, .move (.tmp 5)⟩,
    ⟨none, some 11, .binOp .add 3 (.tmp 10) (.const (.int .i64 1)) 3⟩,
    ⟨none, some 5, .assign (.tmp 11)⟩] [5]))
def cc_s_FailsWith : CC :=
  .seq (.reg [⟨none, some 4, .assign (.const (.bool false))⟩] [4]) (.seq (.seq (.reg [⟨none, some 5, .assign (.const (.int .i64 0))⟩] [5]) (.block 0 (.loop L0_s_FailsWith))) (.seq (.reg [⟨none, some 4, .assign (.const (.bool false))⟩] [4]) (.ret)))
def cc_i_SetsOf : CC :=
  .seq (.reg [⟨none, some 2, .box 3 (.tmp 0)⟩,
    ⟨none, some 3, .box 3 (.tmp 1)⟩,
    ⟨none, some 4, .assign (.const (.slice none 0 0))⟩] [2, 3, 4]) (.seq (.seq (.reg [⟨none, some 7, .load 3 (.tmp 2)⟩,
    ⟨none, some 8, .call ⟨.value (.func 79), #[.tmp 7, .const (.int .i64 0), .const (.int .i64 6)], #[3, 3, 3]⟩⟩,
    ⟨none, some 9, .unOp .not 4 (.tmp 8)⟩,
    ⟨none, some 10, .move (.tmp 9)⟩,
    ⟨some (10, false), some 11, .load 3 (.tmp 3)⟩,
    ⟨some (10, false), some 12, .load 3 (.tmp 2)⟩,
    ⟨some (10, false), some 13, .call ⟨.value (.func 79), #[.tmp 11, .const (.int .i64 0), .tmp 12], #[3, 3, 3]⟩⟩,
    ⟨some (10, false), some 14, .unOp .not 4 (.tmp 13)⟩,
    ⟨none, some 15, .pick (.tmp 10) (.const (.bool true)) (.tmp 14)⟩] [15]) (.cond (.tmp 15) (.seq (.reg [⟨none, some 4, .assign (.const (.slice none 0 0))⟩] [4]) (.ret)) (.skip))) (.seq (.reg [⟨none, some 5, .alloc 47⟩] [5]) (.seq (.reg [⟨none, some 6, .alloc 123⟩] [6]) (.seq (.reg [⟨none, some 16, .makeFunc (.func 116) #[] #[.tmp 3, .tmp 5, .tmp 2, .tmp 6]⟩,
    ⟨none, none, .store 123 (.tmp 6) (.tmp 16)⟩] []) (.seq (.reg [⟨none, some 17, .load 123 (.tmp 6)⟩,
    ⟨none, some 18, .buildSlice 25 0 #[]⟩,
    ⟨none, some 19, .call ⟨.value (.tmp 17), #[.tmp 18, .const (.int .i64 0)], #[25, 3]⟩⟩] []) (.seq (.reg [⟨none, some 20, .load 47 (.tmp 5)⟩,
    ⟨none, some 4, .assign (.tmp 20)⟩] [4]) (.ret)))))))
def cc_i_FailsWith : CC :=
  .seq (.reg [⟨none, some 2, .box 25 (.tmp 0)⟩,
    ⟨none, some 4, .assign (.const (.bool false))⟩] [2, 4]) (.seq (.reg [⟨none, some 5, .move (.tmp 1)⟩,
    ⟨none, some 6, .makeFunc (.func 119) #[] #[.tmp 2]⟩,
    ⟨none, some 7, .call ⟨.value (.func 118), #[.tmp 5, .tmp 6], #[25, 125]⟩⟩,
    ⟨none, some 4, .assign (.tmp 7)⟩] [4]) (.ret))
def L0_w_markLinkS : CC :=
  .seq (.seq (.reg [⟨none, some 6, .move (.tmp 5)⟩,
    ⟨none, some 7, .move (.tmp 0)⟩,
    ⟨none, some 8, .call ⟨.builtin .len, #[.tmp 7], #[34]⟩⟩,
    ⟨none, some 9, .binOp .lss 3 (.tmp 6) (.tmp 8) 3⟩] [9]) (.cond (.tmp 9) (.skip) (.exit 0))) (.seq (.block 1 (.seq (.reg [⟨none, some 12, .move (.tmp 0)⟩,
    ⟨none, some 13, .move (.tmp 5)⟩,
    ⟨none, some 14, .move (.tmp 1)⟩,
    ⟨none, some 15, .indexAddr 34 (.tmp 12) (.tmp 13)⟩,
    ⟨none, some 16, .fieldAddr 109 (.tmp 15) 0⟩,
    ⟨none, none, .store 3 (.tmp 16) (.tmp 14)⟩] []) (.seq (.reg [⟨none, some 17, .move (.tmp 1)⟩,
    ⟨none, some 18, .binOp .add 3 (.tmp 17) (.const (.int .i64 1)) 3⟩,
    ⟨none, some 1, .assign (.tmp 18)⟩] [1]) (.seq (.reg [⟨none, some 19, .move (.tmp 0)⟩,
    ⟨none, some 20, .move (.tmp 5)⟩,
    ⟨none, some 21, .move (.tmp 1)⟩,
    ⟨none, some 22, .indexAddr 34 (.tmp 19) (.tmp 20)⟩,
    ⟨none, some 23, .fieldAddr 109 (.tmp 22) 1⟩,
    ⟨none, none, .store 3 (.tmp 23) (.tmp 21)⟩] []) (.reg [⟨none, some 24, .move (.tmp 1)⟩,
    ⟨none, some 25, .binOp .add 3 (.tmp 24) (.const (.int .i64 1)) 3⟩,
    ⟨none, some 1, .assign (.tmp 25)⟩] [1]))))) (.reg [⟨none, some 10, .move (.tmp 5)⟩,
    ⟨none, some 11, .binOp .add 3 (.tmp 10) (.const (.int .i64 1)) 3⟩,
    ⟨none, some 5, .assign (.tmp 11)⟩] [5]))
def cc_w_markLinkS : CC :=
  .seq (.reg [⟨none, some 4, .assign (.const (.int .i64 0))⟩] [4]) (.seq (.seq (.reg [⟨none, some 5, .assign (.const (.int .i64 0))⟩] [5]) (.block 0 (.loop L0_w_markLinkS))) (.seq (.reg [⟨none, some 26, .move (.tmp 1)⟩,
    ⟨none, some 4, .assign (.tmp 26)⟩] [4]) (.ret)))
def cc_s_AreVerdicts : CC :=
  .seq (.reg [⟨none, some 6, .assign (.const (.bool false))⟩] [6]) (.seq (.reg [⟨none, some 7, .move (.tmp 0)⟩,
    ⟨none, some 8, .move (.tmp 2)⟩,
    ⟨none, some 9, .call ⟨.value (.func 67), #[.tmp 7, .tmp 8], #[47, 3]⟩⟩,
    ⟨none, some 10, .move (.tmp 9)⟩,
    ⟨some (10, true), some 11, .move (.tmp 0)⟩,
    ⟨some (10, true), some 12, .call ⟨.value (.func 68), #[.tmp 11], #[47]⟩⟩,
    ⟨none, some 13, .pick (.tmp 10) (.tmp 12) (.const (.bool false))⟩,
    ⟨none, some 14, .move (.tmp 13)⟩,
    ⟨some (14, true), some 15, .move (.tmp 1)⟩,
    ⟨some (14, true), some 16, .call ⟨.builtin .len, #[.tmp 15], #[57]⟩⟩,
    ⟨some (14, true), some 17, .move (.tmp 0)⟩,
    ⟨some (14, true), some 18, .call ⟨.builtin .len, #[.tmp 17], #[47]⟩⟩,
    ⟨some (14, true), some 19, .binOp .eql 3 (.tmp 16) (.tmp 18) 3⟩,
    ⟨none, some 20, .pick (.tmp 14) (.tmp 19) (.const (.bool false))⟩,
    ⟨none, some 6, .assign (.tmp 20)⟩] [6]) (.ret))
def cc_i_AreVerdicts : CC :=
  .seq (.reg [⟨none, some 6, .assign (.const (.bool false))⟩] [6]) (.seq (.reg [⟨none, some 7, .move (.tmp 0)⟩,
    ⟨none, some 8, .move (.tmp 2)⟩,
    ⟨none, some 9, .call ⟨.value (.func 82), #[.tmp 7, .tmp 8], #[47, 3]⟩⟩,
    ⟨none, some 10, .move (.tmp 9)⟩,
    ⟨some (10, true), some 11, .move (.tmp 1)⟩,
    ⟨some (10, true), some 12, .call ⟨.builtin .len, #[.tmp 11], #[57]⟩⟩,
    ⟨some (10, true), some 13, .move (.tmp 0)⟩,
    ⟨some (10, true), some 14, .call ⟨.builtin .len, #[.tmp 13], #[47]⟩⟩,
    ⟨some (10, true), some 15, .binOp .eql 3 (.tmp 12) (.tmp 14) 3⟩,
    ⟨none, some 16, .pick (.tmp 10) (.tmp 15) (.const (.bool false))⟩,
    ⟨none, some 6, .assign (.tmp 16)⟩] [6]) (.ret))
def L0_s_LinkOf : CC :=
  .seq (.seq (.reg [⟨none, some 8, .move (.tmp 7)⟩,
    ⟨none, some 9, .fieldAddr 36 (.tmp 3) 1⟩,
    ⟨none, some 10, .load 34 (.tmp 9)⟩,
    ⟨none, some 11, .call ⟨.builtin .len, #[.tmp 10], #[34]⟩⟩,
    ⟨none, some 12, .binOp .lss 3 (.tmp 8) (.tmp 11) 3⟩] [12]) (.cond (.tmp 12) (.skip) (.exit 0))) (.seq (.block 1 (.seq (.reg [⟨none, some 15, .fieldAddr 36 (.tmp 3) 1⟩,
    ⟨none, some 16, .load 34 (.tmp 15)⟩,
    ⟨none, some 17, .move (.tmp 7)⟩,
    ⟨none, some 18, .indexAddr 34 (.tmp 16) (.tmp 17)⟩,
    ⟨none, some 19, .load 109 (.tmp 18)⟩,
    ⟨none, some 20, .move (.tmp 1)⟩,
    ⟨none, some 21, .move (.tmp 2)⟩,
    ⟨none, some 22, .build 109 #[(0, .tmp 20), (1, .tmp 21)]⟩,
    ⟨none, some 23, .binOp .eql 109 (.tmp 19) (.tmp 22) 109⟩,
    ⟨none, some 24, .move (.tmp 23)⟩,
    ⟨some (24, false), some 25, .fieldAddr 36 (.tmp 3) 1⟩,
    ⟨some (24, false), some 26, .load 34 (.tmp 25)⟩,
    ⟨some (24, false), some 27, .move (.tmp 7)⟩,
    ⟨some (24, false), some 28, .indexAddr 34 (.tmp 26) (.tmp 27)⟩,
    ⟨some (24, false), some 29, .load 109 (.tmp 28)⟩,
    ⟨some (24, false), some 30, .move (.tmp 2)⟩,
    ⟨some (24, false), some 31, .move (.tmp 1)⟩,
    ⟨some (24, false), some 32, .build 109 #[(0, .tmp 30), (1, .tmp 31)]⟩,
    ⟨some (24, false), some 33, .binOp .eql 109 (.tmp 29) (.tmp 32) 109⟩,
    ⟨none, some 34, .pick (.tmp 24) (.const (.bool true)) (.tmp 33)⟩] [34]) (.cond (.tmp 34) (.seq (.reg [⟨none, some 35, .move (.tmp 7)⟩,
    ⟨none, some 6, .assign (.tmp 35)⟩] [6]) (.ret)) (.skip)))) (.reg [⟨none, some 13, .move (.tmp 7)⟩,
    ⟨none, some 14, .binOp .add 3 (.tmp 13) (.const (.int .i64 1)) 3⟩,
    ⟨none, some 7, .assign (.tmp 14)⟩] [7]))
def cc_s_LinkOf : CC :=
  .seq (.reg [⟨none, some 3, .box 36 (.tmp 0)⟩,
    ⟨none, some 6, .assign (.const (.int .i64 0))⟩] [3, 6]) (.seq (.seq (.reg [⟨none, some 7, .assign (.const (.int .i64 0))⟩] [7]) (.block 0 (.loop L0_s_LinkOf))) (.seq (.reg [⟨none, some 6, .assign (.const (.int .i64 (-1)))⟩] [6]) (.ret)))
def L0_s_IsPath : CC :=
  .seq (.seq (.reg [⟨none, some 10, .move (.tmp 9)⟩,
    ⟨none, some 11, .move (.tmp 1)⟩,
    ⟨none, some 12, .call ⟨.builtin .len, #[.tmp 11], #[25]⟩⟩,
    ⟨none, some 13, .binOp .lss 3 (.tmp 10) (.tmp 12) 3⟩] [13]) (.cond (.tmp 13) (.skip) (.exit 0))) (.seq (.block 1 (.seq (.reg [⟨none, some 16, .move (.tmp 1)⟩,
    ⟨none, some 17, .move (.tmp 9)⟩,
    ⟨none, some 18, .slice 25 (.tmp 16) none (some (.tmp 17)) none⟩,
    ⟨none, some 19, .move (.tmp 1)⟩,
    ⟨none, some 20, .move (.tmp 9)⟩,
    ⟨none, some 21, .indexAddr 25 (.tmp 19) (.tmp 20)⟩,
    ⟨none, some 22, .load 3 (.tmp 21)⟩,
    ⟨none, some 23, .call ⟨.value (.func 100), #[.tmp 18, .tmp 22], #[25, 3]⟩⟩] [23]) (.cond (.tmp 23) (.seq (.reg [⟨none, some 8, .assign (.const (.bool false))⟩] [8]) (.ret)) (.skip)))) (.reg [⟨none, some 14, .move (.tmp 9)⟩,
    ⟨none, some 15, .binOp .add 3 (.tmp 14) (.const (.int .i64 1)) 3⟩,
    ⟨none, some 9, .assign (.tmp 15)⟩] [9]))
def cc_s_IsPath : CC :=
  .seq (.reg [⟨none, some 4, .box 36 (.tmp 0)⟩,
    ⟨none, some 8, .assign (.const (.bool false))⟩] [4, 8]) (.seq (.seq (.reg [⟨none, some 9, .assign (.const (.int .i64 0))⟩] [9]) (.block 0 (.loop L0_s_IsPath))) (.seq (.reg [⟨none, some 24, .load 36 (.tmp 4)⟩,
    ⟨none, some 25, .move (.tmp 1)⟩,
    ⟨none, some 26, .move (.tmp 2)⟩,
    ⟨none, some 27, .call ⟨.value (.func 120), #[.tmp 24, .tmp 25, .tmp 26], #[36, 25, 3]⟩⟩,
    ⟨none, some 28, .move (.tmp 3)⟩,
    ⟨none, some 29, .binOp .eql 3 (.tmp 27) (.tmp 28) 3⟩,
    ⟨none, some 30, .move (.tmp 29)⟩,
    ⟨some (30, true), some 31, .move (.tmp 3)⟩,
    ⟨some (30, true), some 32, .binOp .geq 3 (.tmp 31) (.const (.int .i64 0)) 3⟩,
    ⟨some (30, true), some 33, .move (.tmp 32)⟩,
    ⟨some (33, false), some 34, .move (.tmp 1)⟩,
    ⟨some (33, false), some 35, .call ⟨.builtin .len, #[.tmp 34], #[25]⟩⟩,
    ⟨some (33, false), some 36, .binOp .eql 3 (.tmp 35) (.const (.int .i64 0)) 3⟩,
    ⟨some (30, true), some 37, .pick (.tmp 33) (.const (.bool true)) (.tmp 36)⟩,
    ⟨none, some 38, .pick (.tmp 30) (.tmp 37) (.const (.bool false))⟩,
    ⟨none, some 8, .assign (.tmp 38)⟩] [8]) (.ret)))
def L0_s_l7Has : CC :=
  .seq (.seq (.reg [⟨none, some 6, .move (.tmp 5)⟩,
    ⟨none, some 7, .move (.tmp 0)⟩,
    ⟨none, some 8, .call ⟨.builtin .len, #[.tmp 7], #[25]⟩⟩,
    ⟨none, some 9, .binOp .lss 3 (.tmp 6) (.tmp 8) 3⟩] [9]) (.cond (.tmp 9) (.skip) (.exit 0))) (.seq (.block 1 (.seq (.reg [⟨none, some 12, .move (.tmp 0)⟩,
    ⟨none, some 13, .move (.tmp 5)⟩,
    ⟨none, some 14, .indexAddr 25 (.tmp 12) (.tmp 13)⟩,
    ⟨none, some 15, .load 3 (.tmp 14)⟩,
    ⟨none, some 16, .move (.tmp 1)⟩,
    ⟨none, some 17, .binOp .eql 3 (.tmp 15) (.tmp 16) 3⟩] [17]) (.cond (.tmp 17) (.seq (.reg [⟨none, some 4, .assign (.const (.bool true))⟩] [4]) (.ret)) (.skip)))) (.reg [⟨none, some 10, .move (.tmp 5)⟩,
    ⟨none, some 11, .binOp .add 3 (.tmp 10) (.const (.int .i64 1)) 3⟩,
    ⟨none, some 5, .assign (.tmp 11)⟩] [5]))
def cc_s_l7Has : CC :=
  .seq (.reg [⟨none, some 4, .assign (.const (.bool false))⟩] [4]) (.seq (.seq (.reg [⟨none, some 5, .assign (.const (.int .i64 0))⟩] [5]) (.block 0 (.loop L0_s_l7Has))) (.seq (.reg [⟨none, some 4, .assign (.const (.bool false))⟩] [4]) (.ret)))
def cc_w_toLink : CC :=
  .seq (.reg [⟨none, some 1, .box 113 (.tmp 0)⟩,
    ⟨none, some 2, .alloc 109⟩] [1, 2]) (.seq (.reg [⟨none, some 3, .alloc 109⟩] [3]) (.seq (.reg [⟨none, some 4, .fieldAddr 113 (.tmp 1) 0⟩,
    ⟨none, some 5, .load 3 (.tmp 4)⟩,
    ⟨none, some 6, .fieldAddr 109 (.tmp 3) 0⟩,
    ⟨none, none, .store 3 (.tmp 6) (.tmp 5)⟩] []) (.seq (.reg [⟨none, some 7, .fieldAddr 113 (.tmp 1) 1⟩,
    ⟨none, some 8, .load 3 (.tmp 7)⟩,
    ⟨none, some 9, .fieldAddr 109 (.tmp 3) 1⟩,
    ⟨none, none, .store 3 (.tmp 9) (.tmp 8)⟩] []) (.seq (.reg [⟨none, some 10, .load 109 (.tmp 3)⟩,
    ⟨none, none, .store 109 (.tmp 2) (.tmp 10)⟩] []) (.ret)))))
def cc_i_at : CC :=
  .seq (.reg [⟨none, some 4, .assign (.const (.bool false))⟩] [4]) (.seq (.reg [⟨none, some 5, .move (.tmp 0)⟩,
    ⟨none, some 6, .binOp .geq 3 (.tmp 5) (.const (.int .i64 0)) 3⟩,
    ⟨none, some 7, .move (.tmp 6)⟩,
    ⟨some (7, true), some 8, .move (.tmp 0)⟩,
    ⟨some (7, true), some 9, .move (.tmp 1)⟩,
    ⟨some (7, true), some 10, .binOp .lss 3 (.tmp 8) (.tmp 9) 3⟩,
    ⟨none, some 11, .pick (.tmp 7) (.tmp 10) (.const (.bool false))⟩,
    ⟨none, some 4, .assign (.tmp 11)⟩] [4]) (.ret))
def cc_i_LinkOf : CC :=
  .seq (.reg [⟨none, some 3, .box 36 (.tmp 0)⟩,
    ⟨none, some 4, .box 3 (.tmp 1)⟩,
    ⟨none, some 5, .box 3 (.tmp 2)⟩,
    ⟨none, some 6, .assign (.const (.int .i64 0))⟩] [3, 4, 5, 6]) (.seq (.reg [⟨none, some 7, .fieldAddr 36 (.tmp 3) 1⟩,
    ⟨none, some 8, .load 34 (.tmp 7)⟩,
    ⟨none, some 9, .makeFunc (.func 122) #[] #[.tmp 4, .tmp 5]⟩,
    ⟨none, some 10, .call ⟨.value (.func 121), #[.tmp 8, .tmp 9], #[34, 128]⟩⟩,
    ⟨none, some 6, .assign (.tmp 10)⟩] [6]) (.ret))
def L0_sl_Equal_Sint_int : CC :=
  .seq (.reg [⟨none, some 14, .binOp .lss 3 (.tmp 13) (.tmp 12) 3⟩] [14]) (.seq (.cond (.tmp 14) (.skip) (.exit 0)) (.seq (.block 1 (.seq (.reg [⟨none, some 15, .move (.tmp 13)⟩,
    ⟨none, some 5, .assign (.tmp 15)⟩] [5]) (.seq (.reg [⟨none, some 16, .move (.tmp 0)⟩,
    ⟨none, some 17, .move (.tmp 5)⟩,
    ⟨none, some 18, .indexAddr 25 (.tmp 16) (.tmp 17)⟩,
    ⟨none, some 19, .load 3 (.tmp 18)⟩,
    ⟨none, some 20, .move (.tmp 1)⟩,
    ⟨none, some 21, .move (.tmp 5)⟩,
    ⟨none, some 22, .indexAddr 25 (.tmp 20) (.tmp 21)⟩,
    ⟨none, some 23, .load 3 (.tmp 22)⟩,
    ⟨none, some 24, .binOp .neq 3 (.tmp 19) (.tmp 23) 3⟩] [24]) (.cond (.tmp 24) (.seq (.reg [⟨none, some 4, .assign (.const (.bool false))⟩] [4]) (.ret)) (.skip))))) (.reg [⟨none, some 25, .binOp .add 3 (.tmp 13) (.const (.int .i64 1)) 3⟩,
    ⟨none, some 13, .move (.tmp 25)⟩] [13])))
def cc_sl_Equal_Sint_int : CC :=
  .seq (.reg [⟨none, some 4, .assign (.const (.bool false))⟩] [4]) (.seq (.seq (.reg [⟨none, some 6, .move (.tmp 0)⟩,
    ⟨none, some 7, .call ⟨.builtin .len, #[.tmp 6], #[25]⟩⟩,
    ⟨none, some 8, .move (.tmp 1)⟩,
    ⟨none, some 9, .call ⟨.builtin .len, #[.tmp 8], #[25]⟩⟩,
    ⟨none, some 10, .binOp .neq 3 (.tmp 7) (.tmp 9) 3⟩] [10]) (.cond (.tmp 10) (.seq (.reg [⟨none, some 4, .assign (.const (.bool false))⟩] [4]) (.ret)) (.skip))) (.seq (.seq (.reg [⟨none, some 11, .move (.tmp 0)⟩,
    ⟨none, some 12, .call ⟨.builtin .len, #[.tmp 11], #[25]⟩⟩,
    ⟨none, some 13, .move (.const (.int .i64 0))⟩] [12, 13]) (.block 0 (.loop L0_sl_Equal_Sint_int))) (.seq (.reg [⟨none, some 4, .assign (.const (.bool true))⟩] [4]) (.ret))))
def cc_i_sorted : CC :=
  .seq (.reg [⟨none, some 2, .assign (.const (.slice none 0 0))⟩] [2]) (.seq (.reg [⟨none, some 4, .move (.tmp 0)⟩,
    ⟨none, some 5, .call ⟨.value (.func 117), #[.tmp 4], #[25]⟩⟩,
    ⟨none, some 3, .assign (.tmp 5)⟩] [3]) (.seq (.reg [⟨none, some 6, .move (.tmp 3)⟩,
    ⟨none, some 7, .call ⟨.value (.func 123), #[.tmp 6], #[25]⟩⟩] []) (.seq (.reg [⟨none, some 8, .move (.tmp 3)⟩,
    ⟨none, some 9, .call ⟨.value (.func 124), #[.tmp 8], #[25]⟩⟩,
    ⟨none, some 2, .assign (.tmp 9)⟩] [2]) (.ret))))
def cc_sl_ContainsFunc_Si_Probe_i_Probe : CC :=
  .seq (.reg [⟨none, some 4, .assign (.const (.bool false))⟩] [4]) (.seq (.reg [⟨none, some 5, .move (.tmp 0)⟩,
    ⟨none, some 6, .move (.tmp 1)⟩,
    ⟨none, some 7, .call ⟨.value (.func 125), #[.tmp 5, .tmp 6], #[37, 116]⟩⟩,
    ⟨none, some 8, .binOp .geq 3 (.tmp 7) (.const (.int .i64 0)) 3⟩,
    ⟨none, some 4, .assign (.tmp 8)⟩] [4]) (.ret))
def cc_i_AreProbes_1 : CC :=
  .seq (.reg [⟨none, some 2, .box 91 (.tmp 0)⟩,
    ⟨none, some 3, .assign (.const (.bool false))⟩] [2, 3]) (.seq (.reg [⟨none, some 4, .fieldAddr 91 (.tmp 2) 2⟩,
    ⟨none, some 5, .load 25 (.tmp 4)⟩,
    ⟨none, some 6, .call ⟨.builtin .len, #[.tmp 5], #[25]⟩⟩,
    ⟨none, some 7, .binOp .eql 3 (.tmp 6) (.const (.int .i64 0)) 3⟩,
    ⟨none, some 8, .move (.tmp 7)⟩,
    ⟨some (8, false), some 9, .load 36 (.tmp 1)⟩,
    ⟨some (8, false), some 10, .fieldAddr 91 (.tmp 2) 2⟩,
    ⟨some (8, false), some 11, .load 25 (.tmp 10)⟩,
    ⟨some (8, false), some 12, .fieldAddr 91 (.tmp 2) 0⟩,
    ⟨some (8, false), some 13, .load 3 (.tmp 12)⟩,
    ⟨some (8, false), some 14, .fieldAddr 91 (.tmp 2) 1⟩,
    ⟨some (8, false), some 15, .load 3 (.tmp 14)⟩,
    ⟨some (8, false), some 16, .call ⟨.value (.func 108), #[.tmp 9, .tmp 11, .tmp 13, .tmp 15], #[36, 25, 3, 3]⟩⟩,
    ⟨some (8, false), some 17, .unOp .not 4 (.tmp 16)⟩,
    ⟨none, some 18, .pick (.tmp 8) (.const (.bool true)) (.tmp 17)⟩,
    ⟨none, some 3, .assign (.tmp 18)⟩] [3]) (.ret))
def L0_i_IsPath : CC :=
  .seq (.reg [⟨none, some 14, .binOp .lss 3 (.tmp 13) (.tmp 12) 3⟩] [14]) (.seq (.cond (.tmp 14) (.skip) (.exit 0)) (.seq (.block 1 (.seq (.reg [⟨none, some 15, .move (.tmp 13)⟩,
    ⟨none, some 16, .indexAddr 25 (.tmp 11) (.tmp 13)⟩,
    ⟨none, some 17, .load 3 (.tmp 16)⟩,
    ⟨none, some 9, .assign (.tmp 15)⟩,
    ⟨none, some 10, .assign (.tmp 17)⟩] [9, 10]) (.seq (.reg [⟨none, some 18, .move (.tmp 1)⟩,
    ⟨none, some 19, .move (.tmp 9)⟩,
    ⟨none, some 20, .slice 25 (.tmp 18) none (some (.tmp 19)) none⟩,
    ⟨none, some 21, .move (.tmp 10)⟩,
    ⟨none, some 22, .call ⟨.value (.func 126), #[.tmp 20, .tmp 21], #[25, 3]⟩⟩] [22]) (.cond (.tmp 22) (.seq (.reg [⟨none, some 8, .assign (.const (.bool false))⟩] [8]) (.ret)) (.skip))))) (.reg [⟨none, some 23, .binOp .add 3 (.tmp 13) (.const (.int .i64 1)) 3⟩,
    ⟨none, some 13, .move (.tmp 23)⟩] [13])))
def cc_i_IsPath : CC :=
  .seq (.reg [⟨none, some 4, .box 36 (.tmp 0)⟩,
    ⟨none, some 8, .assign (.const (.bool false))⟩] [4, 8]) (.seq (.seq (.reg [⟨none, some 11, .move (.tmp 1)⟩,
    ⟨none, some 12, .call ⟨.builtin .len, #[.tmp 11], #[25]⟩⟩,
    ⟨none, some 13, .move (.const (.int .i64 0))⟩] [11, 12, 13]) (.block 0 (.loop L0_i_IsPath))) (.seq (.reg [⟨none, some 24, .load 36 (.tmp 4)⟩,
    ⟨none, some 25, .move (.tmp 1)⟩,
    ⟨none, some 26, .move (.tmp 2)⟩,
    ⟨none, some 27, .call ⟨.value (.func 127), #[.tmp 24, .tmp 25, .tmp 26], #[36, 25, 3]⟩⟩,
    ⟨none, some 28, .move (.tmp 3)⟩,
    ⟨none, some 29, .binOp .eql 3 (.tmp 27) (.tmp 28) 3⟩,
    ⟨none, some 30, .move (.tmp 29)⟩,
    ⟨some (30, true), some 31, .move (.tmp 1)⟩,
    ⟨some (30, true), some 32, .call ⟨.builtin .len, #[.tmp 31], #[25]⟩⟩,
    ⟨some (30, true), some 33, .binOp .eql 3 (.tmp 32) (.const (.int .i64 0)) 3⟩,
    ⟨some (30, true), some 34, .move (.tmp 33)⟩,
    ⟨some (34, false), some 35, .move (.tmp 3)⟩,
    ⟨some (34, false), some 36, .binOp .geq 3 (.tmp 35) (.const (.int .i64 0)) 3⟩,
    ⟨some (30, true), some 37, .pick (.tmp 34) (.const (.bool true)) (.tmp 36)⟩,
    ⟨none, some 38, .pick (.tmp 30) (.tmp 37) (.const (.bool false))⟩,
    ⟨none, some 8, .assign (.tmp 38)⟩] [8]) (.ret)))
def cc_i_latest : CC :=
  .seq (.reg [⟨none, some 4, .assign (.const (.int .i64 0))⟩] [4]) (.seq (.reg [⟨none, some 5, .move (.tmp 0)⟩,
    ⟨none, some 6, .move (.tmp 1)⟩,
    ⟨none, some 7, .call ⟨.value (.func 128), #[.tmp 5, .tmp 6, .const (.bool false)], #[39, 3, 4]⟩⟩,
    ⟨none, some 8, .move (.tmp 0)⟩,
    ⟨none, some 9, .move (.tmp 1)⟩,
    ⟨none, some 10, .call ⟨.value (.func 128), #[.tmp 8, .tmp 9, .const (.bool true)], #[39, 3, 4]⟩⟩,
    ⟨none, some 11, .call ⟨.builtin .max, #[.tmp 7, .tmp 10], #[3, 3]⟩⟩,
    ⟨none, some 4, .assign (.tmp 11)⟩] [4]) (.ret))
def L0_i_IsMatrix : CC :=
  .seq (.reg [⟨none, some 18, .binOp .lss 3 (.tmp 17) (.tmp 16) 3⟩] [18]) (.seq (.cond (.tmp 18) (.skip) (.exit 0)) (.seq (.block 1 (.seq (.reg [⟨none, some 19, .indexAddr 47 (.tmp 15) (.tmp 17)⟩,
    ⟨none, some 20, .load 25 (.tmp 19)⟩,
    ⟨none, some 6, .assign (.tmp 20)⟩] [6]) (.seq (.reg [⟨none, some 21, .move (.tmp 6)⟩,
    ⟨none, some 22, .call ⟨.builtin .len, #[.tmp 21], #[25]⟩⟩,
    ⟨none, some 23, .move (.tmp 1)⟩,
    ⟨none, some 24, .binOp .neq 3 (.tmp 22) (.tmp 23) 3⟩,
    ⟨none, some 25, .move (.tmp 24)⟩,
    ⟨some (25, false), some 26, .move (.tmp 6)⟩,
    ⟨some (25, false), some 27, .call ⟨.value (.func 74), #[.tmp 26, .const (.int .i64 (-2)), .const (.int .i64 2)], #[25, 3, 3]⟩⟩,
    ⟨some (25, false), some 28, .unOp .not 4 (.tmp 27)⟩,
    ⟨none, some 29, .pick (.tmp 25) (.const (.bool true)) (.tmp 28)⟩] [29]) (.cond (.tmp 29) (.seq (.reg [⟨none, some 4, .assign (.const (.bool false))⟩] [4]) (.ret)) (.skip))))) (.reg [⟨none, some 30, .binOp .add 3 (.tmp 17) (.const (.int .i64 1)) 3⟩,
    ⟨none, some 17, .move (.tmp 30)⟩] [17])))
def cc_i_IsMatrix : CC :=
  .seq (.reg [⟨none, some 4, .assign (.const (.bool false))⟩] [4]) (.seq (.seq (.reg [⟨none, some 7, .move (.tmp 1)⟩,
    ⟨none, some 8, .call ⟨.value (.func 79), #[.tmp 7, .const (.int .i64 1), .const (.int .i64 6)], #[3, 3, 3]⟩⟩,
    ⟨none, some 9, .unOp .not 4 (.tmp 8)⟩,
    ⟨none, some 10, .move (.tmp 9)⟩,
    ⟨some (10, false), some 11, .move (.tmp 0)⟩,
    ⟨some (10, false), some 12, .call ⟨.builtin .len, #[.tmp 11], #[47]⟩⟩,
    ⟨some (10, false), some 13, .binOp .gtr 3 (.tmp 12) (.const (.int .i64 12)) 3⟩,
    ⟨none, some 14, .pick (.tmp 10) (.const (.bool true)) (.tmp 13)⟩] [14]) (.cond (.tmp 14) (.seq (.reg [⟨none, some 4, .assign (.const (.bool false))⟩] [4]) (.ret)) (.skip))) (.seq (.seq (.reg [⟨none, some 15, .move (.tmp 0)⟩,
    ⟨none, some 16, .call ⟨.builtin .len, #[.tmp 15], #[47]⟩⟩,
    ⟨none, some 17, .move (.const (.int .i64 0))⟩] [15, 16, 17]) (.block 0 (.loop L0_i_IsMatrix))) (.seq (.reg [⟨none, some 4, .assign (.const (.bool true))⟩] [4]) (.ret))))
def cc_sl_ContainsFunc_SSint_Sint : CC :=
  .seq (.reg [⟨none, some 4, .assign (.const (.bool false))⟩] [4]) (.seq (.reg [⟨none, some 5, .move (.tmp 0)⟩,
    ⟨none, some 6, .move (.tmp 1)⟩,
    ⟨none, some 7, .call ⟨.value (.func 129), #[.tmp 5, .tmp 6], #[47, 118]⟩⟩,
    ⟨none, some 8, .binOp .geq 3 (.tmp 7) (.const (.int .i64 0)) 3⟩,
    ⟨none, some 4, .assign (.tmp 8)⟩] [4]) (.ret))
def cc_i_isBits_1 : CC :=
  .seq (.reg [⟨none, some 2, .assign (.const (.bool false))⟩] [2]) (.seq (.reg [⟨none, some 3, .move (.tmp 0)⟩,
    ⟨none, some 4, .call ⟨.value (.func 74), #[.tmp 3, .const (.int .i64 0), .const (.int .i64 1)], #[25, 3, 3]⟩⟩,
    ⟨none, some 5, .unOp .not 4 (.tmp 4)⟩,
    ⟨none, some 2, .assign (.tmp 5)⟩] [2]) (.ret))
def cc_w_eqLink : CC :=
  .seq (.reg [⟨none, some 2, .box 109 (.tmp 0)⟩,
    ⟨none, some 3, .box 109 (.tmp 1)⟩,
    ⟨none, some 4, .assign (.const (.bool false))⟩] [2, 3, 4]) (.seq (.seq (.reg [⟨none, some 5, .fieldAddr 109 (.tmp 2) 0⟩,
    ⟨none, some 6, .load 3 (.tmp 5)⟩,
    ⟨none, some 7, .fieldAddr 109 (.tmp 3) 0⟩,
    ⟨none, some 8, .load 3 (.tmp 7)⟩,
    ⟨none, some 9, .binOp .neq 3 (.tmp 6) (.tmp 8) 3⟩] [9]) (.cond (.tmp 9) (.seq (.reg [⟨none, some 4, .assign (.const (.bool false))⟩] [4]) (.ret)) (.skip))) (.seq (.seq (.reg [⟨none, some 10, .fieldAddr 109 (.tmp 2) 1⟩,
    ⟨none, some 11, .load 3 (.tmp 10)⟩,
    ⟨none, some 12, .fieldAddr 109 (.tmp 3) 1⟩,
    ⟨none, some 13, .load 3 (.tmp 12)⟩,
    ⟨none, some 14, .binOp .neq 3 (.tmp 11) (.tmp 13) 3⟩] [14]) (.cond (.tmp 14) (.seq (.reg [⟨none, some 4, .assign (.const (.bool false))⟩] [4]) (.ret)) (.skip))) (.seq (.reg [⟨none, some 4, .assign (.const (.bool true))⟩] [4]) (.ret))))
def cc_s_Max : CC :=
  .seq (.reg [⟨none, some 4, .assign (.const (.int .i64 0))⟩] [4]) (.seq (.seq (.reg [⟨none, some 5, .move (.tmp 1)⟩,
    ⟨none, some 6, .move (.tmp 0)⟩,
    ⟨none, some 7, .binOp .gtr 3 (.tmp 5) (.tmp 6) 3⟩] [7]) (.cond (.tmp 7) (.seq (.reg [⟨none, some 8, .move (.tmp 1)⟩,
    ⟨none, some 4, .assign (.tmp 8)⟩] [4]) (.ret)) (.skip))) (.seq (.reg [⟨none, some 9, .move (.tmp 0)⟩,
    ⟨none, some 4, .assign (.tmp 9)⟩] [4]) (.ret)))
def L0_i_AfterVerdict : CC :=
  .seq (.reg [⟨none, some 13, .binOp .lss 3 (.tmp 12) (.tmp 11) 3⟩] [13]) (.seq (.cond (.tmp 13) (.skip) (.exit 0)) (.seq (.block 1 (.seq (.reg [⟨none, some 14, .indexAddr 47 (.tmp 10) (.tmp 12)⟩,
    ⟨none, some 15, .load 25 (.tmp 14)⟩,
    ⟨none, some 9, .assign (.tmp 15)⟩] [9]) (.seq (.reg [⟨none, some 16, .move (.tmp 1)⟩,
    ⟨none, some 17, .move (.tmp 9)⟩,
    ⟨none, some 18, .call ⟨.value (.func 94), #[.tmp 16, .tmp 17], #[25, 25]⟩⟩,
    ⟨none, some 19, .move (.tmp 2)⟩,
    ⟨none, some 20, .binOp .eql 4 (.tmp 18) (.tmp 19) 4⟩] [20]) (.cond (.tmp 20) (.reg [⟨none, some 21, .move (.tmp 7)⟩,
    ⟨none, some 22, .move (.tmp 9)⟩,
    ⟨none, some 23, .call ⟨.builtin .append, #[.const (.slice none 0 0), .tmp 22], #[25, 25]⟩⟩,
    ⟨none, some 24, .buildSlice 47 1 #[(0, .tmp 23)]⟩,
    ⟨none, some 25, .call ⟨.builtin .append, #[.tmp 21, .tmp 24], #[47, 47]⟩⟩,
    ⟨none, some 7, .assign (.tmp 25)⟩] [7]) (.skip))))) (.reg [⟨none, some 26, .binOp .add 3 (.tmp 12) (.const (.int .i64 1)) 3⟩,
    ⟨none, some 12, .move (.tmp 26)⟩] [12])))
def cc_i_AfterVerdict : CC :=
  .seq (.reg [⟨none, some 6, .assign (.const (.slice none 0 0))⟩] [6]) (.seq (.reg [⟨none, some 7, .assign (.const (.slice none 0 0))⟩] [7]) (.seq (.seq (.reg [⟨none, some 10, .move (.tmp 0)⟩,
    ⟨none, some 11, .call ⟨.builtin .len, #[.tmp 10], #[47]⟩⟩,
    ⟨none, some 12, .move (.const (.int .i64 0))⟩] [10, 11, 12]) (.block 0 (.loop L0_i_AfterVerdict))) (.seq (.reg [⟨none, some 27, .move (.tmp 7)⟩,
    ⟨none, some 6, .assign (.tmp 27)⟩] [6]) (.ret))))
def L0_i_SetsOf_1 : CC :=
  .seq (.seq (.reg [⟨none, some 19, .move (.tmp 8)⟩,
    ⟨none, some 20, .load 3 (.tmp 4)⟩,
    ⟨none, some 21, .binOp .lss 3 (.tmp 19) (.tmp 20) 3⟩] [21]) (.cond (.tmp 21) (.skip) (.exit 0))) (.seq (.block 1 (.regD [(⟨none, some 24, .load 123 (.tmp 5)⟩, []),
    (⟨none, some 25, .move (.tmp 0)⟩, []),
    (⟨none, some 26, .call ⟨.value (.func 117), #[.tmp 25], #[25]⟩⟩, [⟨none, some 24, .load 123 (.tmp 5)⟩]),
    (⟨none, some 27, .move (.tmp 8)⟩, []),
    (⟨none, some 28, .buildSlice 25 1 #[(0, .tmp 27)]⟩, []),
    (⟨none, some 29, .call ⟨.builtin .append, #[.tmp 26, .tmp 28], #[25, 25]⟩⟩, [⟨none, some 24, .load 123 (.tmp 5)⟩]),
    (⟨none, some 30, .move (.tmp 8)⟩, []),
    (⟨none, some 31, .binOp .add 3 (.tmp 30) (.const (.int .i64 1)) 3⟩, []),
    (⟨none, some 32, .call ⟨.value (.tmp 24), #[.tmp 29, .tmp 31], #[25, 3]⟩⟩, [])] [])) (.reg [⟨none, some 22, .move (.tmp 8)⟩,
    ⟨none, some 23, .binOp .add 3 (.tmp 22) (.const (.int .i64 1)) 3⟩,
    ⟨none, some 8, .assign (.tmp 23)⟩] [8]))
def cc_i_SetsOf_1 : CC :=
  .seq (.seq (.reg [⟨none, some 9, .move (.tmp 0)⟩,
    ⟨none, some 10, .call ⟨.builtin .len, #[.tmp 9], #[25]⟩⟩,
    ⟨none, some 11, .load 3 (.tmp 2)⟩,
    ⟨none, some 12, .binOp .eql 3 (.tmp 10) (.tmp 11) 3⟩] [12]) (.cond (.tmp 12) (.seq (.regD [(⟨none, some 13, .load 47 (.tmp 3)⟩, []),
    (⟨none, some 14, .move (.tmp 0)⟩, []),
    (⟨none, some 15, .call ⟨.value (.func 117), #[.tmp 14], #[25]⟩⟩, [⟨none, some 13, .load 47 (.tmp 3)⟩]),
    (⟨none, some 16, .buildSlice 47 1 #[(0, .tmp 15)]⟩, []),
    (⟨none, some 17, .call ⟨.builtin .append, #[.tmp 13, .tmp 16], #[47, 47]⟩⟩, []),
    (⟨none, none, .store 47 (.tmp 3) (.tmp 17)⟩, [])] []) (.ret)) (.skip))) (.seq (.reg [⟨none, some 18, .move (.tmp 1)⟩,
    ⟨none, some 8, .assign (.tmp 18)⟩] [8]) (.block 0 (.loop L0_i_SetsOf_1)))
def cc_sl_Clone_Sint_int : CC :=
  .seq (.reg [⟨none, some 2, .assign (.const (.slice none 0 0))⟩] [2]) (.seq (.seq (.reg [⟨none, some 3, .move (.tmp 0)⟩,
    ⟨none, some 4, .binOp .eql 25 (.tmp 3) (.const (.slice none 0 0)) 25⟩] [4]) (.cond (.tmp 4) (.seq (.reg [⟨none, some 2, .assign (.const (.slice none 0 0))⟩] [2]) (.ret)) (.skip))) (.seq (.reg [⟨none, some 5, .buildSlice 25 0 #[]⟩,
    ⟨none, some 6, .move (.tmp 0)⟩,
    ⟨none, some 7, .call ⟨.builtin .append, #[.tmp 5, .tmp 6], #[25, 25]⟩⟩,
    ⟨none, some 2, .assign (.tmp 7)⟩] [2]) (.ret)))
def cc_sl_ContainsFunc_Sint_int : CC :=
  .seq (.reg [⟨none, some 4, .assign (.const (.bool false))⟩] [4]) (.seq (.reg [⟨none, some 5, .move (.tmp 0)⟩,
    ⟨none, some 6, .move (.tmp 1)⟩,
    ⟨none, some 7, .call ⟨.value (.func 130), #[.tmp 5, .tmp 6], #[25, 125]⟩⟩,
    ⟨none, some 8, .binOp .geq 3 (.tmp 7) (.const (.int .i64 0)) 3⟩,
    ⟨none, some 4, .assign (.tmp 8)⟩] [4]) (.ret))
def cc_i_FailsWith_1 : CC :=
  .seq (.reg [⟨none, some 3, .assign (.const (.bool false))⟩] [3]) (.seq (.reg [⟨none, some 4, .move (.tmp 0)⟩,
    ⟨none, some 5, .load 25 (.tmp 1)⟩,
    ⟨none, some 6, .call ⟨.builtin .len, #[.tmp 5], #[25]⟩⟩,
    ⟨none, some 7, .call ⟨.value (.func 102), #[.tmp 4, .tmp 6], #[3, 3]⟩⟩,
    ⟨none, some 8, .move (.tmp 7)⟩,
    ⟨some (8, true), some 9, .load 25 (.tmp 1)⟩,
    ⟨some (8, true), some 10, .move (.tmp 0)⟩,
    ⟨some (8, true), some 11, .indexAddr 25 (.tmp 9) (.tmp 10)⟩,
    ⟨some (8, true), some 12, .load 3 (.tmp 11)⟩,
    ⟨some (8, true), some 13, .binOp .eql 3 (.tmp 12) (.const (.int .i64 1)) 3⟩,
    ⟨none, some 14, .pick (.tmp 8) (.tmp 13) (.const (.bool false))⟩,
    ⟨none, some 3, .assign (.tmp 14)⟩] [3]) (.ret))
def L0_s_EndOf : CC :=
  .seq (.seq (.reg [⟨none, some 11, .move (.tmp 8)⟩,
    ⟨none, some 12, .move (.tmp 1)⟩,
    ⟨none, some 13, .call ⟨.builtin .len, #[.tmp 12], #[25]⟩⟩,
    ⟨none, some 14, .binOp .lss 3 (.tmp 11) (.tmp 13) 3⟩] [14]) (.cond (.tmp 14) (.skip) (.exit 0))) (.seq (.block 1 (.seq (.seq (.reg [⟨none, some 17, .move (.tmp 1)⟩,
    ⟨none, some 18, .move (.tmp 8)⟩,
    ⟨none, some 19, .indexAddr 25 (.tmp 17) (.tmp 18)⟩,
    ⟨none, some 20, .load 3 (.tmp 19)⟩,
    ⟨none, some 21, .fieldAddr 36 (.tmp 3) 1⟩,
    ⟨none, some 22, .load 34 (.tmp 21)⟩,
    ⟨none, some 23, .call ⟨.builtin .len, #[.tmp 22], #[34]⟩⟩,
    ⟨none, some 24, .binOp .sub 3 (.tmp 23) (.const (.int .i64 1)) 3⟩,
    ⟨none, some 25, .call ⟨.value (.func 59), #[.tmp 20, .const (.int .i64 0), .tmp 24], #[3, 3, 3]⟩⟩,
    ⟨none, some 26, .unOp .not 4 (.tmp 25)⟩] [26]) (.cond (.tmp 26) (.seq (.reg [⟨none, some 6, .assign (.const (.int .i64 (-1)))⟩] [6]) (.ret)) (.skip))) (.seq (.regD [(⟨none, some 27, .fieldAddr 36 (.tmp 3) 1⟩, []),
    (⟨none, some 28, .load 34 (.tmp 27)⟩, []),
    (⟨none, some 29, .move (.tmp 1)⟩, []),
    (⟨none, some 30, .move (.tmp 8)⟩, []),
    (⟨none, some 31, .indexAddr 25 (.tmp 29) (.tmp 30)⟩, []),
    (⟨none, some 32, .load 3 (.tmp 31)⟩, []),
    (⟨none, some 33, .indexAddr 34 (.tmp 28) (.tmp 32)⟩, []),
    (⟨none, some 34, .load 109 (.tmp 33)⟩, []),
    (⟨none, some 9, .alloc 109⟩, [⟨none, some 28, .load 34 (.tmp 27)⟩, ⟨none, some 31, .indexAddr 25 (.tmp 29) (.tmp 30)⟩, ⟨none, some 32, .load 3 (.tmp 31)⟩, ⟨none, some 33, .indexAddr 34 (.tmp 28) (.tmp 32)⟩, ⟨none, some 34, .load 109 (.tmp 33)⟩]),
    (⟨none, none, .store 109 (.tmp 9) (.tmp 34)⟩, [])] [9]) (.seq (.reg [⟨none, some 35, .move (.tmp 7)⟩] [35]) (.block 2 (.seq (.reg [⟨none, some 37, .fieldAddr 109 (.tmp 9) 0⟩,
    ⟨none, some 38, .load 3 (.tmp 37)⟩,
    ⟨none, some 39, .binOp .eql 3 (.tmp 35) (.tmp 38) 3⟩,
    ⟨none, some 36, .assign (.tmp 39)⟩] [36]) (.cond (.tmp 36) (.reg [⟨none, some 40, .fieldAddr 109 (.tmp 9) 1⟩,
    ⟨none, some 41, .load 3 (.tmp 40)⟩,
    ⟨none, some 7, .assign (.tmp 41)⟩] [7]) (.seq (.reg [⟨none, some 43, .fieldAddr 109 (.tmp 9) 1⟩,
    ⟨none, some 44, .load 3 (.tmp 43)⟩,
    ⟨none, some 45, .binOp .eql 3 (.tmp 35) (.tmp 44) 3⟩,
    ⟨none, some 42, .assign (.tmp 45)⟩] [42]) (.cond (.tmp 42) (.reg [⟨none, some 46, .fieldAddr 109 (.tmp 9) 0⟩,
    ⟨none, some 47, .load 3 (.tmp 46)⟩,
    ⟨none, some 7, .assign (.tmp 47)⟩] [7]) (.seq (.reg [⟨none, some 6, .assign (.const (.int .i64 (-1)))⟩] [6]) (.ret))))))))))) (.reg [⟨none, some 15, .move (.tmp 8)⟩,
    ⟨none, some 16, .binOp .add 3 (.tmp 15) (.const (.int .i64 1)) 3⟩,
    ⟨none, some 8, .assign (.tmp 16)⟩] [8]))
def cc_s_EndOf : CC :=
  .seq (.reg [⟨none, some 3, .box 36 (.tmp 0)⟩,
    ⟨none, some 6, .assign (.const (.int .i64 0))⟩] [3, 6]) (.seq (.reg [⟨none, some 10, .move (.tmp 2)⟩,
    ⟨none, some 7, .assign (.tmp 10)⟩] [7]) (.seq (.seq (.reg [⟨none, some 8, .assign (.const (.int .i64 0))⟩] [8]) (.block 0 (.loop L0_s_EndOf))) (.seq (.reg [⟨none, some 48, .move (.tmp 7)⟩,
    ⟨none, some 6, .assign (.tmp 48)⟩] [6]) (.ret))))
def L0_sl_IndexFunc_Si_Link_i_Link : CC :=
  .seq (.reg [⟨none, some 9, .binOp .lss 3 (.tmp 8) (.tmp 7) 3⟩] [9]) (.seq (.cond (.tmp 9) (.skip) (.exit 0)) (.seq (.block 1 (.seq (.reg [⟨none, some 10, .move (.tmp 8)⟩,
    ⟨none, some 5, .assign (.tmp 10)⟩] [5]) (.seq (.reg [⟨none, some 11, .move (.tmp 1)⟩,
    ⟨none, some 12, .move (.tmp 0)⟩,
    ⟨none, some 13, .move (.tmp 5)⟩,
    ⟨none, some 14, .indexAddr 34 (.tmp 12) (.tmp 13)⟩,
    ⟨none, some 15, .load 109 (.tmp 14)⟩,
    ⟨none, some 16, .call ⟨.value (.tmp 11), #[.tmp 15], #[109]⟩⟩] [16]) (.cond (.tmp 16) (.seq (.reg [⟨none, some 17, .move (.tmp 5)⟩,
    ⟨none, some 4, .assign (.tmp 17)⟩] [4]) (.ret)) (.skip))))) (.reg [⟨none, some 18, .binOp .add 3 (.tmp 8) (.const (.int .i64 1)) 3⟩,
    ⟨none, some 8, .move (.tmp 18)⟩] [8])))
def cc_sl_IndexFunc_Si_Link_i_Link : CC :=
  .seq (.reg [⟨none, some 4, .assign (.const (.int .i64 0))⟩] [4]) (.seq (.seq (.reg [⟨none, some 6, .move (.tmp 0)⟩,
    ⟨none, some 7, .call ⟨.builtin .len, #[.tmp 6], #[34]⟩⟩,
    ⟨none, some 8, .move (.const (.int .i64 0))⟩] [7, 8]) (.block 0 (.loop L0_sl_IndexFunc_Si_Link_i_Link))) (.seq (.reg [⟨none, some 4, .assign (.const (.int .i64 (-1)))⟩] [4]) (.ret)))
def cc_i_LinkOf_1 : CC :=
  .seq (.reg [⟨none, some 3, .box 109 (.tmp 0)⟩,
    ⟨none, some 4, .assign (.const (.bool false))⟩] [3, 4]) (.seq (.reg [⟨none, some 5, .load 109 (.tmp 3)⟩,
    ⟨none, some 6, .load 3 (.tmp 1)⟩,
    ⟨none, some 7, .load 3 (.tmp 2)⟩,
    ⟨none, some 8, .build 109 #[(0, .tmp 6), (1, .tmp 7)]⟩,
    ⟨none, some 9, .binOp .eql 109 (.tmp 5) (.tmp 8) 109⟩,
    ⟨none, some 10, .move (.tmp 9)⟩,
    ⟨some (10, false), some 11, .load 109 (.tmp 3)⟩,
    ⟨some (10, false), some 12, .load 3 (.tmp 2)⟩,
    ⟨some (10, false), some 13, .load 3 (.tmp 1)⟩,
    ⟨some (10, false), some 14, .build 109 #[(0, .tmp 12), (1, .tmp 13)]⟩,
    ⟨some (10, false), some 15, .binOp .eql 109 (.tmp 11) (.tmp 14) 109⟩,
    ⟨none, some 16, .pick (.tmp 10) (.const (.bool true)) (.tmp 15)⟩,
    ⟨none, some 4, .assign (.tmp 16)⟩] [4]) (.ret))
def L0_sl_IndexFunc_Si_Probe_i_Probe : CC :=
  .seq (.reg [⟨none, some 9, .binOp .lss 3 (.tmp 8) (.tmp 7) 3⟩] [9]) (.seq (.cond (.tmp 9) (.skip) (.exit 0)) (.seq (.block 1 (.seq (.reg [⟨none, some 10, .move (.tmp 8)⟩,
    ⟨none, some 5, .assign (.tmp 10)⟩] [5]) (.seq (.reg [⟨none, some 11, .move (.tmp 1)⟩,
    ⟨none, some 12, .move (.tmp 0)⟩,
    ⟨none, some 13, .move (.tmp 5)⟩,
    ⟨none, some 14, .indexAddr 37 (.tmp 12) (.tmp 13)⟩,
    ⟨none, some 15, .load 91 (.tmp 14)⟩,
    ⟨none, some 16, .call ⟨.value (.tmp 11), #[.tmp 15], #[91]⟩⟩] [16]) (.cond (.tmp 16) (.seq (.reg [⟨none, some 17, .move (.tmp 5)⟩,
    ⟨none, some 4, .assign (.tmp 17)⟩] [4]) (.ret)) (.skip))))) (.reg [⟨none, some 18, .binOp .add 3 (.tmp 8) (.const (.int .i64 1)) 3⟩,
    ⟨none, some 8, .move (.tmp 18)⟩] [8])))
def cc_sl_IndexFunc_Si_Probe_i_Probe : CC :=
  .seq (.reg [⟨none, some 4, .assign (.const (.int .i64 0))⟩] [4]) (.seq (.seq (.reg [⟨none, some 6, .move (.tmp 0)⟩,
    ⟨none, some 7, .call ⟨.builtin .len, #[.tmp 6], #[37]⟩⟩,
    ⟨none, some 8, .move (.const (.int .i64 0))⟩] [7, 8]) (.block 0 (.loop L0_sl_IndexFunc_Si_Probe_i_Probe))) (.seq (.reg [⟨none, some 4, .assign (.const (.int .i64 (-1)))⟩] [4]) (.ret)))
def cc_sl_Contains_Sint_int : CC :=
  .seq (.reg [⟨none, some 4, .assign (.const (.bool false))⟩] [4]) (.seq (.reg [⟨none, some 5, .move (.tmp 0)⟩,
    ⟨none, some 6, .move (.tmp 1)⟩,
    ⟨none, some 7, .call ⟨.value (.func 133), #[.tmp 5, .tmp 6], #[25, 3]⟩⟩,
    ⟨none, some 8, .binOp .geq 3 (.tmp 7) (.const (.int .i64 0)) 3⟩,
    ⟨none, some 4, .assign (.tmp 8)⟩] [4]) (.ret))
def L0_i_EndOf : CC :=
  .seq (.reg [⟨none, some 13, .binOp .lss 3 (.tmp 12) (.tmp 11) 3⟩] [13]) (.seq (.cond (.tmp 13) (.skip) (.exit 0)) (.seq (.block 1 (.seq (.reg [⟨none, some 14, .indexAddr 25 (.tmp 10) (.tmp 12)⟩,
    ⟨none, some 15, .load 3 (.tmp 14)⟩,
    ⟨none, some 8, .assign (.tmp 15)⟩] [8]) (.seq (.seq (.reg [⟨none, some 16, .move (.tmp 8)⟩,
    ⟨none, some 17, .fieldAddr 36 (.tmp 3) 1⟩,
    ⟨none, some 18, .load 34 (.tmp 17)⟩,
    ⟨none, some 19, .call ⟨.builtin .len, #[.tmp 18], #[34]⟩⟩,
    ⟨none, some 20, .call ⟨.value (.func 102), #[.tmp 16, .tmp 19], #[3, 3]⟩⟩,
    ⟨none, some 21, .unOp .not 4 (.tmp 20)⟩] [21]) (.cond (.tmp 21) (.seq (.reg [⟨none, some 6, .assign (.const (.int .i64 (-1)))⟩] [6]) (.ret)) (.skip))) (.seq (.reg [⟨none, some 22, .fieldAddr 36 (.tmp 3) 1⟩,
    ⟨none, some 23, .load 34 (.tmp 22)⟩,
    ⟨none, some 24, .move (.tmp 8)⟩,
    ⟨none, some 25, .indexAddr 34 (.tmp 23) (.tmp 24)⟩,
    ⟨none, some 26, .load 109 (.tmp 25)⟩,
    ⟨none, some 9, .alloc 109⟩,
    ⟨none, none, .store 109 (.tmp 9) (.tmp 26)⟩] [9]) (.seq (.seq (.reg [⟨none, some 27, .move (.tmp 2)⟩,
    ⟨none, some 28, .fieldAddr 109 (.tmp 9) 0⟩,
    ⟨none, some 29, .load 3 (.tmp 28)⟩,
    ⟨none, some 30, .binOp .neq 3 (.tmp 27) (.tmp 29) 3⟩,
    ⟨none, some 31, .move (.tmp 30)⟩,
    ⟨some (31, true), some 32, .move (.tmp 2)⟩,
    ⟨some (31, true), some 33, .fieldAddr 109 (.tmp 9) 1⟩,
    ⟨some (31, true), some 34, .load 3 (.tmp 33)⟩,
    ⟨some (31, true), some 35, .binOp .neq 3 (.tmp 32) (.tmp 34) 3⟩,
    ⟨none, some 36, .pick (.tmp 31) (.tmp 35) (.const (.bool false))⟩] [36]) (.cond (.tmp 36) (.seq (.reg [⟨none, some 6, .assign (.const (.int .i64 (-1)))⟩] [6]) (.ret)) (.skip))) (.reg [⟨none, some 37, .load 109 (.tmp 9)⟩,
    ⟨none, some 38, .move (.tmp 2)⟩,
    ⟨none, some 39, .call ⟨.value (.func 134), #[.tmp 37, .tmp 38], #[109, 3]⟩⟩,
    ⟨none, some 2, .assign (.tmp 39)⟩] [2])))))) (.reg [⟨none, some 40, .binOp .add 3 (.tmp 12) (.const (.int .i64 1)) 3⟩,
    ⟨none, some 12, .move (.tmp 40)⟩] [12])))
def cc_i_EndOf : CC :=
  .seq (.reg [⟨none, some 3, .box 36 (.tmp 0)⟩,
    ⟨none, some 6, .assign (.const (.int .i64 0))⟩] [3, 6]) (.seq (.seq (.reg [⟨none, some 10, .move (.tmp 1)⟩,
    ⟨none, some 11, .call ⟨.builtin .len, #[.tmp 10], #[25]⟩⟩,
    ⟨none, some 12, .move (.const (.int .i64 0))⟩] [10, 11, 12]) (.block 0 (.loop L0_i_EndOf))) (.seq (.reg [⟨none, some 41, .move (.tmp 2)⟩,
    ⟨none, some 6, .assign (.tmp 41)⟩] [6]) (.ret)))
def L0_i_LatestOf : CC :=
  .seq (.seq (.reg [⟨none, some 11, .move (.tmp 7)⟩,
    ⟨none, some 12, .binOp .geq 3 (.tmp 11) (.const (.int .i64 0)) 3⟩] [12]) (.cond (.tmp 12) (.skip) (.exit 0))) (.seq (.block 1 (.seq (.reg [⟨none, some 15, .move (.tmp 0)⟩,
    ⟨none, some 16, .move (.tmp 7)⟩,
    ⟨none, some 17, .indexAddr 39 (.tmp 15) (.tmp 16)⟩,
    ⟨none, some 18, .fieldAddr 89 (.tmp 17) 0⟩,
    ⟨none, some 19, .load 3 (.tmp 18)⟩,
    ⟨none, some 20, .move (.tmp 1)⟩,
    ⟨none, some 21, .binOp .eql 3 (.tmp 19) (.tmp 20) 3⟩,
    ⟨none, some 22, .move (.tmp 21)⟩,
    ⟨some (22, true), some 23, .move (.tmp 0)⟩,
    ⟨some (22, true), some 24, .move (.tmp 7)⟩,
    ⟨some (22, true), some 25, .indexAddr 39 (.tmp 23) (.tmp 24)⟩,
    ⟨some (22, true), some 26, .fieldAddr 89 (.tmp 25) 4⟩,
    ⟨some (22, true), some 27, .load 4 (.tmp 26)⟩,
    ⟨some (22, true), some 28, .move (.tmp 2)⟩,
    ⟨some (22, true), some 29, .binOp .eql 4 (.tmp 27) (.tmp 28) 4⟩,
    ⟨none, some 30, .pick (.tmp 22) (.tmp 29) (.const (.bool false))⟩] [30]) (.cond (.tmp 30) (.seq (.reg [⟨none, some 31, .move (.tmp 7)⟩,
    ⟨none, some 6, .assign (.tmp 31)⟩] [6]) (.ret)) (.skip)))) (.reg [⟨none, some 13, .move (.tmp 7)⟩,
    ⟨none, some 14, .binOp .sub 3 (.tmp 13) (.const (.int .i64 1)) 3⟩,
    ⟨none, some 7, .assign (.tmp 14)⟩] [7]))
def cc_i_LatestOf : CC :=
  .seq (.reg [⟨none, some 6, .assign (.const (.int .i64 0))⟩] [6]) (.seq (.seq (.reg [⟨none, some 8, .move (.tmp 0)⟩,
    ⟨none, some 9, .call ⟨.builtin .len, #[.tmp 8], #[39]⟩⟩,
    ⟨none, some 10, .binOp .sub 3 (.tmp 9) (.const (.int .i64 1)) 3⟩,
    ⟨none, some 7, .assign (.tmp 10)⟩] [7]) (.block 0 (.loop L0_i_LatestOf))) (.seq (.reg [⟨none, some 6, .assign (.const (.int .i64 (-1)))⟩] [6]) (.ret)))
def L0_sl_IndexFunc_SSint_Sint : CC :=
  .seq (.reg [⟨none, some 9, .binOp .lss 3 (.tmp 8) (.tmp 7) 3⟩] [9]) (.seq (.cond (.tmp 9) (.skip) (.exit 0)) (.seq (.block 1 (.seq (.reg [⟨none, some 10, .move (.tmp 8)⟩,
    ⟨none, some 5, .assign (.tmp 10)⟩] [5]) (.seq (.reg [⟨none, some 11, .move (.tmp 1)⟩,
    ⟨none, some 12, .move (.tmp 0)⟩,
    ⟨none, some 13, .move (.tmp 5)⟩,
    ⟨none, some 14, .indexAddr 47 (.tmp 12) (.tmp 13)⟩,
    ⟨none, some 15, .load 25 (.tmp 14)⟩,
    ⟨none, some 16, .call ⟨.value (.tmp 11), #[.tmp 15], #[25]⟩⟩] [16]) (.cond (.tmp 16) (.seq (.reg [⟨none, some 17, .move (.tmp 5)⟩,
    ⟨none, some 4, .assign (.tmp 17)⟩] [4]) (.ret)) (.skip))))) (.reg [⟨none, some 18, .binOp .add 3 (.tmp 8) (.const (.int .i64 1)) 3⟩,
    ⟨none, some 8, .move (.tmp 18)⟩] [8])))
def cc_sl_IndexFunc_SSint_Sint : CC :=
  .seq (.reg [⟨none, some 4, .assign (.const (.int .i64 0))⟩] [4]) (.seq (.seq (.reg [⟨none, some 6, .move (.tmp 0)⟩,
    ⟨none, some 7, .call ⟨.builtin .len, #[.tmp 6], #[47]⟩⟩,
    ⟨none, some 8, .move (.const (.int .i64 0))⟩] [7, 8]) (.block 0 (.loop L0_sl_IndexFunc_SSint_Sint))) (.seq (.reg [⟨none, some 4, .assign (.const (.int .i64 (-1)))⟩] [4]) (.ret)))
def L0_sl_IndexFunc_Sint_int : CC :=
  .seq (.reg [⟨none, some 9, .binOp .lss 3 (.tmp 8) (.tmp 7) 3⟩] [9]) (.seq (.cond (.tmp 9) (.skip) (.exit 0)) (.seq (.block 1 (.seq (.reg [⟨none, some 10, .move (.tmp 8)⟩,
    ⟨none, some 5, .assign (.tmp 10)⟩] [5]) (.seq (.reg [⟨none, some 11, .move (.tmp 1)⟩,
    ⟨none, some 12, .move (.tmp 0)⟩,
    ⟨none, some 13, .move (.tmp 5)⟩,
    ⟨none, some 14, .indexAddr 25 (.tmp 12) (.tmp 13)⟩,
    ⟨none, some 15, .load 3 (.tmp 14)⟩,
    ⟨none, some 16, .call ⟨.value (.tmp 11), #[.tmp 15], #[3]⟩⟩] [16]) (.cond (.tmp 16) (.seq (.reg [⟨none, some 17, .move (.tmp 5)⟩,
    ⟨none, some 4, .assign (.tmp 17)⟩] [4]) (.ret)) (.skip))))) (.reg [⟨none, some 18, .binOp .add 3 (.tmp 8) (.const (.int .i64 1)) 3⟩,
    ⟨none, some 8, .move (.tmp 18)⟩] [8])))
def cc_sl_IndexFunc_Sint_int : CC :=
  .seq (.reg [⟨none, some 4, .assign (.const (.int .i64 0))⟩] [4]) (.seq (.seq (.reg [⟨none, some 6, .move (.tmp 0)⟩,
    ⟨none, some 7, .call ⟨.builtin .len, #[.tmp 6], #[25]⟩⟩,
    ⟨none, some 8, .move (.const (.int .i64 0))⟩] [7, 8]) (.block 0 (.loop L0_sl_IndexFunc_Sint_int))) (.seq (.reg [⟨none, some 4, .assign (.const (.int .i64 (-1)))⟩] [4]) (.ret)))
def L0_sl_Index_Sint_int : CC :=
  .seq (.reg [⟨none, some 9, .binOp .lss 3 (.tmp 8) (.tmp 7) 3⟩] [9]) (.seq (.cond (.tmp 9) (.skip) (.exit 0)) (.seq (.block 1 (.seq (.reg [⟨none, some 10, .move (.tmp 8)⟩,
    ⟨none, some 5, .assign (.tmp 10)⟩] [5]) (.seq (.reg [⟨none, some 11, .move (.tmp 1)⟩,
    ⟨none, some 12, .move (.tmp 0)⟩,
    ⟨none, some 13, .move (.tmp 5)⟩,
    ⟨none, some 14, .indexAddr 25 (.tmp 12) (.tmp 13)⟩,
    ⟨none, some 15, .load 3 (.tmp 14)⟩,
    ⟨none, some 16, .binOp .eql 3 (.tmp 11) (.tmp 15) 3⟩] [16]) (.cond (.tmp 16) (.seq (.reg [⟨none, some 17, .move (.tmp 5)⟩,
    ⟨none, some 4, .assign (.tmp 17)⟩] [4]) (.ret)) (.skip))))) (.reg [⟨none, some 18, .binOp .add 3 (.tmp 8) (.const (.int .i64 1)) 3⟩,
    ⟨none, some 8, .move (.tmp 18)⟩] [8])))
def cc_sl_Index_Sint_int : CC :=
  .seq (.reg [⟨none, some 4, .assign (.const (.int .i64 0))⟩] [4]) (.seq (.seq (.reg [⟨none, some 6, .move (.tmp 0)⟩,
    ⟨none, some 7, .call ⟨.builtin .len, #[.tmp 6], #[25]⟩⟩,
    ⟨none, some 8, .move (.const (.int .i64 0))⟩] [7, 8]) (.block 0 (.loop L0_sl_Index_Sint_int))) (.seq (.reg [⟨none, some 4, .assign (.const (.int .i64 (-1)))⟩] [4]) (.ret)))
def cc_i_Link_across : CC :=
  .seq (.reg [⟨none, some 2, .box 109 (.tmp 0)⟩,
    ⟨none, some 4, .assign (.const (.int .i64 0))⟩] [2, 4]) (.seq (.seq (.reg [⟨none, some 5, .move (.tmp 1)⟩] [5]) (.block 0 (.seq (.reg [⟨none, some 7, .fieldAddr 109 (.tmp 2) 0⟩,
    ⟨none, some 8, .load 3 (.tmp 7)⟩,
    ⟨none, some 9, .binOp .eql 3 (.tmp 5) (.tmp 8) 3⟩,
    ⟨none, some 6, .assign (.tmp 9)⟩] [6]) (.cond (.tmp 6) (.seq (.reg [⟨none, some 10, .fieldAddr 109 (.tmp 2) 1⟩,
    ⟨none, some 11, .load 3 (.tmp 10)⟩,
    ⟨none, some 4, .assign (.tmp 11)⟩] [4]) (.ret)) (.seq (.reg [⟨none, some 13, .fieldAddr 109 (.tmp 2) 1⟩,
    ⟨none, some 14, .load 3 (.tmp 13)⟩,
    ⟨none, some 15, .binOp .eql 3 (.tmp 5) (.tmp 14) 3⟩,
    ⟨none, some 12, .assign (.tmp 15)⟩] [12]) (.cond (.tmp 12) (.seq (.reg [⟨none, some 16, .fieldAddr 109 (.tmp 2) 0⟩,
    ⟨none, some 17, .load 3 (.tmp 16)⟩,
    ⟨none, some 4, .assign (.tmp 17)⟩] [4]) (.ret)) (.skip))))))) (.seq (.reg [⟨none, some 4, .assign (.const (.int .i64 (-1)))⟩] [4]) (.ret)))
/-- Which slots count across regions. -/
def kpOf : Nat → List Nat
  | 4 => [0, 1, 2, 4, 5, 6, 7, 8, 13, 25, 30]
  | 5 => [0, 1, 2, 4, 5, 6, 7, 8, 9, 10, 11, 12, 17, 30, 35, 46, 54, 57, 65, 70, 73]
  | 6 => [0, 1, 2, 3, 4, 5, 6, 7, 8, 9, 10, 15, 26, 31, 42, 50, 53, 60, 65, 68]
  | 7 => [0, 1, 2, 4, 10, 16, 22, 28, 34, 40, 46]
  | 9 => [0, 1, 2, 3]
  | 11 => [0, 1, 2, 3, 4, 10, 16, 22, 28, 34, 40, 46, 52, 57]
  | 12 => [0, 1, 2, 4]
  | 13 => [0, 1, 2, 4]
  | 14 => [0, 1, 2, 4, 5, 6, 7, 8, 9, 13, 29, 43]
  | 15 => [0, 1, 2, 4, 5, 6, 7, 9, 12, 23, 24, 25, 26, 37]
  | 16 => [0, 1, 4, 5, 10, 14, 26]
  | 17 => [0, 1, 2, 4]
  | 18 => [0, 1, 4, 5, 9]
  | 19 => [0, 1, 4, 5, 9, 19]
  | 20 => [0, 1, 2, 3, 4]
  | 21 => [0, 1, 2, 3, 4]
  | 22 => [0, 1, 2, 4, 10]
  | 23 => [0, 1, 4, 10]
  | 24 => [0, 1, 4, 5, 11, 15, 25]
  | 25 => [0, 1, 4, 10]
  | 26 => [0, 1, 2, 3, 4, 9, 18, 23, 32, 70]
  | 27 => [0, 1, 2, 3, 4, 5, 6, 7, 8, 13, 24]
  | 29 => [0, 1, 2, 3]
  | 30 => [0, 2, 3, 4, 11]
  | 31 => [0, 2, 3, 4, 11]
  | 32 => [0, 1, 2, 3]
  | 33 => [0, 2, 3, 4, 11]
  | 34 => [0, 1, 2]
  | 35 => [0, 1, 2, 3, 4, 5, 7, 8, 11, 16, 17, 18, 19]
  | 37 => [0, 1, 2, 3, 4, 9, 15]
  | 38 => [0, 1, 4, 5, 10, 14, 25]
  | 39 => [0, 1, 4, 5, 10, 14, 26]
  | 40 => [0, 1, 2, 3, 4, 9, 14, 19, 24]
  | 41 => [0, 1, 4, 5, 10, 14, 26]
  | 42 => [0, 1, 4, 5, 6, 7, 8, 14, 25]
  | 43 => [0, 1, 2]
  | 44 => [0, 1, 4, 5, 6, 7, 8, 9, 12, 13, 14, 15, 24]
  | 45 => [0, 1, 2]
  | 46 => [0, 1, 4, 5, 6, 15]
  | 47 => [0, 1, 2, 6, 7, 12, 16, 29]
  | 48 => [0, 1, 4, 5, 6, 11]
  | 49 => [0, 1, 2, 6, 7, 8, 13, 14, 15, 16, 17, 28]
  | 50 => [0, 1, 2, 4]
  | 51 => [0, 1, 4, 5, 9]
  | 52 => [0, 1, 4, 5, 9]
  | 53 => [0, 1, 4, 5, 9]
  | 54 => [0, 1, 4, 5, 9, 17]
  | 55 => [0, 1, 2, 6, 7, 8, 9, 10, 25, 34, 43]
  | 56 => [0, 1, 2, 6, 7, 8, 10, 15, 17, 18, 19, 23, 24, 25, 26, 32, 40]
  | 57 => [0, 1, 4, 10]
  | 58 => [0, 1, 2, 4, 10]
  | 59 => [0, 1, 2, 6]
  | 60 => [0, 1, 2, 3, 4, 5, 16, 21, 62]
  | 61 => [0, 1, 4, 5, 9, 35]
  | 62 => [0, 1, 2, 4, 5, 9, 38]
  | 63 => [0, 1, 2]
  | 64 => [0, 1, 2, 6, 7, 8, 12, 46, 68]
  | 65 => [0, 1, 4, 5, 6, 7, 8, 13, 31, 45]
  | 66 => [0, 1, 4, 5, 6, 7, 11, 15, 20]
  | 67 => [0, 1, 4, 5, 6, 14, 18, 27, 30, 41]
  | 68 => [0, 2, 3, 4, 8, 17, 28]
  | 70 => [0, 2, 3, 4, 11]
  | 71 => [0, 1, 2, 3]
  | 72 => [0, 1, 2, 3]
  | 73 => [0, 1, 2, 3, 4, 15, 17, 18, 19, 20, 54]
  | 74 => [0, 1, 2, 6, 8, 9, 10, 11, 12, 19]
  | 75 => [0, 1, 4]
  | 76 => [0, 1, 2, 4]
  | 77 => [0, 1, 2]
  | 78 => [0, 1, 2, 6, 7, 9, 12, 13, 14, 15, 16, 52]
  | 79 => [0, 1, 2, 6]
  | 80 => [0, 1, 4, 5, 6, 7, 8, 9, 10, 11, 26]
  | 81 => [0, 1, 4, 5, 7, 10, 13, 14, 15, 16, 21]
  | 82 => [0, 1, 4]
  | 84 => [0, 1, 4, 5, 10, 14, 26]
  | 85 => [0, 1, 2, 3, 4, 9, 14, 20]
  | 86 => [0, 1, 2, 3, 4, 9, 14, 19, 24, 29]
  | 87 => [0, 1, 4, 5, 6, 10, 18]
  | 88 => [0, 1, 4, 5, 6, 11]
  | 89 => [0, 1, 4, 5]
  | 90 => [0, 1, 4, 5, 7, 8, 9, 10, 11]
  | 91 => [0, 1, 4, 5, 6, 7, 8, 9, 10, 20, 28, 35, 43, 60]
  | 92 => [0, 1, 4, 5, 9, 29]
  | 93 => [0, 1, 2, 3, 4, 5, 6, 15]
  | 94 => [0, 1, 2, 4]
  | 95 => [0, 1, 4, 5, 9]
  | 96 => [0, 1, 2, 6]
  | 97 => [0, 1, 2, 6]
  | 98 => [0, 1, 2, 3, 6, 7, 12, 34]
  | 99 => [0, 1, 2, 3, 4, 8, 9, 13, 23]
  | 100 => [0, 1, 4, 5, 9, 17]
  | 101 => [0, 1, 2, 3]
  | 102 => [0, 1, 4]
  | 103 => [0, 1, 2, 3, 4, 5, 6]
  | 104 => [0, 1, 4, 5, 10, 12, 13, 14, 24]
  | 105 => [0, 2, 3]
  | 106 => [0, 1, 4]
  | 107 => [0, 1, 2, 3]
  | 108 => [0, 1, 2, 3, 4, 8, 9, 10, 11, 12, 13, 14, 22]
  | 109 => [0, 1, 4]
  | 110 => [0, 1, 4, 6, 14, 15, 16, 17, 18, 29]
  | 111 => [0, 1, 4]
  | 112 => [0, 2]
  | 113 => [0, 1, 2, 3, 4, 9, 14]
  | 114 => [0, 1, 4, 7]
  | 115 => [0, 1, 2, 6, 7, 9, 10, 11, 12, 13, 20]
  | 116 => [0, 1, 2, 3, 4, 5, 8, 12, 21]
  | 117 => [0, 2, 4]
  | 118 => [0, 1, 4]
  | 119 => [0, 1, 3]
  | 120 => [0, 1, 2, 3, 6, 7, 8, 9, 14, 26, 35, 36, 42]
  | 121 => [0, 1, 4, 5, 7, 8, 9, 16]
  | 122 => [0, 1, 2, 3, 4]
  | 125 => [0, 1, 4, 5, 7, 8, 9, 16]
  | 126 => [0, 1, 4]
  | 127 => [0, 1, 2, 3, 6, 8, 9, 10, 11, 12, 13, 21, 36]
  | 128 => [0, 1, 2, 6, 7, 12, 30]
  | 129 => [0, 1, 4, 5, 7, 8, 9, 16]
  | 130 => [0, 1, 4, 5, 7, 8, 9, 16]
  | 133 => [0, 1, 4, 5, 7, 8, 9, 16]
  | 134 => [0, 1, 2, 4, 5, 6, 12]
  | _ => []
/-- The program, and how its functions are run. -/
noncomputable def pk (X : FuncId → Option (List AV → Hp → Option (AV × Hp))) : Pk := { P := Tryz.prog, T := teOf Tryz.prog, K := fun f t => (kpOf f).contains t, fz := fun f => !([117, 116] : List Nat).contains f, X := X }
/-- Who leaves the heap alone. -/
def stl (f : FuncId) : Bool := !([116, 117, 124, 123] : List Nat).contains f
variable {X : FuncId → Option (List AV → Hp → Option (AV × Hp))}
theorem c_w_FnExactNextForFaults : cfun stl (fun t => (kpOf 4).contains t) Tryz.f4 = some (cc_w_FnExactNextForFaults, [.tmp 4]) := by kernel_rfl
theorem f_w_FnExactNextForFaults : (pk X).P.funcs[4]? = some Tryz.f4 := by kernel_rfl
theorem c_w_FnExactGuessesNow : cfun stl (fun t => (kpOf 5).contains t) Tryz.f5 = some (cc_w_FnExactGuessesNow, [.tmp 4]) := by kernel_rfl
theorem f_w_FnExactGuessesNow : (pk X).P.funcs[5]? = some Tryz.f5 := by kernel_rfl
theorem c_w_FnExactBlameSets : cfun stl (fun t => (kpOf 6).contains t) Tryz.f6 = some (cc_w_FnExactBlameSets, [.tmp 2]) := by kernel_rfl
theorem f_w_FnExactBlameSets : (pk X).P.funcs[6]? = some Tryz.f6 := by kernel_rfl
theorem c_w_szWorld : cfun stl (fun t => (kpOf 7).contains t) Tryz.f7 = some (cc_w_szWorld, [.tmp 4]) := by kernel_rfl
theorem f_w_szWorld : (pk X).P.funcs[7]? = some Tryz.f7 := by kernel_rfl
theorem c_w_toWorld : cfun stl (fun t => (kpOf 9).contains t) Tryz.f9 = some (cc_w_toWorld, [.cell 2 41]) := by kernel_rfl
theorem f_w_toWorld : (pk X).P.funcs[9]? = some Tryz.f9 := by kernel_rfl
theorem c_w_eqWorld : cfun stl (fun t => (kpOf 11).contains t) Tryz.f11 = some (cc_w_eqWorld, [.tmp 4]) := by kernel_rfl
theorem f_w_eqWorld : (pk X).P.funcs[11]? = some Tryz.f11 := by kernel_rfl
theorem c_s_NextForFaults : cfun stl (fun t => (kpOf 12).contains t) Tryz.f12 = some (cc_s_NextForFaults, [.tmp 4]) := by kernel_rfl
theorem f_s_NextForFaults : (pk X).P.funcs[12]? = some Tryz.f12 := by kernel_rfl
theorem c_i_NextForFaults : cfun stl (fun t => (kpOf 13).contains t) Tryz.f13 = some (cc_i_NextForFaults, [.tmp 4]) := by kernel_rfl
theorem f_i_NextForFaults : (pk X).P.funcs[13]? = some Tryz.f13 := by kernel_rfl
theorem c_s_GuessesNow : cfun stl (fun t => (kpOf 14).contains t) Tryz.f14 = some (cc_s_GuessesNow, [.tmp 4]) := by kernel_rfl
theorem f_s_GuessesNow : (pk X).P.funcs[14]? = some Tryz.f14 := by kernel_rfl
theorem c_i_GuessesNow : cfun stl (fun t => (kpOf 15).contains t) Tryz.f15 = some (cc_i_GuessesNow, [.tmp 4]) := by kernel_rfl
theorem f_i_GuessesNow : (pk X).P.funcs[15]? = some Tryz.f15 := by kernel_rfl
theorem c_w_eqIntSS : cfun stl (fun t => (kpOf 16).contains t) Tryz.f16 = some (cc_w_eqIntSS, [.tmp 4]) := by kernel_rfl
theorem f_w_eqIntSS : (pk X).P.funcs[16]? = some Tryz.f16 := by kernel_rfl
theorem c_w_markWorld : cfun stl (fun t => (kpOf 17).contains t) Tryz.f17 = some (cc_w_markWorld, [.tmp 4]) := by kernel_rfl
theorem f_w_markWorld : (pk X).P.funcs[17]? = some Tryz.f17 := by kernel_rfl
theorem c_w_markIntSS : cfun stl (fun t => (kpOf 18).contains t) Tryz.f18 = some (cc_w_markIntSS, [.tmp 4]) := by kernel_rfl
theorem f_w_markIntSS : (pk X).P.funcs[18]? = some Tryz.f18 := by kernel_rfl
theorem c_w_heldIntSS : cfun stl (fun t => (kpOf 19).contains t) Tryz.f19 = some (cc_w_heldIntSS, [.tmp 4]) := by kernel_rfl
theorem f_w_heldIntSS : (pk X).P.funcs[19]? = some Tryz.f19 := by kernel_rfl
theorem c_s_BlameSets : cfun stl (fun t => (kpOf 20).contains t) Tryz.f20 = some (cc_s_BlameSets, [.tmp 2]) := by kernel_rfl
theorem f_s_BlameSets : (pk X).P.funcs[20]? = some Tryz.f20 := by kernel_rfl
theorem c_i_BlameSets : cfun stl (fun t => (kpOf 21).contains t) Tryz.f21 = some (cc_i_BlameSets, [.tmp 2]) := by kernel_rfl
theorem f_i_BlameSets : (pk X).P.funcs[21]? = some Tryz.f21 := by kernel_rfl
theorem c_w_szNet : cfun stl (fun t => (kpOf 22).contains t) Tryz.f22 = some (cc_w_szNet, [.tmp 4]) := by kernel_rfl
theorem f_w_szNet : (pk X).P.funcs[22]? = some Tryz.f22 := by kernel_rfl
theorem c_w_szIntS : cfun stl (fun t => (kpOf 23).contains t) Tryz.f23 = some (cc_w_szIntS, [.tmp 4]) := by kernel_rfl
theorem f_w_szIntS : (pk X).P.funcs[23]? = some Tryz.f23 := by kernel_rfl
theorem c_w_szProbeS : cfun stl (fun t => (kpOf 24).contains t) Tryz.f24 = some (cc_w_szProbeS, [.tmp 4]) := by kernel_rfl
theorem f_w_szProbeS : (pk X).P.funcs[24]? = some Tryz.f24 := by kernel_rfl
theorem c_w_szSeenS : cfun stl (fun t => (kpOf 25).contains t) Tryz.f25 = some (cc_w_szSeenS, [.tmp 4]) := by kernel_rfl
theorem f_w_szSeenS : (pk X).P.funcs[25]? = some Tryz.f25 := by kernel_rfl
theorem c_s_IsWorld : cfun stl (fun t => (kpOf 26).contains t) Tryz.f26 = some (cc_s_IsWorld, [.tmp 2]) := by kernel_rfl
theorem f_s_IsWorld : (pk X).P.funcs[26]? = some Tryz.f26 := by kernel_rfl
theorem c_s_VerdictsNow : cfun stl (fun t => (kpOf 27).contains t) Tryz.f27 = some (cc_s_VerdictsNow, [.tmp 2, .tmp 3]) := by kernel_rfl
theorem f_s_VerdictsNow : (pk X).P.funcs[27]? = some Tryz.f27 := by kernel_rfl
theorem c_w_toNet : cfun stl (fun t => (kpOf 29).contains t) Tryz.f29 = some (cc_w_toNet, [.cell 2 36]) := by kernel_rfl
theorem f_w_toNet : (pk X).P.funcs[29]? = some Tryz.f29 := by kernel_rfl
theorem c_w_toIntS : cfun stl (fun t => (kpOf 30).contains t) Tryz.f30 = some (cc_w_toIntS, [.tmp 2]) := by kernel_rfl
theorem f_w_toIntS : (pk X).P.funcs[30]? = some Tryz.f30 := by kernel_rfl
theorem c_w_toProbeS : cfun stl (fun t => (kpOf 31).contains t) Tryz.f31 = some (cc_w_toProbeS, [.tmp 2]) := by kernel_rfl
theorem f_w_toProbeS : (pk X).P.funcs[31]? = some Tryz.f31 := by kernel_rfl
theorem c_w_toBucket : cfun stl (fun t => (kpOf 32).contains t) Tryz.f32 = some (cc_w_toBucket, [.cell 2 38]) := by kernel_rfl
theorem f_w_toBucket : (pk X).P.funcs[32]? = some Tryz.f32 := by kernel_rfl
theorem c_w_toSeenS : cfun stl (fun t => (kpOf 33).contains t) Tryz.f33 = some (cc_w_toSeenS, [.tmp 2]) := by kernel_rfl
theorem f_w_toSeenS : (pk X).P.funcs[33]? = some Tryz.f33 := by kernel_rfl
theorem c_i_IsWorld : cfun stl (fun t => (kpOf 34).contains t) Tryz.f34 = some (cc_i_IsWorld, [.tmp 2]) := by kernel_rfl
theorem f_i_IsWorld : (pk X).P.funcs[34]? = some Tryz.f34 := by kernel_rfl
theorem c_i_VerdictsNow : cfun stl (fun t => (kpOf 35).contains t) Tryz.f35 = some (cc_i_VerdictsNow, [.tmp 2, .tmp 3]) := by kernel_rfl
theorem f_i_VerdictsNow : (pk X).P.funcs[35]? = some Tryz.f35 := by kernel_rfl
theorem c_w_eqNet : cfun stl (fun t => (kpOf 37).contains t) Tryz.f37 = some (cc_w_eqNet, [.tmp 4]) := by kernel_rfl
theorem f_w_eqNet : (pk X).P.funcs[37]? = some Tryz.f37 := by kernel_rfl
theorem c_w_eqIntS : cfun stl (fun t => (kpOf 38).contains t) Tryz.f38 = some (cc_w_eqIntS, [.tmp 4]) := by kernel_rfl
theorem f_w_eqIntS : (pk X).P.funcs[38]? = some Tryz.f38 := by kernel_rfl
theorem c_w_eqProbeS : cfun stl (fun t => (kpOf 39).contains t) Tryz.f39 = some (cc_w_eqProbeS, [.tmp 4]) := by kernel_rfl
theorem f_w_eqProbeS : (pk X).P.funcs[39]? = some Tryz.f39 := by kernel_rfl
theorem c_w_eqBucket : cfun stl (fun t => (kpOf 40).contains t) Tryz.f40 = some (cc_w_eqBucket, [.tmp 4]) := by kernel_rfl
theorem f_w_eqBucket : (pk X).P.funcs[40]? = some Tryz.f40 := by kernel_rfl
theorem c_w_eqSeenS : cfun stl (fun t => (kpOf 41).contains t) Tryz.f41 = some (cc_w_eqSeenS, [.tmp 4]) := by kernel_rfl
theorem f_w_eqSeenS : (pk X).P.funcs[41]? = some Tryz.f41 := by kernel_rfl
theorem c_s_BestRow : cfun stl (fun t => (kpOf 42).contains t) Tryz.f42 = some (cc_s_BestRow, [.tmp 4]) := by kernel_rfl
theorem f_s_BestRow : (pk X).P.funcs[42]? = some Tryz.f42 := by kernel_rfl
theorem c_s_WorldMatrix : cfun stl (fun t => (kpOf 43).contains t) Tryz.f43 = some (cc_s_WorldMatrix, [.tmp 2]) := by kernel_rfl
theorem f_s_WorldMatrix : (pk X).P.funcs[43]? = some Tryz.f43 := by kernel_rfl
theorem c_i_BestRow : cfun stl (fun t => (kpOf 44).contains t) Tryz.f44 = some (cc_i_BestRow, [.tmp 4]) := by kernel_rfl
theorem f_i_BestRow : (pk X).P.funcs[44]? = some Tryz.f44 := by kernel_rfl
theorem c_i_WorldMatrix : cfun stl (fun t => (kpOf 45).contains t) Tryz.f45 = some (cc_i_WorldMatrix, [.tmp 2]) := by kernel_rfl
theorem f_i_WorldMatrix : (pk X).P.funcs[45]? = some Tryz.f45 := by kernel_rfl
theorem c_s_l16Sets : cfun stl (fun t => (kpOf 46).contains t) Tryz.f46 = some (cc_s_l16Sets, [.tmp 4]) := by kernel_rfl
theorem f_s_l16Sets : (pk X).P.funcs[46]? = some Tryz.f46 := by kernel_rfl
theorem c_s_Explains : cfun stl (fun t => (kpOf 47).contains t) Tryz.f47 = some (cc_s_Explains, [.tmp 6]) := by kernel_rfl
theorem f_s_Explains : (pk X).P.funcs[47]? = some Tryz.f47 := by kernel_rfl
theorem c_i_setsTo : cfun stl (fun t => (kpOf 48).contains t) Tryz.f48 = some (cc_i_setsTo, [.tmp 4]) := by kernel_rfl
theorem f_i_setsTo : (pk X).P.funcs[48]? = some Tryz.f48 := by kernel_rfl
theorem c_i_Explains : cfun stl (fun t => (kpOf 49).contains t) Tryz.f49 = some (cc_i_Explains, [.tmp 6]) := by kernel_rfl
theorem f_i_Explains : (pk X).P.funcs[49]? = some Tryz.f49 := by kernel_rfl
theorem c_w_markNet : cfun stl (fun t => (kpOf 50).contains t) Tryz.f50 = some (cc_w_markNet, [.tmp 4]) := by kernel_rfl
theorem f_w_markNet : (pk X).P.funcs[50]? = some Tryz.f50 := by kernel_rfl
theorem c_w_markIntS : cfun stl (fun t => (kpOf 51).contains t) Tryz.f51 = some (cc_w_markIntS, [.tmp 4]) := by kernel_rfl
theorem f_w_markIntS : (pk X).P.funcs[51]? = some Tryz.f51 := by kernel_rfl
theorem c_w_markProbeS : cfun stl (fun t => (kpOf 52).contains t) Tryz.f52 = some (cc_w_markProbeS, [.tmp 4]) := by kernel_rfl
theorem f_w_markProbeS : (pk X).P.funcs[52]? = some Tryz.f52 := by kernel_rfl
theorem c_w_markSeenS : cfun stl (fun t => (kpOf 53).contains t) Tryz.f53 = some (cc_w_markSeenS, [.tmp 4]) := by kernel_rfl
theorem f_w_markSeenS : (pk X).P.funcs[53]? = some Tryz.f53 := by kernel_rfl
theorem c_w_heldIntS : cfun stl (fun t => (kpOf 54).contains t) Tryz.f54 = some (cc_w_heldIntS, [.tmp 4]) := by kernel_rfl
theorem f_w_heldIntS : (pk X).P.funcs[54]? = some Tryz.f54 := by kernel_rfl
theorem c_s_SmallestSets : cfun stl (fun t => (kpOf 55).contains t) Tryz.f55 = some (cc_s_SmallestSets, [.tmp 6]) := by kernel_rfl
theorem f_s_SmallestSets : (pk X).P.funcs[55]? = some Tryz.f55 := by kernel_rfl
theorem c_i_SmallestSets : cfun stl (fun t => (kpOf 56).contains t) Tryz.f56 = some (cc_i_SmallestSets, [.tmp 6]) := by kernel_rfl
theorem f_i_SmallestSets : (pk X).P.funcs[56]? = some Tryz.f56 := by kernel_rfl
theorem c_w_szLinkS : cfun stl (fun t => (kpOf 57).contains t) Tryz.f57 = some (cc_w_szLinkS, [.tmp 4]) := by kernel_rfl
theorem f_w_szLinkS : (pk X).P.funcs[57]? = some Tryz.f57 := by kernel_rfl
theorem c_w_szProbe : cfun stl (fun t => (kpOf 58).contains t) Tryz.f58 = some (cc_w_szProbe, [.tmp 4]) := by kernel_rfl
theorem f_w_szProbe : (pk X).P.funcs[58]? = some Tryz.f58 := by kernel_rfl
theorem c_s_l1In : cfun stl (fun t => (kpOf 59).contains t) Tryz.f59 = some (cc_s_l1In, [.tmp 6]) := by kernel_rfl
theorem f_s_l1In : (pk X).P.funcs[59]? = some Tryz.f59 := by kernel_rfl
theorem c_s_IsNet : cfun stl (fun t => (kpOf 60).contains t) Tryz.f60 = some (cc_s_IsNet, [.tmp 2]) := by kernel_rfl
theorem f_s_IsNet : (pk X).P.funcs[60]? = some Tryz.f60 := by kernel_rfl
theorem c_s_l29Set : cfun stl (fun t => (kpOf 61).contains t) Tryz.f61 = some (cc_s_l29Set, [.tmp 4]) := by kernel_rfl
theorem f_s_l29Set : (pk X).P.funcs[61]? = some Tryz.f61 := by kernel_rfl
theorem c_s_AreProbes : cfun stl (fun t => (kpOf 62).contains t) Tryz.f62 = some (cc_s_AreProbes, [.tmp 4]) := by kernel_rfl
theorem f_s_AreProbes : (pk X).P.funcs[62]? = some Tryz.f62 := by kernel_rfl
theorem c_s_IsBucket : cfun stl (fun t => (kpOf 63).contains t) Tryz.f63 = some (cc_s_IsBucket, [.tmp 2]) := by kernel_rfl
theorem f_s_IsBucket : (pk X).P.funcs[63]? = some Tryz.f63 := by kernel_rfl
theorem c_s_AreSeen : cfun stl (fun t => (kpOf 64).contains t) Tryz.f64 = some (cc_s_AreSeen, [.tmp 6]) := by kernel_rfl
theorem f_s_AreSeen : (pk X).P.funcs[64]? = some Tryz.f64 := by kernel_rfl
theorem c_s_SeenAt : cfun stl (fun t => (kpOf 65).contains t) Tryz.f65 = some (cc_s_SeenAt, [.tmp 4]) := by kernel_rfl
theorem f_s_SeenAt : (pk X).P.funcs[65]? = some Tryz.f65 := by kernel_rfl
theorem c_s_RowOf : cfun stl (fun t => (kpOf 66).contains t) Tryz.f66 = some (cc_s_RowOf, [.tmp 4]) := by kernel_rfl
theorem f_s_RowOf : (pk X).P.funcs[66]? = some Tryz.f66 := by kernel_rfl
theorem c_s_IsMatrix : cfun stl (fun t => (kpOf 67).contains t) Tryz.f67 = some (cc_s_IsMatrix, [.tmp 4]) := by kernel_rfl
theorem f_s_IsMatrix : (pk X).P.funcs[67]? = some Tryz.f67 := by kernel_rfl
theorem c_s_l15Bits : cfun stl (fun t => (kpOf 68).contains t) Tryz.f68 = some (cc_s_l15Bits, [.tmp 2]) := by kernel_rfl
theorem f_s_l15Bits : (pk X).P.funcs[68]? = some Tryz.f68 := by kernel_rfl
theorem c_w_toLinkS : cfun stl (fun t => (kpOf 70).contains t) Tryz.f70 = some (cc_w_toLinkS, [.tmp 2]) := by kernel_rfl
theorem f_w_toLinkS : (pk X).P.funcs[70]? = some Tryz.f70 := by kernel_rfl
theorem c_w_toProbe : cfun stl (fun t => (kpOf 71).contains t) Tryz.f71 = some (cc_w_toProbe, [.cell 2 91]) := by kernel_rfl
theorem f_w_toProbe : (pk X).P.funcs[71]? = some Tryz.f71 := by kernel_rfl
theorem c_w_toSeen : cfun stl (fun t => (kpOf 72).contains t) Tryz.f72 = some (cc_w_toSeen, [.cell 2 89]) := by kernel_rfl
theorem f_w_toSeen : (pk X).P.funcs[72]? = some Tryz.f72 := by kernel_rfl
theorem c_i_IsNet : cfun stl (fun t => (kpOf 73).contains t) Tryz.f73 = some (cc_i_IsNet, [.tmp 2]) := by kernel_rfl
theorem f_i_IsNet : (pk X).P.funcs[73]? = some Tryz.f73 := by kernel_rfl
theorem c_i_allIn : cfun stl (fun t => (kpOf 74).contains t) Tryz.f74 = some (cc_i_allIn, [.tmp 6]) := by kernel_rfl
theorem f_i_allIn : (pk X).P.funcs[74]? = some Tryz.f74 := by kernel_rfl
theorem c_i_isSet : cfun stl (fun t => (kpOf 75).contains t) Tryz.f75 = some (cc_i_isSet, [.tmp 4]) := by kernel_rfl
theorem f_i_isSet : (pk X).P.funcs[75]? = some Tryz.f75 := by kernel_rfl
theorem c_i_AreProbes : cfun stl (fun t => (kpOf 76).contains t) Tryz.f76 = some (cc_i_AreProbes, [.tmp 4]) := by kernel_rfl
theorem f_i_AreProbes : (pk X).P.funcs[76]? = some Tryz.f76 := by kernel_rfl
theorem c_i_IsBucket : cfun stl (fun t => (kpOf 77).contains t) Tryz.f77 = some (cc_i_IsBucket, [.tmp 2]) := by kernel_rfl
theorem f_i_IsBucket : (pk X).P.funcs[77]? = some Tryz.f77 := by kernel_rfl
theorem c_i_AreSeen : cfun stl (fun t => (kpOf 78).contains t) Tryz.f78 = some (cc_i_AreSeen, [.tmp 6]) := by kernel_rfl
theorem f_i_AreSeen : (pk X).P.funcs[78]? = some Tryz.f78 := by kernel_rfl
theorem c_i_InRange : cfun stl (fun t => (kpOf 79).contains t) Tryz.f79 = some (cc_i_InRange, [.tmp 6]) := by kernel_rfl
theorem f_i_InRange : (pk X).P.funcs[79]? = some Tryz.f79 := by kernel_rfl
theorem c_i_SeenAt : cfun stl (fun t => (kpOf 80).contains t) Tryz.f80 = some (cc_i_SeenAt, [.tmp 4]) := by kernel_rfl
theorem f_i_SeenAt : (pk X).P.funcs[80]? = some Tryz.f80 := by kernel_rfl
theorem c_i_RowOf : cfun stl (fun t => (kpOf 81).contains t) Tryz.f81 = some (cc_i_RowOf, [.tmp 4]) := by kernel_rfl
theorem f_i_RowOf : (pk X).P.funcs[81]? = some Tryz.f81 := by kernel_rfl
theorem c_i_isBits : cfun stl (fun t => (kpOf 82).contains t) Tryz.f82 = some (cc_i_isBits, [.tmp 4]) := by kernel_rfl
theorem f_i_isBits : (pk X).P.funcs[82]? = some Tryz.f82 := by kernel_rfl
theorem c_w_eqLinkS : cfun stl (fun t => (kpOf 84).contains t) Tryz.f84 = some (cc_w_eqLinkS, [.tmp 4]) := by kernel_rfl
theorem f_w_eqLinkS : (pk X).P.funcs[84]? = some Tryz.f84 := by kernel_rfl
theorem c_w_eqProbe : cfun stl (fun t => (kpOf 85).contains t) Tryz.f85 = some (cc_w_eqProbe, [.tmp 4]) := by kernel_rfl
theorem f_w_eqProbe : (pk X).P.funcs[85]? = some Tryz.f85 := by kernel_rfl
theorem c_w_eqSeen : cfun stl (fun t => (kpOf 86).contains t) Tryz.f86 = some (cc_w_eqSeen, [.tmp 4]) := by kernel_rfl
theorem f_w_eqSeen : (pk X).P.funcs[86]? = some Tryz.f86 := by kernel_rfl
theorem c_s_WorstLeft : cfun stl (fun t => (kpOf 87).contains t) Tryz.f87 = some (cc_s_WorstLeft, [.tmp 4]) := by kernel_rfl
theorem f_s_WorstLeft : (pk X).P.funcs[87]? = some Tryz.f87 := by kernel_rfl
theorem c_s_MatrixOf : cfun stl (fun t => (kpOf 88).contains t) Tryz.f88 = some (cc_s_MatrixOf, [.tmp 4]) := by kernel_rfl
theorem f_s_MatrixOf : (pk X).P.funcs[88]? = some Tryz.f88 := by kernel_rfl
theorem c_i_WorstLeft : cfun stl (fun t => (kpOf 89).contains t) Tryz.f89 = some (cc_i_WorstLeft, [.tmp 4]) := by kernel_rfl
theorem f_i_WorstLeft : (pk X).P.funcs[89]? = some Tryz.f89 := by kernel_rfl
theorem c_i_MatrixOf : cfun stl (fun t => (kpOf 90).contains t) Tryz.f90 = some (cc_i_MatrixOf, [.tmp 4]) := by kernel_rfl
theorem f_i_MatrixOf : (pk X).P.funcs[90]? = some Tryz.f90 := by kernel_rfl
theorem c_s_SetsOf : cfun stl (fun t => (kpOf 91).contains t) Tryz.f91 = some (cc_s_SetsOf, [.tmp 4]) := by kernel_rfl
theorem f_s_SetsOf : (pk X).P.funcs[91]? = some Tryz.f91 := by kernel_rfl
theorem c_s_FailsWith : cfun stl (fun t => (kpOf 92).contains t) Tryz.f92 = some (cc_s_FailsWith, [.tmp 4]) := by kernel_rfl
theorem f_s_FailsWith : (pk X).P.funcs[92]? = some Tryz.f92 := by kernel_rfl
theorem c_i_SetsOf : cfun stl (fun t => (kpOf 93).contains t) Tryz.f93 = some (cc_i_SetsOf, [.tmp 4]) := by kernel_rfl
theorem f_i_SetsOf : (pk X).P.funcs[93]? = some Tryz.f93 := by kernel_rfl
theorem c_i_FailsWith : cfun stl (fun t => (kpOf 94).contains t) Tryz.f94 = some (cc_i_FailsWith, [.tmp 4]) := by kernel_rfl
theorem f_i_FailsWith : (pk X).P.funcs[94]? = some Tryz.f94 := by kernel_rfl
theorem c_w_markLinkS : cfun stl (fun t => (kpOf 95).contains t) Tryz.f95 = some (cc_w_markLinkS, [.tmp 4]) := by kernel_rfl
theorem f_w_markLinkS : (pk X).P.funcs[95]? = some Tryz.f95 := by kernel_rfl
theorem c_s_AreVerdicts : cfun stl (fun t => (kpOf 96).contains t) Tryz.f96 = some (cc_s_AreVerdicts, [.tmp 6]) := by kernel_rfl
theorem f_s_AreVerdicts : (pk X).P.funcs[96]? = some Tryz.f96 := by kernel_rfl
theorem c_i_AreVerdicts : cfun stl (fun t => (kpOf 97).contains t) Tryz.f97 = some (cc_i_AreVerdicts, [.tmp 6]) := by kernel_rfl
theorem f_i_AreVerdicts : (pk X).P.funcs[97]? = some Tryz.f97 := by kernel_rfl
theorem c_s_LinkOf : cfun stl (fun t => (kpOf 98).contains t) Tryz.f98 = some (cc_s_LinkOf, [.tmp 6]) := by kernel_rfl
theorem f_s_LinkOf : (pk X).P.funcs[98]? = some Tryz.f98 := by kernel_rfl
theorem c_s_IsPath : cfun stl (fun t => (kpOf 99).contains t) Tryz.f99 = some (cc_s_IsPath, [.tmp 8]) := by kernel_rfl
theorem f_s_IsPath : (pk X).P.funcs[99]? = some Tryz.f99 := by kernel_rfl
theorem c_s_l7Has : cfun stl (fun t => (kpOf 100).contains t) Tryz.f100 = some (cc_s_l7Has, [.tmp 4]) := by kernel_rfl
theorem f_s_l7Has : (pk X).P.funcs[100]? = some Tryz.f100 := by kernel_rfl
theorem c_w_toLink : cfun stl (fun t => (kpOf 101).contains t) Tryz.f101 = some (cc_w_toLink, [.cell 2 109]) := by kernel_rfl
theorem f_w_toLink : (pk X).P.funcs[101]? = some Tryz.f101 := by kernel_rfl
theorem c_i_at : cfun stl (fun t => (kpOf 102).contains t) Tryz.f102 = some (cc_i_at, [.tmp 4]) := by kernel_rfl
theorem f_i_at : (pk X).P.funcs[102]? = some Tryz.f102 := by kernel_rfl
theorem c_i_LinkOf : cfun stl (fun t => (kpOf 103).contains t) Tryz.f103 = some (cc_i_LinkOf, [.tmp 6]) := by kernel_rfl
theorem f_i_LinkOf : (pk X).P.funcs[103]? = some Tryz.f103 := by kernel_rfl
theorem c_sl_Equal_Sint_int : cfun stl (fun t => (kpOf 104).contains t) Tryz.f104 = some (cc_sl_Equal_Sint_int, [.tmp 4]) := by kernel_rfl
theorem f_sl_Equal_Sint_int : (pk X).P.funcs[104]? = some Tryz.f104 := by kernel_rfl
theorem c_i_sorted : cfun stl (fun t => (kpOf 105).contains t) Tryz.f105 = some (cc_i_sorted, [.tmp 2]) := by kernel_rfl
theorem f_i_sorted : (pk X).P.funcs[105]? = some Tryz.f105 := by kernel_rfl
theorem c_sl_ContainsFunc_Si_Probe_i_Probe : cfun stl (fun t => (kpOf 106).contains t) Tryz.f106 = some (cc_sl_ContainsFunc_Si_Probe_i_Probe, [.tmp 4]) := by kernel_rfl
theorem f_sl_ContainsFunc_Si_Probe_i_Probe : (pk X).P.funcs[106]? = some Tryz.f106 := by kernel_rfl
theorem c_i_AreProbes_1 : cfun stl (fun t => (kpOf 107).contains t) Tryz.f107 = some (cc_i_AreProbes_1, [.tmp 3]) := by kernel_rfl
theorem f_i_AreProbes_1 : (pk X).P.funcs[107]? = some Tryz.f107 := by kernel_rfl
theorem c_i_IsPath : cfun stl (fun t => (kpOf 108).contains t) Tryz.f108 = some (cc_i_IsPath, [.tmp 8]) := by kernel_rfl
theorem f_i_IsPath : (pk X).P.funcs[108]? = some Tryz.f108 := by kernel_rfl
theorem c_i_latest : cfun stl (fun t => (kpOf 109).contains t) Tryz.f109 = some (cc_i_latest, [.tmp 4]) := by kernel_rfl
theorem f_i_latest : (pk X).P.funcs[109]? = some Tryz.f109 := by kernel_rfl
theorem c_i_IsMatrix : cfun stl (fun t => (kpOf 110).contains t) Tryz.f110 = some (cc_i_IsMatrix, [.tmp 4]) := by kernel_rfl
theorem f_i_IsMatrix : (pk X).P.funcs[110]? = some Tryz.f110 := by kernel_rfl
theorem c_sl_ContainsFunc_SSint_Sint : cfun stl (fun t => (kpOf 111).contains t) Tryz.f111 = some (cc_sl_ContainsFunc_SSint_Sint, [.tmp 4]) := by kernel_rfl
theorem f_sl_ContainsFunc_SSint_Sint : (pk X).P.funcs[111]? = some Tryz.f111 := by kernel_rfl
theorem c_i_isBits_1 : cfun stl (fun t => (kpOf 112).contains t) Tryz.f112 = some (cc_i_isBits_1, [.tmp 2]) := by kernel_rfl
theorem f_i_isBits_1 : (pk X).P.funcs[112]? = some Tryz.f112 := by kernel_rfl
theorem c_w_eqLink : cfun stl (fun t => (kpOf 113).contains t) Tryz.f113 = some (cc_w_eqLink, [.tmp 4]) := by kernel_rfl
theorem f_w_eqLink : (pk X).P.funcs[113]? = some Tryz.f113 := by kernel_rfl
theorem c_s_Max : cfun stl (fun t => (kpOf 114).contains t) Tryz.f114 = some (cc_s_Max, [.tmp 4]) := by kernel_rfl
theorem f_s_Max : (pk X).P.funcs[114]? = some Tryz.f114 := by kernel_rfl
theorem c_i_AfterVerdict : cfun stl (fun t => (kpOf 115).contains t) Tryz.f115 = some (cc_i_AfterVerdict, [.tmp 6]) := by kernel_rfl
theorem f_i_AfterVerdict : (pk X).P.funcs[115]? = some Tryz.f115 := by kernel_rfl
theorem c_i_SetsOf_1 : cfun stl (fun t => (kpOf 116).contains t) Tryz.f116 = some (cc_i_SetsOf_1, []) := by kernel_rfl
theorem f_i_SetsOf_1 : (pk X).P.funcs[116]? = some Tryz.f116 := by kernel_rfl
theorem c_sl_Clone_Sint_int : cfun stl (fun t => (kpOf 117).contains t) Tryz.f117 = some (cc_sl_Clone_Sint_int, [.tmp 2]) := by kernel_rfl
theorem f_sl_Clone_Sint_int : (pk X).P.funcs[117]? = some Tryz.f117 := by kernel_rfl
theorem c_sl_ContainsFunc_Sint_int : cfun stl (fun t => (kpOf 118).contains t) Tryz.f118 = some (cc_sl_ContainsFunc_Sint_int, [.tmp 4]) := by kernel_rfl
theorem f_sl_ContainsFunc_Sint_int : (pk X).P.funcs[118]? = some Tryz.f118 := by kernel_rfl
theorem c_i_FailsWith_1 : cfun stl (fun t => (kpOf 119).contains t) Tryz.f119 = some (cc_i_FailsWith_1, [.tmp 3]) := by kernel_rfl
theorem f_i_FailsWith_1 : (pk X).P.funcs[119]? = some Tryz.f119 := by kernel_rfl
theorem c_s_EndOf : cfun stl (fun t => (kpOf 120).contains t) Tryz.f120 = some (cc_s_EndOf, [.tmp 6]) := by kernel_rfl
theorem f_s_EndOf : (pk X).P.funcs[120]? = some Tryz.f120 := by kernel_rfl
theorem c_sl_IndexFunc_Si_Link_i_Link : cfun stl (fun t => (kpOf 121).contains t) Tryz.f121 = some (cc_sl_IndexFunc_Si_Link_i_Link, [.tmp 4]) := by kernel_rfl
theorem f_sl_IndexFunc_Si_Link_i_Link : (pk X).P.funcs[121]? = some Tryz.f121 := by kernel_rfl
theorem c_i_LinkOf_1 : cfun stl (fun t => (kpOf 122).contains t) Tryz.f122 = some (cc_i_LinkOf_1, [.tmp 4]) := by kernel_rfl
theorem f_i_LinkOf_1 : (pk X).P.funcs[122]? = some Tryz.f122 := by kernel_rfl
theorem c_sl_IndexFunc_Si_Probe_i_Probe : cfun stl (fun t => (kpOf 125).contains t) Tryz.f125 = some (cc_sl_IndexFunc_Si_Probe_i_Probe, [.tmp 4]) := by kernel_rfl
theorem f_sl_IndexFunc_Si_Probe_i_Probe : (pk X).P.funcs[125]? = some Tryz.f125 := by kernel_rfl
theorem c_sl_Contains_Sint_int : cfun stl (fun t => (kpOf 126).contains t) Tryz.f126 = some (cc_sl_Contains_Sint_int, [.tmp 4]) := by kernel_rfl
theorem f_sl_Contains_Sint_int : (pk X).P.funcs[126]? = some Tryz.f126 := by kernel_rfl
theorem c_i_EndOf : cfun stl (fun t => (kpOf 127).contains t) Tryz.f127 = some (cc_i_EndOf, [.tmp 6]) := by kernel_rfl
theorem f_i_EndOf : (pk X).P.funcs[127]? = some Tryz.f127 := by kernel_rfl
theorem c_i_LatestOf : cfun stl (fun t => (kpOf 128).contains t) Tryz.f128 = some (cc_i_LatestOf, [.tmp 6]) := by kernel_rfl
theorem f_i_LatestOf : (pk X).P.funcs[128]? = some Tryz.f128 := by kernel_rfl
theorem c_sl_IndexFunc_SSint_Sint : cfun stl (fun t => (kpOf 129).contains t) Tryz.f129 = some (cc_sl_IndexFunc_SSint_Sint, [.tmp 4]) := by kernel_rfl
theorem f_sl_IndexFunc_SSint_Sint : (pk X).P.funcs[129]? = some Tryz.f129 := by kernel_rfl
theorem c_sl_IndexFunc_Sint_int : cfun stl (fun t => (kpOf 130).contains t) Tryz.f130 = some (cc_sl_IndexFunc_Sint_int, [.tmp 4]) := by kernel_rfl
theorem f_sl_IndexFunc_Sint_int : (pk X).P.funcs[130]? = some Tryz.f130 := by kernel_rfl
theorem c_sl_Index_Sint_int : cfun stl (fun t => (kpOf 133).contains t) Tryz.f133 = some (cc_sl_Index_Sint_int, [.tmp 4]) := by kernel_rfl
theorem f_sl_Index_Sint_int : (pk X).P.funcs[133]? = some Tryz.f133 := by kernel_rfl
theorem c_i_Link_across : cfun stl (fun t => (kpOf 134).contains t) Tryz.f134 = some (cc_i_Link_across, [.tmp 4]) := by kernel_rfl
theorem f_i_Link_across : (pk X).P.funcs[134]? = some Tryz.f134 := by kernel_rfl
@[simp] theorem t_3 : (pk X).T 3 = some { kind := some .i64, sz := 1, bytes := 8, zero := [.lit (.int .i64 0)] } := by kernel_rfl
@[simp] theorem t_4 : (pk X).T 4 = some { bool := true, sz := 1, bytes := 1, zero := [.lit (.bool false)] } := by kernel_rfl
@[simp] theorem t_22 : (pk X).T 22 = some { sl := some 113, sz := 1, bytes := 24, zero := [.nilS] } := by kernel_rfl
@[simp] theorem t_24 : (pk X).T 24 = some { st := some [(0, 1, false), (1, 1, false)], sz := 2, bytes := 32, zero := [.lit (.int .i64 0), .nilS], agg := true } := by kernel_rfl
@[simp] theorem t_25 : (pk X).T 25 = some { sl := some 3, sz := 1, bytes := 24, zero := [.nilS] } := by kernel_rfl
@[simp] theorem t_26 : (pk X).T 26 = some { sl := some 80, sz := 1, bytes := 24, zero := [.nilS] } := by kernel_rfl
@[simp] theorem t_28 : (pk X).T 28 = some { st := some [(0, 1, false), (1, 1, false), (2, 1, false), (3, 1, false)], plain := some [.int .i64, .int .i64, .int .i64, .int .i64], sz := 4, bytes := 32, zero := [.lit (.int .i64 0), .lit (.int .i64 0), .lit (.int .i64 0), .lit (.int .i64 0)], agg := true } := by kernel_rfl
@[simp] theorem t_29 : (pk X).T 29 = some { sl := some 98, sz := 1, bytes := 24, zero := [.nilS] } := by kernel_rfl
@[simp] theorem t_31 : (pk X).T 31 = some { st := some [(0, 2, true), (2, 1, false), (3, 1, false), (4, 1, false), (5, 1, false), (6, 1, false), (7, 4, true), (11, 1, false), (12, 1, false)], sz := 13, bytes := 216, zero := [.lit (.int .i64 0), .nilS, .nilS, .nilS, .nilS, .nilS, .nilS, .lit (.int .i64 0), .lit (.int .i64 0), .lit (.int .i64 0), .lit (.int .i64 0), .nilS, .lit (.int .i64 0)], agg := true } := by kernel_rfl
@[simp] theorem t_34 : (pk X).T 34 = some { sl := some 109, sz := 1, bytes := 24, zero := [.nilS] } := by kernel_rfl
@[simp] theorem t_36 : (pk X).T 36 = some { st := some [(0, 1, false), (1, 1, false)], sz := 2, bytes := 32, zero := [.lit (.int .i64 0), .nilS], agg := true } := by kernel_rfl
@[simp] theorem t_37 : (pk X).T 37 = some { sl := some 91, sz := 1, bytes := 24, zero := [.nilS] } := by kernel_rfl
@[simp] theorem t_38 : (pk X).T 38 = some { st := some [(0, 1, false), (1, 1, false), (2, 1, false), (3, 1, false)], plain := some [.int .i64, .int .i64, .int .i64, .int .i64], sz := 4, bytes := 32, zero := [.lit (.int .i64 0), .lit (.int .i64 0), .lit (.int .i64 0), .lit (.int .i64 0)], agg := true } := by kernel_rfl
@[simp] theorem t_39 : (pk X).T 39 = some { sl := some 89, sz := 1, bytes := 24, zero := [.nilS] } := by kernel_rfl
@[simp] theorem t_41 : (pk X).T 41 = some { st := some [(0, 2, true), (2, 1, false), (3, 1, false), (4, 1, false), (5, 1, false), (6, 1, false), (7, 4, true), (11, 1, false), (12, 1, false)], sz := 13, bytes := 216, zero := [.lit (.int .i64 0), .nilS, .nilS, .nilS, .nilS, .nilS, .nilS, .lit (.int .i64 0), .lit (.int .i64 0), .lit (.int .i64 0), .lit (.int .i64 0), .nilS, .lit (.int .i64 0)], agg := true } := by kernel_rfl
@[simp] theorem t_47 : (pk X).T 47 = some { sl := some 25, sz := 1, bytes := 24, zero := [.nilS] } := by kernel_rfl
@[simp] theorem t_57 : (pk X).T 57 = some { sl := some 4, sz := 1, bytes := 24, zero := [.nilS] } := by kernel_rfl
@[simp] theorem t_80 : (pk X).T 80 = some { st := some [(0, 1, false), (1, 1, false), (2, 1, false)], sz := 3, bytes := 40, zero := [.lit (.int .i64 0), .lit (.int .i64 0), .nilS], agg := true } := by kernel_rfl
@[simp] theorem t_89 : (pk X).T 89 = some { st := some [(0, 1, false), (1, 1, false), (2, 1, false), (3, 1, false), (4, 1, false)], plain := some [.int .i64, .int .i64, .int .i64, .int .i64, .bool], sz := 5, bytes := 40, zero := [.lit (.int .i64 0), .lit (.int .i64 0), .lit (.int .i64 0), .lit (.int .i64 0), .lit (.bool false)], agg := true } := by kernel_rfl
@[simp] theorem t_91 : (pk X).T 91 = some { st := some [(0, 1, false), (1, 1, false), (2, 1, false)], sz := 3, bytes := 40, zero := [.lit (.int .i64 0), .lit (.int .i64 0), .nilS], agg := true } := by kernel_rfl
@[simp] theorem t_98 : (pk X).T 98 = some { st := some [(0, 1, false), (1, 1, false), (2, 1, false), (3, 1, false), (4, 1, false)], plain := some [.int .i64, .int .i64, .int .i64, .int .i64, .bool], sz := 5, bytes := 40, zero := [.lit (.int .i64 0), .lit (.int .i64 0), .lit (.int .i64 0), .lit (.int .i64 0), .lit (.bool false)], agg := true } := by kernel_rfl
@[simp] theorem t_109 : (pk X).T 109 = some { st := some [(0, 1, false), (1, 1, false)], plain := some [.int .i64, .int .i64], sz := 2, bytes := 16, zero := [.lit (.int .i64 0), .lit (.int .i64 0)], agg := true } := by kernel_rfl
@[simp] theorem t_113 : (pk X).T 113 = some { st := some [(0, 1, false), (1, 1, false)], plain := some [.int .i64, .int .i64], sz := 2, bytes := 16, zero := [.lit (.int .i64 0), .lit (.int .i64 0)], agg := true } := by kernel_rfl
@[simp] theorem t_116 : (pk X).T 116 = some { sz := 1, bytes := 8, zero := [.lit .nilFunc] } := by kernel_rfl
@[simp] theorem t_118 : (pk X).T 118 = some { sz := 1, bytes := 8, zero := [.lit .nilFunc] } := by kernel_rfl
@[simp] theorem t_123 : (pk X).T 123 = some { sz := 1, bytes := 8, zero := [.lit .nilFunc] } := by kernel_rfl
@[simp] theorem t_125 : (pk X).T 125 = some { sz := 1, bytes := 8, zero := [.lit .nilFunc] } := by kernel_rfl
@[simp] theorem t_128 : (pk X).T 128 = some { sz := 1, bytes := 8, zero := [.lit .nilFunc] } := by kernel_rfl
end Go.Proofs.Ev
end
