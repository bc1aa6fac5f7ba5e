import Derived.Test.YtfmeplnoikfndaaDoorRows
import Derived.Test.YtfmeplnoikfndaaDoorLay
namespace Go.Proofs.YtfmeplnoikfndaaDoor
open Go.Idl
def c3 : IC :=
 (.seq (.reg [⟨some 6, none, .mv (.k (.sc (.bool false)))⟩])
 (.seq (.reg [⟨some 12, none, .mv (.t 0)⟩,
 ⟨some 13, none, .mv (.t 1)⟩,
 ⟨some 14, none, .mv (.t 2)⟩,
 ⟨some 15, none, .call 11 [(.t 12), (.t 13), (.t 14)]⟩,
 ⟨some 11, none, .mv (.t 15)⟩,
 ⟨some 16, none, .ext (.t 11) 0⟩,
 ⟨some 17, none, .ext (.t 11) 1⟩,
 ⟨some 7, none, .mv (.t 16)⟩,
 ⟨some 8, none, .mv (.t 17)⟩])
 (.seq (.reg [⟨some 19, none, .mv (.t 0)⟩,
 ⟨some 20, none, .mv (.t 1)⟩,
 ⟨some 21, none, .mv (.t 2)⟩,
 ⟨some 22, none, .call 12 [(.t 19), (.t 20), (.t 21)]⟩,
 ⟨some 18, none, .mv (.t 22)⟩,
 ⟨some 23, none, .ext (.t 18) 0⟩,
 ⟨some 24, none, .ext (.t 18) 1⟩,
 ⟨some 9, none, .mv (.t 23)⟩,
 ⟨some 10, none, .mv (.t 24)⟩])
 (.seq (.reg [⟨some 25, none, .mv (.t 7)⟩,
 ⟨some 26, none, .mv (.t 9)⟩,
 ⟨some 27, none, .bin .eql false (.t 25) (.t 26) (pu (.binOp .eql 3 (.tmp 25) (.tmp 26) 3) 4)⟩,
 ⟨some 28, none, .mv (.t 27)⟩,
 ⟨some 29, (some ((some 28), true)), .mv (.t 8)⟩,
 ⟨some 30, (some ((some 28), true)), .mv (.t 10)⟩,
 ⟨some 31, (some ((some 28), true)), .bin .eql false (.t 29) (.t 30) (pu (.binOp .eql 22 (.tmp 29) (.tmp 30) 22) 4)⟩,
 ⟨some 32, none, .pick (.t 28) (.t 31) (.k (.sc (.bool false)))⟩,
 ⟨some 33, none, .mv (.t 32)⟩,
 ⟨some 34, (some ((some 33), true)), .call 13 []⟩,
 ⟨some 35, none, .pick (.t 33) (.t 34) (.k (.sc (.bool false)))⟩,
 ⟨some 6, none, .mv (.t 35)⟩])
 .ret))))
def k3 : List Nat := [0, 1, 2, 6, 7, 8, 9, 10]
theorem ic3 : factsI Tryd.prog 3 = some (36, [.tmp 6], c3) := by kernel_rfl
def c4 : IC :=
 (.seq (.reg [⟨some 6, none, .mv (.k (.sc (.bool false)))⟩])
 (.seq (.reg [⟨some 13, none, .mv (.t 2)⟩,
 ⟨some 14, none, .pur (pu (.convert 5 3 (.tmp 13)) 3)⟩,
 ⟨some 15, none, .bin .rem false (.t 14) (.k (.sc (.int .i64 4))) (pu (.binOp .rem 3 (.tmp 14) (.const (.int .i64 4)) 3) 3)⟩,
 ⟨some 16, none, .bin .add false (.k (.sc (.int .i64 1))) (.t 15) (pu (.binOp .add 3 (.const (.int .i64 1)) (.tmp 15) 3) 3)⟩,
 ⟨some 7, none, .mv (.t 16)⟩])
 (.seq (.seq (.reg [⟨some 17, none, .mv (.t 1)⟩,
 ⟨some 18, none, .bin .lss false (.t 17) (.k (.sc (.int .i64 1))) (pu (.binOp .lss 3 (.tmp 17) (.const (.int .i64 1)) 3) 4)⟩])
 (.cond (.t 18) (.seq (.reg [⟨some 19, none, .call 13 []⟩,
 ⟨some 6, none, .mv (.t 19)⟩])
 .ret)
 .skip))
 (.seq (.reg [⟨some 21, none, .mv (.t 0)⟩,
 ⟨some 22, none, .mv (.t 1)⟩,
 ⟨some 23, none, .mv (.t 7)⟩,
 ⟨some 24, none, .call 11 [(.t 21), (.t 22), (.t 23)]⟩,
 ⟨some 20, none, .mv (.t 24)⟩,
 ⟨some 25, none, .ext (.t 20) 0⟩,
 ⟨some 26, none, .ext (.t 20) 1⟩,
 ⟨some 8, none, .mv (.t 25)⟩,
 ⟨some 9, none, .mv (.t 26)⟩])
 (.seq (.seq (.reg [⟨some 27, none, .mv (.t 9)⟩,
 ⟨some 28, none, .bin .neq false (.t 27) (.k (.sc (.int .i64 0))) (pu (.binOp .neq 22 (.tmp 27) (.const (.int .i64 0)) 22) 4)⟩])
 (.cond (.t 28) (.seq (.reg [⟨some 6, none, .mv (.k (.sc (.bool false)))⟩])
 .ret)
 .skip))
 (.seq (.reg [⟨some 29, none, .mv (.t 0)⟩,
 ⟨some 30, none, .mv (.t 8)⟩,
 ⟨some 31, none, .mv (.t 1)⟩,
 ⟨some 32, none, .bin .mul false (.t 30) (.t 31) (pu (.binOp .mul 3 (.tmp 30) (.tmp 31) 3) 3)⟩,
 ⟨some 33, none, .bin .sub false (.t 29) (.t 32) (pu (.binOp .sub 3 (.tmp 29) (.tmp 32) 3) 3)⟩,
 ⟨some 10, none, .mv (.t 33)⟩])
 (.seq (.seq (.reg [⟨some 34, none, .mv (.t 10)⟩,
 ⟨some 35, none, .mv (.t 1)⟩,
 ⟨some 36, none, .un .neg (.t 35) (pu (.unOp .neg 3 (.tmp 35)) 3)⟩,
 ⟨some 37, none, .bin .leq false (.t 34) (.t 36) (pu (.binOp .leq 3 (.tmp 34) (.tmp 36) 3) 4)⟩,
 ⟨some 38, none, .mv (.t 37)⟩,
 ⟨some 39, (some ((some 38), false)), .mv (.t 10)⟩,
 ⟨some 40, (some ((some 38), false)), .mv (.t 1)⟩,
 ⟨some 41, (some ((some 38), false)), .bin .geq false (.t 39) (.t 40) (pu (.binOp .geq 3 (.tmp 39) (.tmp 40) 3) 4)⟩,
 ⟨some 42, none, .pick (.t 38) (.k (.sc (.bool true))) (.t 41)⟩])
 (.cond (.t 42) (.seq (.reg [⟨some 6, none, .mv (.k (.sc (.bool false)))⟩])
 .ret)
 .skip))
 (.seq (.seq (.reg [⟨some 43, none, .mv (.t 10)⟩,
 ⟨some 44, none, .bin .lss false (.t 43) (.k (.sc (.int .i64 0))) (pu (.binOp .lss 3 (.tmp 43) (.const (.int .i64 0)) 3) 4)⟩,
 ⟨some 45, none, .mv (.t 44)⟩,
 ⟨some 46, (some ((some 45), true)), .mv (.t 7)⟩,
 ⟨some 47, (some ((some 45), true)), .bin .lss false (.t 46) (.k (.sc (.int .i64 3))) (pu (.binOp .lss 3 (.tmp 46) (.const (.int .i64 3)) 3) 4)⟩,
 ⟨some 48, none, .pick (.t 45) (.t 47) (.k (.sc (.bool false)))⟩,
 ⟨some 49, none, .mv (.t 48)⟩,
 ⟨some 50, (some ((some 49), true)), .mv (.t 10)⟩,
 ⟨some 51, (some ((some 49), true)), .un .neg (.t 50) (pu (.unOp .neg 3 (.tmp 50)) 3)⟩,
 ⟨some 52, (some ((some 49), true)), .mv (.t 1)⟩,
 ⟨some 53, (some ((some 49), true)), .mv (.t 10)⟩,
 ⟨some 54, (some ((some 49), true)), .bin .add false (.t 52) (.t 53) (pu (.binOp .add 3 (.tmp 52) (.tmp 53) 3) 3)⟩,
 ⟨some 55, (some ((some 49), true)), .bin .gtr false (.t 51) (.t 54) (pu (.binOp .gtr 3 (.tmp 51) (.tmp 54) 3) 4)⟩,
 ⟨some 56, none, .pick (.t 49) (.t 55) (.k (.sc (.bool false)))⟩,
 ⟨some 57, none, .mv (.t 56)⟩,
 ⟨some 58, (some ((some 57), false)), .mv (.t 10)⟩,
 ⟨some 59, (some ((some 57), false)), .bin .gtr false (.t 58) (.k (.sc (.int .i64 0))) (pu (.binOp .gtr 3 (.tmp 58) (.const (.int .i64 0)) 3) 4)⟩,
 ⟨some 60, (some ((some 57), false)), .mv (.t 59)⟩,
 ⟨some 61, (some ((some 60), true)), .mv (.t 7)⟩,
 ⟨some 62, (some ((some 60), true)), .bin .lss false (.t 61) (.k (.sc (.int .i64 3))) (pu (.binOp .lss 3 (.tmp 61) (.const (.int .i64 3)) 3) 4)⟩,
 ⟨some 63, (some ((some 57), false)), .pick (.t 60) (.t 62) (.k (.sc (.bool false)))⟩,
 ⟨some 64, (some ((some 57), false)), .mv (.t 63)⟩,
 ⟨some 65, (some ((some 64), true)), .mv (.t 10)⟩,
 ⟨some 66, (some ((some 64), true)), .mv (.t 1)⟩,
 ⟨some 67, (some ((some 64), true)), .mv (.t 10)⟩,
 ⟨some 68, (some ((some 64), true)), .bin .sub false (.t 66) (.t 67) (pu (.binOp .sub 3 (.tmp 66) (.tmp 67) 3) 3)⟩,
 ⟨some 69, (some ((some 64), true)), .bin .gtr false (.t 65) (.t 68) (pu (.binOp .gtr 3 (.tmp 65) (.tmp 68) 3) 4)⟩,
 ⟨some 70, (some ((some 57), false)), .pick (.t 64) (.t 69) (.k (.sc (.bool false)))⟩,
 ⟨some 71, none, .pick (.t 57) (.k (.sc (.bool true))) (.t 70)⟩])
 (.cond (.t 71) (.seq (.reg [⟨some 6, none, .mv (.k (.sc (.bool false)))⟩])
 .ret)
 .skip))
 (.seq (.seq (.reg [⟨some 72, none, .mv (.t 7)⟩,
 ⟨some 73, none, .bin .eql false (.t 72) (.k (.sc (.int .i64 3))) (pu (.binOp .eql 3 (.tmp 72) (.const (.int .i64 3)) 3) 4)⟩,
 ⟨some 74, none, .mv (.t 73)⟩,
 ⟨some 75, (some ((some 74), true)), .mv (.t 0)⟩,
 ⟨some 76, (some ((some 74), true)), .bin .geq false (.t 75) (.k (.sc (.int .i64 0))) (pu (.binOp .geq 3 (.tmp 75) (.const (.int .i64 0)) 3) 4)⟩,
 ⟨some 77, (some ((some 74), true)), .mv (.t 76)⟩,
 ⟨some 78, (some ((some 77), true)), .mv (.t 10)⟩,
 ⟨some 79, (some ((some 77), true)), .bin .lss false (.t 78) (.k (.sc (.int .i64 0))) (pu (.binOp .lss 3 (.tmp 78) (.const (.int .i64 0)) 3) 4)⟩,
 ⟨some 80, (some ((some 74), true)), .pick (.t 77) (.t 79) (.k (.sc (.bool false)))⟩,
 ⟨some 81, (some ((some 74), true)), .mv (.t 80)⟩,
 ⟨some 82, (some ((some 81), false)), .mv (.t 0)⟩,
 ⟨some 83, (some ((some 81), false)), .bin .lss false (.t 82) (.k (.sc (.int .i64 0))) (pu (.binOp .lss 3 (.tmp 82) (.const (.int .i64 0)) 3) 4)⟩,
 ⟨some 84, (some ((some 81), false)), .mv (.t 83)⟩,
 ⟨some 85, (some ((some 84), true)), .mv (.t 10)⟩,
 ⟨some 86, (some ((some 84), true)), .bin .gtr false (.t 85) (.k (.sc (.int .i64 0))) (pu (.binOp .gtr 3 (.tmp 85) (.const (.int .i64 0)) 3) 4)⟩,
 ⟨some 87, (some ((some 81), false)), .pick (.t 84) (.t 86) (.k (.sc (.bool false)))⟩,
 ⟨some 88, (some ((some 74), true)), .pick (.t 81) (.k (.sc (.bool true))) (.t 87)⟩,
 ⟨some 89, none, .pick (.t 74) (.t 88) (.k (.sc (.bool false)))⟩,
 ⟨some 90, none, .mv (.t 89)⟩,
 ⟨some 91, (some ((some 90), false)), .mv (.t 7)⟩,
 ⟨some 92, (some ((some 90), false)), .bin .eql false (.t 91) (.k (.sc (.int .i64 4))) (pu (.binOp .eql 3 (.tmp 91) (.const (.int .i64 4)) 3) 4)⟩,
 ⟨some 93, (some ((some 90), false)), .mv (.t 92)⟩,
 ⟨some 94, (some ((some 93), true)), .mv (.t 0)⟩,
 ⟨some 95, (some ((some 93), true)), .bin .geq false (.t 94) (.k (.sc (.int .i64 0))) (pu (.binOp .geq 3 (.tmp 94) (.const (.int .i64 0)) 3) 4)⟩,
 ⟨some 96, (some ((some 93), true)), .mv (.t 95)⟩,
 ⟨some 97, (some ((some 96), true)), .mv (.t 10)⟩,
 ⟨some 98, (some ((some 96), true)), .bin .gtr false (.t 97) (.k (.sc (.int .i64 0))) (pu (.binOp .gtr 3 (.tmp 97) (.const (.int .i64 0)) 3) 4)⟩,
 ⟨some 99, (some ((some 93), true)), .pick (.t 96) (.t 98) (.k (.sc (.bool false)))⟩,
 ⟨some 100, (some ((some 93), true)), .mv (.t 99)⟩,
 ⟨some 101, (some ((some 100), false)), .mv (.t 0)⟩,
 ⟨some 102, (some ((some 100), false)), .bin .lss false (.t 101) (.k (.sc (.int .i64 0))) (pu (.binOp .lss 3 (.tmp 101) (.const (.int .i64 0)) 3) 4)⟩,
 ⟨some 103, (some ((some 100), false)), .mv (.t 102)⟩,
 ⟨some 104, (some ((some 103), true)), .mv (.t 10)⟩,
 ⟨some 105, (some ((some 103), true)), .bin .lss false (.t 104) (.k (.sc (.int .i64 0))) (pu (.binOp .lss 3 (.tmp 104) (.const (.int .i64 0)) 3) 4)⟩,
 ⟨some 106, (some ((some 100), false)), .pick (.t 103) (.t 105) (.k (.sc (.bool false)))⟩,
 ⟨some 107, (some ((some 93), true)), .pick (.t 100) (.k (.sc (.bool true))) (.t 106)⟩,
 ⟨some 108, (some ((some 90), false)), .pick (.t 93) (.t 107) (.k (.sc (.bool false)))⟩,
 ⟨some 109, none, .pick (.t 90) (.k (.sc (.bool true))) (.t 108)⟩])
 (.cond (.t 109) (.seq (.reg [⟨some 6, none, .mv (.k (.sc (.bool false)))⟩])
 .ret)
 .skip))
 (.seq (.seq (.reg [⟨some 110, none, .mv (.t 0)⟩,
 ⟨some 111, none, .bin .eql false (.t 110) (.k (.sc (.int .i64 (-9223372036854775808)))) (pu (.binOp .eql 3 (.tmp 110) (.const (.int .i64 (-9223372036854775808))) 3) 4)⟩])
 (.cond (.t 111) (.seq (.reg [⟨some 112, none, .call 13 []⟩,
 ⟨some 6, none, .mv (.t 112)⟩])
 .ret)
 .skip))
 (.seq (.reg [⟨some 114, none, .mv (.t 0)⟩,
 ⟨some 115, none, .un .neg (.t 114) (pu (.unOp .neg 3 (.tmp 114)) 3)⟩,
 ⟨some 116, none, .mv (.t 1)⟩,
 ⟨some 117, none, .mv (.t 7)⟩,
 ⟨some 118, none, .call 11 [(.t 115), (.t 116), (.t 117)]⟩,
 ⟨some 113, none, .mv (.t 118)⟩,
 ⟨some 119, none, .ext (.t 113) 0⟩,
 ⟨some 120, none, .ext (.t 113) 1⟩,
 ⟨some 11, none, .mv (.t 119)⟩,
 ⟨some 12, none, .mv (.t 120)⟩])
 (.seq (.reg [⟨some 121, none, .mv (.t 11)⟩,
 ⟨some 122, none, .mv (.t 8)⟩,
 ⟨some 123, none, .un .neg (.t 122) (pu (.unOp .neg 3 (.tmp 122)) 3)⟩,
 ⟨some 124, none, .bin .eql false (.t 121) (.t 123) (pu (.binOp .eql 3 (.tmp 121) (.tmp 123) 3) 4)⟩,
 ⟨some 125, none, .mv (.t 124)⟩,
 ⟨some 126, (some ((some 125), true)), .mv (.t 12)⟩,
 ⟨some 127, (some ((some 125), true)), .bin .eql false (.t 126) (.k (.sc (.int .i64 0))) (pu (.binOp .eql 22 (.tmp 126) (.const (.int .i64 0)) 22) 4)⟩,
 ⟨some 128, none, .pick (.t 125) (.t 127) (.k (.sc (.bool false)))⟩,
 ⟨some 129, none, .mv (.t 128)⟩,
 ⟨some 130, (some ((some 129), true)), .call 13 []⟩,
 ⟨some 131, none, .pick (.t 129) (.t 130) (.k (.sc (.bool false)))⟩,
 ⟨some 6, none, .mv (.t 131)⟩])
 .ret))))))))))))
def k4 : List Nat := [0, 1, 2, 6, 7, 8, 9, 10, 11, 12, 18, 28, 42, 71, 109, 111]
theorem ic4 : factsI Tryd.prog 4 = some (132, [.tmp 6], c4) := by kernel_rfl
def c5 : IC :=
 (.seq (.reg [⟨some 1, none, .bx (.t 0)⟩,
 ⟨some 2, none, .mv (.k (.sc (.bool false)))⟩])
 (.seq (.reg [⟨some 10, none, .sh 0 (.t 1)⟩,
 ⟨some 11, none, .ld none (.t 10)⟩,
 ⟨some 12, none, .sh 1 (.t 1)⟩,
 ⟨some 13, none, .ld none (.t 12)⟩,
 ⟨some 14, none, .sh 2 (.t 1)⟩,
 ⟨some 15, none, .ld none (.t 14)⟩,
 ⟨some 16, none, .sh 3 (.t 1)⟩,
 ⟨some 17, none, .ld none (.t 16)⟩,
 ⟨some 18, none, .call 14 [(.t 11), (.t 13), (.t 15), (.t 17)]⟩,
 ⟨some 9, none, .mv (.t 18)⟩,
 ⟨some 19, none, .ext (.t 9) 0⟩,
 ⟨some 20, none, .ext (.t 9) 1⟩,
 ⟨some 3, none, .mv (.t 19)⟩,
 ⟨some 4, none, .mv (.t 20)⟩])
 (.seq (.reg [⟨some 22, none, .sh 0 (.t 1)⟩,
 ⟨some 23, none, .ld none (.t 22)⟩,
 ⟨some 24, none, .sh 1 (.t 1)⟩,
 ⟨some 25, none, .ld none (.t 24)⟩,
 ⟨some 26, none, .sh 2 (.t 1)⟩,
 ⟨some 27, none, .ld none (.t 26)⟩,
 ⟨some 28, none, .sh 3 (.t 1)⟩,
 ⟨some 29, none, .ld none (.t 28)⟩,
 ⟨some 30, none, .call 15 [(.t 23), (.t 25), (.t 27), (.t 29)]⟩,
 ⟨some 21, none, .mv (.t 30)⟩,
 ⟨some 31, none, .ext (.t 21) 0⟩,
 ⟨some 32, none, .ext (.t 21) 1⟩,
 ⟨some 5, none, .mv (.t 31)⟩,
 ⟨some 6, none, .mv (.t 32)⟩])
 (.seq (.seq (.reg [⟨some 33, none, .mv (.t 3)⟩,
 ⟨some 34, none, .mv (.t 5)⟩,
 ⟨some 35, none, .bin .neq false (.t 33) (.t 34) (pu (.binOp .neq 3 (.tmp 33) (.tmp 34) 3) 4)⟩,
 ⟨some 36, none, .mv (.t 35)⟩,
 ⟨some 37, (some ((some 36), false)), .mv (.t 4)⟩,
 ⟨some 38, (some ((some 36), false)), .mv (.t 6)⟩,
 ⟨some 39, (some ((some 36), false)), .bin .neq false (.t 37) (.t 38) (pu (.binOp .neq 22 (.tmp 37) (.tmp 38) 22) 4)⟩,
 ⟨some 40, none, .pick (.t 36) (.k (.sc (.bool true))) (.t 39)⟩])
 (.cond (.t 40) (.seq (.reg [⟨some 2, none, .mv (.k (.sc (.bool false)))⟩])
 .ret)
 .skip))
 (.seq (.seq (.reg [⟨some 41, none, .sh 2 (.t 1)⟩,
 ⟨some 42, none, .ld none (.t 41)⟩,
 ⟨some 43, none, .bin .lss false (.t 42) (.k (.sc (.int .i64 1))) (pu (.binOp .lss 3 (.tmp 42) (.const (.int .i64 1)) 3) 4)⟩,
 ⟨some 44, none, .mv (.t 43)⟩,
 ⟨some 45, (some ((some 44), false)), .sh 3 (.t 1)⟩,
 ⟨some 46, (some ((some 44), false)), .ld none (.t 45)⟩,
 ⟨some 47, (some ((some 44), false)), .bin .lss false (.t 46) (.k (.sc (.int .i64 1))) (pu (.binOp .lss 3 (.tmp 46) (.const (.int .i64 1)) 3) 4)⟩,
 ⟨some 48, none, .pick (.t 44) (.k (.sc (.bool true))) (.t 47)⟩,
 ⟨some 49, none, .mv (.t 48)⟩,
 ⟨some 50, (some ((some 49), false)), .sh 3 (.t 1)⟩,
 ⟨some 51, (some ((some 49), false)), .ld none (.t 50)⟩,
 ⟨some 52, (some ((some 49), false)), .bin .gtr false (.t 51) (.k (.sc (.int .i64 4))) (pu (.binOp .gtr 3 (.tmp 51) (.const (.int .i64 4)) 3) 4)⟩,
 ⟨some 53, none, .pick (.t 49) (.k (.sc (.bool true))) (.t 52)⟩])
 (.cond (.t 53) (.seq (.reg [⟨some 54, none, .call 13 []⟩,
 ⟨some 2, none, .mv (.t 54)⟩])
 .ret)
 .skip))
 (.seq (.reg [⟨some 56, none, .sh 0 (.t 1)⟩,
 ⟨some 57, none, .ld none (.t 56)⟩,
 ⟨some 58, none, .sh 2 (.t 1)⟩,
 ⟨some 59, none, .ld none (.t 58)⟩,
 ⟨some 60, none, .sh 2 (.t 1)⟩,
 ⟨some 61, none, .ld none (.t 60)⟩,
 ⟨some 62, none, .sh 3 (.t 1)⟩,
 ⟨some 63, none, .ld none (.t 62)⟩,
 ⟨some 64, none, .call 14 [(.t 57), (.t 59), (.t 61), (.t 63)]⟩,
 ⟨some 55, none, .mv (.t 64)⟩,
 ⟨some 65, none, .ext (.t 55) 0⟩,
 ⟨some 66, none, .ext (.t 55) 1⟩,
 ⟨some 7, none, .mv (.t 65)⟩,
 ⟨some 8, none, .mv (.t 66)⟩])
 (.seq (.reg [⟨some 67, none, .mv (.t 7)⟩,
 ⟨some 68, none, .sh 0 (.t 1)⟩,
 ⟨some 69, none, .ld none (.t 68)⟩,
 ⟨some 70, none, .bin .eql false (.t 67) (.t 69) (pu (.binOp .eql 3 (.tmp 67) (.tmp 69) 3) 4)⟩,
 ⟨some 71, none, .mv (.t 70)⟩,
 ⟨some 72, (some ((some 71), true)), .mv (.t 8)⟩,
 ⟨some 73, (some ((some 71), true)), .bin .eql false (.t 72) (.k (.sc (.int .i64 0))) (pu (.binOp .eql 22 (.tmp 72) (.const (.int .i64 0)) 22) 4)⟩,
 ⟨some 74, none, .pick (.t 71) (.t 73) (.k (.sc (.bool false)))⟩,
 ⟨some 75, none, .mv (.t 74)⟩,
 ⟨some 76, (some ((some 75), true)), .call 13 []⟩,
 ⟨some 77, none, .pick (.t 75) (.t 76) (.k (.sc (.bool false)))⟩,
 ⟨some 2, none, .mv (.t 77)⟩])
 .ret)))))))
def k5 : List Nat := [0, 1, 2, 3, 4, 5, 6, 7, 8, 40, 53]
theorem ic5 : factsI Tryd.prog 5 = some (78, [.tmp 2], c5) := by kernel_rfl
def c6 : IC :=
 (.seq (.reg [⟨some 2, none, .mv (.k (.sc (.bool false)))⟩])
 (.seq (.seq (.reg [⟨some 11, none, .mv (.t 0)⟩,
 ⟨some 12, none, .len (.t 11) (pu (.call ⟨.builtin .len, #[(.tmp 11)], #[32]⟩) 3)⟩,
 ⟨some 13, none, .bin .gtr false (.t 12) (.k (.sc (.int .i64 64))) (pu (.binOp .gtr 3 (.tmp 12) (.const (.int .i64 64)) 3) 4)⟩])
 (.cond (.t 13) (.seq (.reg [⟨some 14, none, .call 13 []⟩,
 ⟨some 2, none, .mv (.t 14)⟩])
 .ret)
 .skip))
 (.seq (.reg [⟨some 16, none, .mv (.t 0)⟩,
 ⟨some 17, none, .call 16 [(.t 16)]⟩,
 ⟨some 15, none, .mv (.t 17)⟩,
 ⟨some 18, none, .ext (.t 15) 0⟩,
 ⟨some 19, none, .ext (.t 15) 1⟩,
 ⟨some 3, none, .mv (.t 18)⟩,
 ⟨some 4, none, .mv (.t 19)⟩])
 (.seq (.reg [⟨some 21, none, .mv (.t 0)⟩,
 ⟨some 22, none, .call 17 [(.t 21)]⟩,
 ⟨some 20, none, .mv (.t 22)⟩,
 ⟨some 23, none, .ext (.t 20) 0⟩,
 ⟨some 24, none, .ext (.t 20) 1⟩,
 ⟨some 5, none, .mv (.t 23)⟩,
 ⟨some 6, none, .mv (.t 24)⟩])
 (.seq (.seq (.reg [⟨some 25, none, .mv (.t 3)⟩,
 ⟨some 26, none, .mv (.t 5)⟩,
 ⟨some 27, none, .bin .neq false (.t 25) (.t 26) (pu (.binOp .neq 3 (.tmp 25) (.tmp 26) 3) 4)⟩,
 ⟨some 28, none, .mv (.t 27)⟩,
 ⟨some 29, (some ((some 28), false)), .mv (.t 4)⟩,
 ⟨some 30, (some ((some 28), false)), .mv (.t 6)⟩,
 ⟨some 31, (some ((some 28), false)), .bin .neq false (.t 29) (.t 30) (pu (.binOp .neq 22 (.tmp 29) (.tmp 30) 22) 4)⟩,
 ⟨some 32, none, .pick (.t 28) (.k (.sc (.bool true))) (.t 31)⟩])
 (.cond (.t 32) (.seq (.reg [⟨some 2, none, .mv (.k (.sc (.bool false)))⟩])
 .ret)
 .skip))
 (.seq (.reg [⟨some 7, none, .mv (.k (.sc (.slice none 0 0)))⟩])
 (.seq (.seq (.reg [⟨some 33, none, .mv (.t 0)⟩,
 ⟨some 34, none, .len (.t 33) (pu (.call ⟨.builtin .len, #[(.tmp 33)], #[32]⟩) 3)⟩,
 ⟨some 35, none, .bin .sub false (.t 34) (.k (.sc (.int .i64 1))) (pu (.binOp .sub 3 (.tmp 34) (.const (.int .i64 1)) 3) 3)⟩,
 ⟨some 8, none, .mv (.t 35)⟩])
 (.block 0 (.loop (.seq (.seq (.reg [⟨some 36, none, .mv (.t 8)⟩,
 ⟨some 37, none, .bin .geq false (.t 36) (.k (.sc (.int .i64 0))) (pu (.binOp .geq 3 (.tmp 36) (.const (.int .i64 0)) 3) 4)⟩])
 (.cond (.t 37) .skip
 (.exit 0)))
 (.seq (.block 1 (.reg [⟨some 40, none, .mv (.t 7)⟩,
 ⟨some 41, none, .mv (.t 0)⟩,
 ⟨some 42, none, .mv (.t 8)⟩,
 ⟨some 43, none, .ixs 1 (.t 41) (.t 42)⟩,
 ⟨some 44, none, .ld none (.t 43)⟩,
 ⟨some 45, none, .bsl 1 1 false [.sc (.int .i64 0)] [(0, 1, (.t 44))]⟩,
 ⟨some 46, none, .app 1 8 (.t 40) (.t 45)⟩,
 ⟨some 7, none, .mv (.t 46)⟩]))
 (.reg [⟨some 38, none, .mv (.t 8)⟩,
 ⟨some 39, none, .bin .sub false (.t 38) (.k (.sc (.int .i64 1))) (pu (.binOp .sub 3 (.tmp 38) (.const (.int .i64 1)) 3) 3)⟩,
 ⟨some 8, none, .mv (.t 39)⟩]))))))
 (.seq (.reg [⟨some 48, none, .mv (.t 7)⟩,
 ⟨some 49, none, .call 16 [(.t 48)]⟩,
 ⟨some 47, none, .mv (.t 49)⟩,
 ⟨some 50, none, .ext (.t 47) 0⟩,
 ⟨some 51, none, .ext (.t 47) 1⟩,
 ⟨some 9, none, .mv (.t 50)⟩,
 ⟨some 10, none, .mv (.t 51)⟩])
 (.seq (.reg [⟨some 52, none, .mv (.t 9)⟩,
 ⟨some 53, none, .mv (.t 3)⟩,
 ⟨some 54, none, .bin .eql false (.t 52) (.t 53) (pu (.binOp .eql 3 (.tmp 52) (.tmp 53) 3) 4)⟩,
 ⟨some 55, none, .mv (.t 54)⟩,
 ⟨some 56, (some ((some 55), true)), .mv (.t 10)⟩,
 ⟨some 57, (some ((some 55), true)), .mv (.t 4)⟩,
 ⟨some 58, (some ((some 55), true)), .bin .eql false (.t 56) (.t 57) (pu (.binOp .eql 22 (.tmp 56) (.tmp 57) 22) 4)⟩,
 ⟨some 59, none, .pick (.t 55) (.t 58) (.k (.sc (.bool false)))⟩,
 ⟨some 60, none, .mv (.t 59)⟩,
 ⟨some 61, (some ((some 60), true)), .call 13 []⟩,
 ⟨some 62, none, .pick (.t 60) (.t 61) (.k (.sc (.bool false)))⟩,
 ⟨some 2, none, .mv (.t 62)⟩])
 .ret)))))))))
def k6 : List Nat := [0, 2, 3, 4, 5, 6, 7, 8, 9, 10, 13, 32, 37]
theorem ic6 : factsI Tryd.prog 6 = some (63, [.tmp 2], c6) := by kernel_rfl
def c7 : IC :=
 (.seq (.reg [⟨some 4, none, .mv (.k (.sc (.bool false)))⟩])
 (.seq (.seq (.reg [⟨some 9, none, .mv (.t 1)⟩,
 ⟨some 10, none, .len (.t 9) (pu (.call ⟨.builtin .len, #[(.tmp 9)], #[32]⟩) 3)⟩,
 ⟨some 11, none, .bin .gtr false (.t 10) (.k (.sc (.int .i64 520))) (pu (.binOp .gtr 3 (.tmp 10) (.const (.int .i64 520)) 3) 4)⟩])
 (.cond (.t 11) (.seq (.reg [⟨some 12, none, .call 13 []⟩,
 ⟨some 4, none, .mv (.t 12)⟩])
 .ret)
 .skip))
 (.seq (.reg [⟨some 14, none, .mv (.t 0)⟩,
 ⟨some 15, none, .mv (.t 1)⟩,
 ⟨some 16, none, .call 18 [(.t 14), (.t 15)]⟩,
 ⟨some 13, none, .mv (.t 16)⟩,
 ⟨some 17, none, .ext (.t 13) 0⟩,
 ⟨some 18, none, .ext (.t 13) 1⟩,
 ⟨some 5, none, .mv (.t 17)⟩,
 ⟨some 6, none, .mv (.t 18)⟩])
 (.seq (.reg [⟨some 20, none, .mv (.t 0)⟩,
 ⟨some 21, none, .mv (.t 1)⟩,
 ⟨some 22, none, .call 19 [(.t 20), (.t 21)]⟩,
 ⟨some 19, none, .mv (.t 22)⟩,
 ⟨some 23, none, .ext (.t 19) 0⟩,
 ⟨some 24, none, .ext (.t 19) 1⟩,
 ⟨some 7, none, .mv (.t 23)⟩,
 ⟨some 8, none, .mv (.t 24)⟩])
 (.seq (.reg [⟨some 25, none, .mv (.t 5)⟩,
 ⟨some 26, none, .mv (.t 7)⟩,
 ⟨some 27, none, .call 20 [(.t 25), (.t 26)]⟩,
 ⟨some 28, none, .mv (.t 27)⟩,
 ⟨some 29, (some ((some 28), true)), .mv (.t 6)⟩,
 ⟨some 30, (some ((some 28), true)), .mv (.t 8)⟩,
 ⟨some 31, (some ((some 28), true)), .bin .eql false (.t 29) (.t 30) (pu (.binOp .eql 22 (.tmp 29) (.tmp 30) 22) 4)⟩,
 ⟨some 32, none, .pick (.t 28) (.t 31) (.k (.sc (.bool false)))⟩,
 ⟨some 33, none, .mv (.t 32)⟩,
 ⟨some 34, (some ((some 33), true)), .call 13 []⟩,
 ⟨some 35, none, .pick (.t 33) (.t 34) (.k (.sc (.bool false)))⟩,
 ⟨some 4, none, .mv (.t 35)⟩])
 .ret)))))
def k7 : List Nat := [0, 1, 4, 5, 6, 7, 8, 11]
theorem ic7 : factsI Tryd.prog 7 = some (36, [.tmp 4], c7) := by kernel_rfl
def c8 : IC :=
 (.seq (.reg [⟨some 4, none, .mv (.k (.sc (.bool false)))⟩])
 (.seq (.seq (.reg [⟨some 13, none, .mv (.t 1)⟩,
 ⟨some 14, none, .len (.t 13) (pu (.call ⟨.builtin .len, #[(.tmp 13)], #[32]⟩) 3)⟩,
 ⟨some 15, none, .bin .gtr false (.t 14) (.k (.sc (.int .i64 24))) (pu (.binOp .gtr 3 (.tmp 14) (.const (.int .i64 24)) 3) 4)⟩,
 ⟨some 16, none, .mv (.t 15)⟩,
 ⟨some 17, (some ((some 16), false)), .mv (.t 0)⟩,
 ⟨some 18, (some ((some 16), false)), .bin .lss false (.t 17) (.k (.sc (.int .i64 (-1099511627776)))) (pu (.binOp .lss 3 (.tmp 17) (.const (.int .i64 (-1099511627776))) 3) 4)⟩,
 ⟨some 19, none, .pick (.t 16) (.k (.sc (.bool true))) (.t 18)⟩,
 ⟨some 20, none, .mv (.t 19)⟩,
 ⟨some 21, (some ((some 20), false)), .mv (.t 0)⟩,
 ⟨some 22, (some ((some 20), false)), .bin .gtr false (.t 21) (.k (.sc (.int .i64 1099511627776))) (pu (.binOp .gtr 3 (.tmp 21) (.const (.int .i64 1099511627776)) 3) 4)⟩,
 ⟨some 23, none, .pick (.t 20) (.k (.sc (.bool true))) (.t 22)⟩])
 (.cond (.t 23) (.seq (.reg [⟨some 24, none, .call 13 []⟩,
 ⟨some 4, none, .mv (.t 24)⟩])
 .ret)
 .skip))
 (.seq (.reg [⟨some 5, none, .mv (.k (.sc (.bool false)))⟩])
 (.seq (.seq (.reg [⟨some 6, none, .mv (.k (.sc (.int .i64 0)))⟩])
 (.block 0 (.loop (.seq (.seq (.reg [⟨some 25, none, .mv (.t 6)⟩,
 ⟨some 26, none, .mv (.t 1)⟩,
 ⟨some 27, none, .len (.t 26) (pu (.call ⟨.builtin .len, #[(.tmp 26)], #[32]⟩) 3)⟩,
 ⟨some 28, none, .bin .lss false (.t 25) (.t 27) (pu (.binOp .lss 3 (.tmp 25) (.tmp 27) 3) 4)⟩])
 (.cond (.t 28) .skip
 (.exit 0)))
 (.seq (.block 1 (.seq (.seq (.reg [⟨some 31, none, .mv (.t 1)⟩,
 ⟨some 32, none, .mv (.t 6)⟩,
 ⟨some 33, none, .ixs 1 (.t 31) (.t 32)⟩,
 ⟨some 34, none, .ld none (.t 33)⟩,
 ⟨some 35, none, .bin .lss false (.t 34) (.k (.sc (.int .i64 0))) (pu (.binOp .lss 3 (.tmp 34) (.const (.int .i64 0)) 3) 4)⟩,
 ⟨some 36, none, .mv (.t 35)⟩,
 ⟨some 37, (some ((some 36), false)), .mv (.t 1)⟩,
 ⟨some 38, (some ((some 36), false)), .mv (.t 6)⟩,
 ⟨some 39, (some ((some 36), false)), .ixs 1 (.t 37) (.t 38)⟩,
 ⟨some 40, (some ((some 36), false)), .ld none (.t 39)⟩,
 ⟨some 41, (some ((some 36), false)), .bin .gtr false (.t 40) (.k (.sc (.int .i64 1099511627776))) (pu (.binOp .gtr 3 (.tmp 40) (.const (.int .i64 1099511627776)) 3) 4)⟩,
 ⟨some 42, none, .pick (.t 36) (.k (.sc (.bool true))) (.t 41)⟩])
 (.cond (.t 42) (.seq (.reg [⟨some 43, none, .call 13 []⟩,
 ⟨some 4, none, .mv (.t 43)⟩])
 .ret)
 .skip))
 (.reg [⟨some 44, none, .mv (.t 5)⟩,
 ⟨some 45, none, .mv (.t 44)⟩,
 ⟨some 46, (some ((some 45), false)), .mv (.t 1)⟩,
 ⟨some 47, (some ((some 45), false)), .mv (.t 6)⟩,
 ⟨some 48, (some ((some 45), false)), .ixs 1 (.t 46) (.t 47)⟩,
 ⟨some 49, (some ((some 45), false)), .ld none (.t 48)⟩,
 ⟨some 50, (some ((some 45), false)), .bin .gtr false (.t 49) (.k (.sc (.int .i64 0))) (pu (.binOp .gtr 3 (.tmp 49) (.const (.int .i64 0)) 3) 4)⟩,
 ⟨some 51, none, .pick (.t 45) (.k (.sc (.bool true))) (.t 50)⟩,
 ⟨some 5, none, .mv (.t 51)⟩])))
 (.reg [⟨some 29, none, .mv (.t 6)⟩,
 ⟨some 30, none, .bin .add false (.t 29) (.k (.sc (.int .i64 1))) (pu (.binOp .add 3 (.tmp 29) (.const (.int .i64 1)) 3) 3)⟩,
 ⟨some 6, none, .mv (.t 30)⟩]))))))
 (.seq (.seq (.reg [⟨some 52, none, .mv (.t 5)⟩,
 ⟨some 53, none, .un .not (.t 52) (pu (.unOp .not 4 (.tmp 52)) 4)⟩])
 (.cond (.t 53) (.seq (.reg [⟨some 54, none, .call 13 []⟩,
 ⟨some 4, none, .mv (.t 54)⟩])
 .ret)
 .skip))
 (.seq (.reg [⟨some 56, none, .mv (.t 0)⟩,
 ⟨some 57, none, .mv (.t 1)⟩,
 ⟨some 58, none, .call 18 [(.t 56), (.t 57)]⟩,
 ⟨some 55, none, .mv (.t 58)⟩,
 ⟨some 59, none, .ext (.t 55) 0⟩,
 ⟨some 60, none, .ext (.t 55) 1⟩,
 ⟨some 7, none, .mv (.t 59)⟩,
 ⟨some 8, none, .mv (.t 60)⟩])
 (.seq (.seq (.reg [⟨some 61, none, .mv (.t 8)⟩,
 ⟨some 62, none, .bin .neq false (.t 61) (.k (.sc (.int .i64 0))) (pu (.binOp .neq 22 (.tmp 61) (.const (.int .i64 0)) 22) 4)⟩,
 ⟨some 63, none, .mv (.t 62)⟩,
 ⟨some 64, (some ((some 63), false)), .mv (.t 7)⟩,
 ⟨some 65, (some ((some 63), false)), .len (.t 64) (pu (.call ⟨.builtin .len, #[(.tmp 64)], #[32]⟩) 3)⟩,
 ⟨some 66, (some ((some 63), false)), .mv (.t 1)⟩,
 ⟨some 67, (some ((some 63), false)), .len (.t 66) (pu (.call ⟨.builtin .len, #[(.tmp 66)], #[32]⟩) 3)⟩,
 ⟨some 68, (some ((some 63), false)), .bin .neq false (.t 65) (.t 67) (pu (.binOp .neq 3 (.tmp 65) (.tmp 67) 3) 4)⟩,
 ⟨some 69, none, .pick (.t 63) (.k (.sc (.bool true))) (.t 68)⟩])
 (.cond (.t 69) (.seq (.reg [⟨some 4, none, .mv (.k (.sc (.bool false)))⟩])
 .ret)
 .skip))
 (.seq (.reg [⟨some 9, none, .mv (.k (.sc (.int .i64 0)))⟩])
 (.seq (.seq (.reg [⟨some 10, none, .mv (.k (.sc (.int .i64 0)))⟩])
 (.block 2 (.loop (.seq (.seq (.reg [⟨some 70, none, .mv (.t 10)⟩,
 ⟨some 71, none, .mv (.t 7)⟩,
 ⟨some 72, none, .len (.t 71) (pu (.call ⟨.builtin .len, #[(.tmp 71)], #[32]⟩) 3)⟩,
 ⟨some 73, none, .bin .lss false (.t 70) (.t 72) (pu (.binOp .lss 3 (.tmp 70) (.tmp 72) 3) 4)⟩])
 (.cond (.t 73) .skip
 (.exit 2)))
 (.seq (.block 3 (.seq (.seq (.reg [⟨some 76, none, .mv (.t 0)⟩,
 ⟨some 77, none, .bin .geq false (.t 76) (.k (.sc (.int .i64 0))) (pu (.binOp .geq 3 (.tmp 76) (.const (.int .i64 0)) 3) 4)⟩,
 ⟨some 78, none, .mv (.t 77)⟩,
 ⟨some 79, (some ((some 78), true)), .mv (.t 7)⟩,
 ⟨some 80, (some ((some 78), true)), .mv (.t 10)⟩,
 ⟨some 81, (some ((some 78), true)), .ixs 1 (.t 79) (.t 80)⟩,
 ⟨some 82, (some ((some 78), true)), .ld none (.t 81)⟩,
 ⟨some 83, (some ((some 78), true)), .bin .lss false (.t 82) (.k (.sc (.int .i64 0))) (pu (.binOp .lss 3 (.tmp 82) (.const (.int .i64 0)) 3) 4)⟩,
 ⟨some 84, (some ((some 78), true)), .mv (.t 83)⟩,
 ⟨some 85, (some ((some 84), false)), .mv (.t 7)⟩,
 ⟨some 86, (some ((some 84), false)), .mv (.t 10)⟩,
 ⟨some 87, (some ((some 84), false)), .ixs 1 (.t 85) (.t 86)⟩,
 ⟨some 88, (some ((some 84), false)), .ld none (.t 87)⟩,
 ⟨some 89, (some ((some 84), false)), .mv (.t 0)⟩,
 ⟨some 90, (some ((some 84), false)), .bin .gtr false (.t 88) (.t 89) (pu (.binOp .gtr 3 (.tmp 88) (.tmp 89) 3) 4)⟩,
 ⟨some 91, (some ((some 78), true)), .pick (.t 84) (.k (.sc (.bool true))) (.t 90)⟩,
 ⟨some 92, none, .pick (.t 78) (.t 91) (.k (.sc (.bool false)))⟩,
 ⟨some 93, none, .mv (.t 92)⟩,
 ⟨some 94, (some ((some 93), false)), .mv (.t 0)⟩,
 ⟨some 95, (some ((some 93), false)), .bin .lss false (.t 94) (.k (.sc (.int .i64 0))) (pu (.binOp .lss 3 (.tmp 94) (.const (.int .i64 0)) 3) 4)⟩,
 ⟨some 96, (some ((some 93), false)), .mv (.t 95)⟩,
 ⟨some 97, (some ((some 96), true)), .mv (.t 7)⟩,
 ⟨some 98, (some ((some 96), true)), .mv (.t 10)⟩,
 ⟨some 99, (some ((some 96), true)), .ixs 1 (.t 97) (.t 98)⟩,
 ⟨some 100, (some ((some 96), true)), .ld none (.t 99)⟩,
 ⟨some 101, (some ((some 96), true)), .bin .gtr false (.t 100) (.k (.sc (.int .i64 0))) (pu (.binOp .gtr 3 (.tmp 100) (.const (.int .i64 0)) 3) 4)⟩,
 ⟨some 102, (some ((some 96), true)), .mv (.t 101)⟩,
 ⟨some 103, (some ((some 102), false)), .mv (.t 7)⟩,
 ⟨some 104, (some ((some 102), false)), .mv (.t 10)⟩,
 ⟨some 105, (some ((some 102), false)), .ixs 1 (.t 103) (.t 104)⟩,
 ⟨some 106, (some ((some 102), false)), .ld none (.t 105)⟩,
 ⟨some 107, (some ((some 102), false)), .mv (.t 0)⟩,
 ⟨some 108, (some ((some 102), false)), .bin .lss false (.t 106) (.t 107) (pu (.binOp .lss 3 (.tmp 106) (.tmp 107) 3) 4)⟩,
 ⟨some 109, (some ((some 96), true)), .pick (.t 102) (.k (.sc (.bool true))) (.t 108)⟩,
 ⟨some 110, (some ((some 93), false)), .pick (.t 96) (.t 109) (.k (.sc (.bool false)))⟩,
 ⟨some 111, none, .pick (.t 93) (.k (.sc (.bool true))) (.t 110)⟩,
 ⟨some 112, none, .mv (.t 111)⟩,
 ⟨some 113, (some ((some 112), false)), .mv (.t 1)⟩,
 ⟨some 114, (some ((some 112), false)), .mv (.t 10)⟩,
 ⟨some 115, (some ((some 112), false)), .ixs 1 (.t 113) (.t 114)⟩,
 ⟨some 116, (some ((some 112), false)), .ld none (.t 115)⟩,
 ⟨some 117, (some ((some 112), false)), .bin .eql false (.t 116) (.k (.sc (.int .i64 0))) (pu (.binOp .eql 3 (.tmp 116) (.const (.int .i64 0)) 3) 4)⟩,
 ⟨some 118, (some ((some 112), false)), .mv (.t 117)⟩,
 ⟨some 119, (some ((some 118), true)), .mv (.t 7)⟩,
 ⟨some 120, (some ((some 118), true)), .mv (.t 10)⟩,
 ⟨some 121, (some ((some 118), true)), .ixs 1 (.t 119) (.t 120)⟩,
 ⟨some 122, (some ((some 118), true)), .ld none (.t 121)⟩,
 ⟨some 123, (some ((some 118), true)), .bin .neq false (.t 122) (.k (.sc (.int .i64 0))) (pu (.binOp .neq 3 (.tmp 122) (.const (.int .i64 0)) 3) 4)⟩,
 ⟨some 124, (some ((some 112), false)), .pick (.t 118) (.t 123) (.k (.sc (.bool false)))⟩,
 ⟨some 125, none, .pick (.t 112) (.k (.sc (.bool true))) (.t 124)⟩])
 (.cond (.t 125) (.seq (.reg [⟨some 4, none, .mv (.k (.sc (.bool false)))⟩])
 .ret)
 .skip))
 (.seq (.reg [⟨some 126, none, .mv (.t 9)⟩,
 ⟨some 127, none, .mv (.t 7)⟩,
 ⟨some 128, none, .mv (.t 10)⟩,
 ⟨some 129, none, .ixs 1 (.t 127) (.t 128)⟩,
 ⟨some 130, none, .ld none (.t 129)⟩,
 ⟨some 131, none, .bin .add false (.t 126) (.t 130) (pu (.binOp .add 3 (.tmp 126) (.tmp 130) 3) 3)⟩,
 ⟨some 9, none, .mv (.t 131)⟩])
 (.seq (.reg [⟨some 11, none, .mv (.k (.sc (.int .i64 0)))⟩])
 (.block 4 (.loop (.seq (.seq (.reg [⟨some 132, none, .mv (.t 11)⟩,
 ⟨some 133, none, .mv (.t 10)⟩,
 ⟨some 134, none, .bin .lss false (.t 132) (.t 133) (pu (.binOp .lss 3 (.tmp 132) (.tmp 133) 3) 4)⟩])
 (.cond (.t 134) .skip
 (.exit 4)))
 (.seq (.block 5 (.seq (.drw [0, 0, 3, 7, 0, 0, 48, 112, 255, 511] [⟨some 137, none, .mv (.t 7)⟩,
 ⟨some 138, none, .mv (.t 10)⟩,
 ⟨some 139, none, .ixs 1 (.t 137) (.t 138)⟩,
 ⟨some 140, none, .ld none (.t 139)⟩,
 ⟨some 141, none, .mv (.t 7)⟩,
 ⟨some 142, none, .mv (.t 11)⟩,
 ⟨some 143, none, .ixs 1 (.t 141) (.t 142)⟩,
 ⟨some 144, none, .ld none (.t 143)⟩,
 ⟨some 145, none, .bin .sub false (.t 140) (.t 144) (pu (.binOp .sub 3 (.tmp 140) (.tmp 144) 3) 3)⟩,
 ⟨some 12, none, .mv (.t 145)⟩])
 (.seq (.seq (.reg [⟨some 146, none, .mv (.t 0)⟩,
 ⟨some 147, none, .bin .lss false (.t 146) (.k (.sc (.int .i64 0))) (pu (.binOp .lss 3 (.tmp 146) (.const (.int .i64 0)) 3) 4)⟩])
 (.cond (.t 147) (.reg [⟨some 148, none, .mv (.t 12)⟩,
 ⟨some 149, none, .un .neg (.t 148) (pu (.unOp .neg 3 (.tmp 148)) 3)⟩,
 ⟨some 12, none, .mv (.t 149)⟩])
 .skip))
 (.seq (.drw [0, 0, 3, 7, 0, 0, 48, 112, 255, 511, 1023, 2047, 4095, 8191, 16383, 16383, 65535, 131071, 16383, 16383, 802815, 1851391, 4194303, 8388607, 16777215, 33554431, 67108863, 134217727, 268435455, 536870911, 536870911, 2147483647, 4294967295, 536870911, 536870911, 26306674687, 60666413055, 137438953471, 274877906943, 549755813887, 1099511627775, 2199023255551, 4398046511103, 8796093022207, 17592186044415, 35184372088831, 70368744177663] [⟨some 150, none, .mv (.t 1)⟩,
 ⟨some 151, none, .mv (.t 10)⟩,
 ⟨some 152, none, .ixs 1 (.t 150) (.t 151)⟩,
 ⟨some 153, none, .ld none (.t 152)⟩,
 ⟨some 154, none, .mv (.t 1)⟩,
 ⟨some 155, none, .mv (.t 11)⟩,
 ⟨some 156, none, .ixs 1 (.t 154) (.t 155)⟩,
 ⟨some 157, none, .ld none (.t 156)⟩,
 ⟨some 158, none, .bin .gtr false (.t 153) (.t 157) (pu (.binOp .gtr 3 (.tmp 153) (.tmp 157) 3) 4)⟩,
 ⟨some 159, none, .mv (.t 158)⟩,
 ⟨some 160, (some ((some 159), true)), .mv (.t 12)⟩,
 ⟨some 161, (some ((some 159), true)), .bin .lss false (.t 160) (.k (.sc (.int .i64 0))) (pu (.binOp .lss 3 (.tmp 160) (.const (.int .i64 0)) 3) 4)⟩,
 ⟨some 162, none, .pick (.t 159) (.t 161) (.k (.sc (.bool false)))⟩,
 ⟨some 163, none, .mv (.t 162)⟩,
 ⟨some 164, (some ((some 163), false)), .mv (.t 1)⟩,
 ⟨some 165, (some ((some 163), false)), .mv (.t 10)⟩,
 ⟨some 166, (some ((some 163), false)), .ixs 1 (.t 164) (.t 165)⟩,
 ⟨some 167, (some ((some 163), false)), .ld none (.t 166)⟩,
 ⟨some 168, (some ((some 163), false)), .mv (.t 1)⟩,
 ⟨some 169, (some ((some 163), false)), .mv (.t 11)⟩,
 ⟨some 170, (some ((some 163), false)), .ixs 1 (.t 168) (.t 169)⟩,
 ⟨some 171, (some ((some 163), false)), .ld none (.t 170)⟩,
 ⟨some 172, (some ((some 163), false)), .bin .lss false (.t 167) (.t 171) (pu (.binOp .lss 3 (.tmp 167) (.tmp 171) 3) 4)⟩,
 ⟨some 173, (some ((some 163), false)), .mv (.t 172)⟩,
 ⟨some 174, (some ((some 173), true)), .mv (.t 12)⟩,
 ⟨some 175, (some ((some 173), true)), .bin .gtr false (.t 174) (.k (.sc (.int .i64 0))) (pu (.binOp .gtr 3 (.tmp 174) (.const (.int .i64 0)) 3) 4)⟩,
 ⟨some 176, (some ((some 163), false)), .pick (.t 173) (.t 175) (.k (.sc (.bool false)))⟩,
 ⟨some 177, none, .pick (.t 163) (.k (.sc (.bool true))) (.t 176)⟩,
 ⟨some 178, none, .mv (.t 177)⟩,
 ⟨some 179, (some ((some 178), false)), .mv (.t 1)⟩,
 ⟨some 180, (some ((some 178), false)), .mv (.t 10)⟩,
 ⟨some 181, (some ((some 178), false)), .ixs 1 (.t 179) (.t 180)⟩,
 ⟨some 182, (some ((some 178), false)), .ld none (.t 181)⟩,
 ⟨some 183, (some ((some 178), false)), .mv (.t 1)⟩,
 ⟨some 184, (some ((some 178), false)), .mv (.t 11)⟩,
 ⟨some 185, (some ((some 178), false)), .ixs 1 (.t 183) (.t 184)⟩,
 ⟨some 186, (some ((some 178), false)), .ld none (.t 185)⟩,
 ⟨some 187, (some ((some 178), false)), .bin .eql false (.t 182) (.t 186) (pu (.binOp .eql 3 (.tmp 182) (.tmp 186) 3) 4)⟩,
 ⟨some 188, (some ((some 178), false)), .mv (.t 187)⟩,
 ⟨some 189, (some ((some 188), true)), .mv (.t 12)⟩,
 ⟨some 190, (some ((some 188), true)), .bin .lss false (.t 189) (.k (.sc (.int .i64 (-1)))) (pu (.binOp .lss 3 (.tmp 189) (.const (.int .i64 (-1))) 3) 4)⟩,
 ⟨some 191, (some ((some 188), true)), .mv (.t 190)⟩,
 ⟨some 192, (some ((some 191), false)), .mv (.t 12)⟩,
 ⟨some 193, (some ((some 191), false)), .bin .gtr false (.t 192) (.k (.sc (.int .i64 1))) (pu (.binOp .gtr 3 (.tmp 192) (.const (.int .i64 1)) 3) 4)⟩,
 ⟨some 194, (some ((some 188), true)), .pick (.t 191) (.k (.sc (.bool true))) (.t 193)⟩,
 ⟨some 195, (some ((some 178), false)), .pick (.t 188) (.t 194) (.k (.sc (.bool false)))⟩,
 ⟨some 196, none, .pick (.t 178) (.k (.sc (.bool true))) (.t 195)⟩])
 (.cond (.t 196) (.seq (.reg [⟨some 4, none, .mv (.k (.sc (.bool false)))⟩])
 .ret)
 .skip)))))
 (.reg [⟨some 135, none, .mv (.t 11)⟩,
 ⟨some 136, none, .bin .add false (.t 135) (.k (.sc (.int .i64 1))) (pu (.binOp .add 3 (.tmp 135) (.const (.int .i64 1)) 3) 3)⟩,
 ⟨some 11, none, .mv (.t 136)⟩])))))))))
 (.reg [⟨some 74, none, .mv (.t 10)⟩,
 ⟨some 75, none, .bin .add false (.t 74) (.k (.sc (.int .i64 1))) (pu (.binOp .add 3 (.tmp 74) (.const (.int .i64 1)) 3) 3)⟩,
 ⟨some 10, none, .mv (.t 75)⟩]))))))
 (.seq (.reg [⟨some 197, none, .mv (.t 9)⟩,
 ⟨some 198, none, .mv (.t 0)⟩,
 ⟨some 199, none, .bin .eql false (.t 197) (.t 198) (pu (.binOp .eql 3 (.tmp 197) (.tmp 198) 3) 4)⟩,
 ⟨some 200, none, .mv (.t 199)⟩,
 ⟨some 201, (some ((some 200), true)), .call 13 []⟩,
 ⟨some 202, none, .pick (.t 200) (.t 201) (.k (.sc (.bool false)))⟩,
 ⟨some 4, none, .mv (.t 202)⟩])
 .ret))))))))))
def k8 : List Nat := [0, 1, 4, 5, 6, 7, 8, 9, 10, 11, 12, 23, 28, 42, 53, 69, 73, 125, 134, 147, 196]
theorem ic8 : factsI Tryd.prog 8 = some (203, [.tmp 4], c8) := by kernel_rfl
def c9 : IC :=
 (.seq (.reg [⟨some 4, none, .mv (.k (.sc (.bool false)))⟩])
 (.seq (.seq (.reg [⟨some 12, none, .mv (.t 1)⟩,
 ⟨some 13, none, .lens (.t 12) (pu (.call ⟨.builtin .len, #[(.tmp 12)], #[9]⟩) 3)⟩,
 ⟨some 14, none, .bin .gtr false (.t 13) (.k (.sc (.int .i64 8))) (pu (.binOp .gtr 3 (.tmp 13) (.const (.int .i64 8)) 3) 4)⟩])
 (.cond (.t 14) (.seq (.reg [⟨some 15, none, .call 13 []⟩,
 ⟨some 4, none, .mv (.t 15)⟩])
 .ret)
 .skip))
 (.seq (.reg [⟨some 17, none, .mv (.t 0)⟩,
 ⟨some 18, none, .mv (.t 1)⟩,
 ⟨some 19, none, .call 21 [(.t 17), (.t 18)]⟩,
 ⟨some 16, none, .mv (.t 19)⟩,
 ⟨some 20, none, .ext (.t 16) 0⟩,
 ⟨some 21, none, .ext (.t 16) 1⟩,
 ⟨some 5, none, .mv (.t 20)⟩,
 ⟨some 6, none, .mv (.t 21)⟩])
 (.seq (.reg [⟨some 23, none, .mv (.t 0)⟩,
 ⟨some 24, none, .mv (.t 1)⟩,
 ⟨some 25, none, .call 22 [(.t 23), (.t 24)]⟩,
 ⟨some 22, none, .mv (.t 25)⟩,
 ⟨some 26, none, .ext (.t 22) 0⟩,
 ⟨some 27, none, .ext (.t 22) 1⟩,
 ⟨some 7, none, .mv (.t 26)⟩,
 ⟨some 8, none, .mv (.t 27)⟩])
 (.seq (.seq (.reg [⟨some 28, none, .mv (.t 5)⟩,
 ⟨some 29, none, .mv (.t 7)⟩,
 ⟨some 30, none, .bin .neq false (.t 28) (.t 29) (pu (.binOp .neq 9 (.tmp 28) (.tmp 29) 9) 4)⟩,
 ⟨some 31, none, .mv (.t 30)⟩,
 ⟨some 32, (some ((some 31), false)), .mv (.t 6)⟩,
 ⟨some 33, (some ((some 31), false)), .mv (.t 8)⟩,
 ⟨some 34, (some ((some 31), false)), .bin .neq false (.t 32) (.t 33) (pu (.binOp .neq 22 (.tmp 32) (.tmp 33) 22) 4)⟩,
 ⟨some 35, none, .pick (.t 31) (.k (.sc (.bool true))) (.t 34)⟩])
 (.cond (.t 35) (.seq (.reg [⟨some 4, none, .mv (.k (.sc (.bool false)))⟩])
 .ret)
 .skip))
 (.seq (.seq (.reg [⟨some 36, none, .mv (.t 6)⟩,
 ⟨some 37, none, .bin .neq false (.t 36) (.k (.sc (.int .i64 0))) (pu (.binOp .neq 22 (.tmp 36) (.const (.int .i64 0)) 22) 4)⟩])
 (.cond (.t 37) (.seq (.reg [⟨some 38, none, .call 13 []⟩,
 ⟨some 4, none, .mv (.t 38)⟩])
 .ret)
 .skip))
 (.seq (.reg [⟨some 40, none, .mv (.t 5)⟩,
 ⟨some 41, none, .call 23 [(.t 40)]⟩,
 ⟨some 39, none, .mv (.t 41)⟩,
 ⟨some 42, none, .ext (.t 39) 0⟩,
 ⟨some 43, none, .ext (.t 39) 1⟩,
 ⟨some 44, none, .ext (.t 39) 2⟩,
 ⟨some 9, none, .mv (.t 42)⟩,
 ⟨some 10, none, .mv (.t 43)⟩,
 ⟨some 11, none, .mv (.t 44)⟩])
 (.seq (.reg [⟨some 45, none, .mv (.t 9)⟩,
 ⟨some 46, none, .mv (.t 0)⟩,
 ⟨some 47, none, .bin .eql false (.t 45) (.t 46) (pu (.binOp .eql 3 (.tmp 45) (.tmp 46) 3) 4)⟩,
 ⟨some 48, none, .mv (.t 47)⟩,
 ⟨some 49, (some ((some 48), true)), .mv (.t 10)⟩,
 ⟨some 50, (some ((some 48), true)), .mv (.t 1)⟩,
 ⟨some 51, (some ((some 48), true)), .bin .eql false (.t 49) (.t 50) (pu (.binOp .eql 9 (.tmp 49) (.tmp 50) 9) 4)⟩,
 ⟨some 52, none, .pick (.t 48) (.t 51) (.k (.sc (.bool false)))⟩,
 ⟨some 53, none, .mv (.t 52)⟩,
 ⟨some 54, (some ((some 53), true)), .mv (.t 11)⟩,
 ⟨some 55, (some ((some 53), true)), .bin .eql false (.t 54) (.k (.sc (.int .i64 0))) (pu (.binOp .eql 22 (.tmp 54) (.const (.int .i64 0)) 22) 4)⟩,
 ⟨some 56, none, .pick (.t 53) (.t 55) (.k (.sc (.bool false)))⟩,
 ⟨some 57, none, .mv (.t 56)⟩,
 ⟨some 58, (some ((some 57), true)), .call 13 []⟩,
 ⟨some 59, none, .pick (.t 57) (.t 58) (.k (.sc (.bool false)))⟩,
 ⟨some 4, none, .mv (.t 59)⟩])
 .ret))))))))
def k9 : List Nat := [0, 1, 4, 5, 6, 7, 8, 9, 10, 11, 14, 35, 37]
theorem ic9 : factsI Tryd.prog 9 = some (60, [.tmp 4], c9) := by kernel_rfl
def c10 : IC :=
 (.seq (.reg [⟨some 2, none, .mv (.k (.sc (.bool false)))⟩])
 (.seq (.seq (.reg [⟨some 11, none, .mv (.t 0)⟩,
 ⟨some 12, none, .lens (.t 11) (pu (.call ⟨.builtin .len, #[(.tmp 11)], #[9]⟩) 3)⟩,
 ⟨some 13, none, .bin .gtr false (.t 12) (.k (.sc (.int .i64 40))) (pu (.binOp .gtr 3 (.tmp 12) (.const (.int .i64 40)) 3) 4)⟩])
 (.cond (.t 13) (.seq (.reg [⟨some 14, none, .call 13 []⟩,
 ⟨some 2, none, .mv (.t 14)⟩])
 .ret)
 .skip))
 (.seq (.reg [⟨some 16, none, .mv (.t 0)⟩,
 ⟨some 17, none, .call 23 [(.t 16)]⟩,
 ⟨some 15, none, .mv (.t 17)⟩,
 ⟨some 18, none, .ext (.t 15) 0⟩,
 ⟨some 19, none, .ext (.t 15) 1⟩,
 ⟨some 20, none, .ext (.t 15) 2⟩,
 ⟨some 3, none, .mv (.t 18)⟩,
 ⟨some 4, none, .mv (.t 19)⟩,
 ⟨some 5, none, .mv (.t 20)⟩])
 (.seq (.reg [⟨some 22, none, .mv (.t 0)⟩,
 ⟨some 23, none, .call 24 [(.t 22)]⟩,
 ⟨some 21, none, .mv (.t 23)⟩,
 ⟨some 24, none, .ext (.t 21) 0⟩,
 ⟨some 25, none, .ext (.t 21) 1⟩,
 ⟨some 26, none, .ext (.t 21) 2⟩,
 ⟨some 6, none, .mv (.t 24)⟩,
 ⟨some 7, none, .mv (.t 25)⟩,
 ⟨some 8, none, .mv (.t 26)⟩])
 (.seq (.seq (.reg [⟨some 27, none, .mv (.t 3)⟩,
 ⟨some 28, none, .mv (.t 6)⟩,
 ⟨some 29, none, .bin .neq false (.t 27) (.t 28) (pu (.binOp .neq 3 (.tmp 27) (.tmp 28) 3) 4)⟩,
 ⟨some 30, none, .mv (.t 29)⟩,
 ⟨some 31, (some ((some 30), false)), .mv (.t 4)⟩,
 ⟨some 32, (some ((some 30), false)), .mv (.t 7)⟩,
 ⟨some 33, (some ((some 30), false)), .bin .neq false (.t 31) (.t 32) (pu (.binOp .neq 9 (.tmp 31) (.tmp 32) 9) 4)⟩,
 ⟨some 34, none, .pick (.t 30) (.k (.sc (.bool true))) (.t 33)⟩,
 ⟨some 35, none, .mv (.t 34)⟩,
 ⟨some 36, (some ((some 35), false)), .mv (.t 5)⟩,
 ⟨some 37, (some ((some 35), false)), .mv (.t 8)⟩,
 ⟨some 38, (some ((some 35), false)), .bin .neq false (.t 36) (.t 37) (pu (.binOp .neq 22 (.tmp 36) (.tmp 37) 22) 4)⟩,
 ⟨some 39, none, .pick (.t 35) (.k (.sc (.bool true))) (.t 38)⟩])
 (.cond (.t 39) (.seq (.reg [⟨some 2, none, .mv (.k (.sc (.bool false)))⟩])
 .ret)
 .skip))
 (.seq (.seq (.reg [⟨some 40, none, .mv (.t 5)⟩,
 ⟨some 41, none, .bin .neq false (.t 40) (.k (.sc (.int .i64 0))) (pu (.binOp .neq 22 (.tmp 40) (.const (.int .i64 0)) 22) 4)⟩])
 (.cond (.t 41) (.seq (.reg [⟨some 42, none, .call 13 []⟩,
 ⟨some 2, none, .mv (.t 42)⟩])
 .ret)
 .skip))
 (.seq (.reg [⟨some 44, none, .mv (.t 3)⟩,
 ⟨some 45, none, .mv (.t 4)⟩,
 ⟨some 46, none, .call 21 [(.t 44), (.t 45)]⟩,
 ⟨some 43, none, .mv (.t 46)⟩,
 ⟨some 47, none, .ext (.t 43) 0⟩,
 ⟨some 48, none, .ext (.t 43) 1⟩,
 ⟨some 9, none, .mv (.t 47)⟩,
 ⟨some 10, none, .mv (.t 48)⟩])
 (.seq (.reg [⟨some 49, none, .mv (.t 9)⟩,
 ⟨some 50, none, .mv (.t 0)⟩,
 ⟨some 51, none, .bin .eql false (.t 49) (.t 50) (pu (.binOp .eql 9 (.tmp 49) (.tmp 50) 9) 4)⟩,
 ⟨some 52, none, .mv (.t 51)⟩,
 ⟨some 53, (some ((some 52), true)), .mv (.t 10)⟩,
 ⟨some 54, (some ((some 52), true)), .bin .eql false (.t 53) (.k (.sc (.int .i64 0))) (pu (.binOp .eql 22 (.tmp 53) (.const (.int .i64 0)) 22) 4)⟩,
 ⟨some 55, none, .pick (.t 52) (.t 54) (.k (.sc (.bool false)))⟩,
 ⟨some 56, none, .mv (.t 55)⟩,
 ⟨some 57, (some ((some 56), true)), .call 13 []⟩,
 ⟨some 58, none, .pick (.t 56) (.t 57) (.k (.sc (.bool false)))⟩,
 ⟨some 2, none, .mv (.t 58)⟩])
 .ret))))))))
def k10 : List Nat := [0, 2, 3, 4, 5, 6, 7, 8, 9, 10, 13, 39, 41]
theorem ic10 : factsI Tryd.prog 10 = some (59, [.tmp 2], c10) := by kernel_rfl
def c11 : IC :=
 (.seq (.reg [⟨some 6, none, .mv (.k (.sc (.int .i64 0)))⟩,
 ⟨some 7, none, .mv (.k (.sc (.int .i64 0)))⟩])
 (.seq (.reg [⟨some 8, none, .mv (.t 0)⟩,
 ⟨some 9, none, .mv (.t 1)⟩,
 ⟨some 10, none, .mv (.t 2)⟩,
 ⟨some 11, none, .call 14 [(.t 8), (.k (.sc (.int .i64 1))), (.t 9), (.t 10)]⟩,
 ⟨some 12, none, .ext (.t 11) 0⟩,
 ⟨some 13, none, .ext (.t 11) 1⟩,
 ⟨some 6, none, .mv (.t 12)⟩,
 ⟨some 7, none, .mv (.t 13)⟩])
 .ret))
def k11 : List Nat := [0, 1, 2, 6, 7]
theorem ic11 : factsI Tryd.prog 11 = some (14, [.tmp 6, .tmp 7], c11) := by kernel_rfl
def c12 : IC :=
 (.seq (.reg [⟨some 6, none, .mv (.k (.sc (.int .i64 0)))⟩,
 ⟨some 7, none, .mv (.k (.sc (.int .i64 0)))⟩])
 (.seq (.reg [⟨some 8, none, .mv (.t 0)⟩,
 ⟨some 9, none, .mv (.t 1)⟩,
 ⟨some 10, none, .mv (.t 2)⟩,
 ⟨some 11, none, .call 15 [(.t 8), (.k (.sc (.int .i64 1))), (.t 9), (.t 10)]⟩,
 ⟨some 12, none, .ext (.t 11) 0⟩,
 ⟨some 13, none, .ext (.t 11) 1⟩,
 ⟨some 6, none, .mv (.t 12)⟩,
 ⟨some 7, none, .mv (.t 13)⟩])
 .ret))
def k12 : List Nat := [0, 1, 2, 6, 7]
theorem ic12 : factsI Tryd.prog 12 = some (14, [.tmp 6, .tmp 7], c12) := by kernel_rfl
def c13 : IC :=
 (.seq (.reg [⟨some 0, none, .mv (.k (.sc (.bool false)))⟩])
 (.seq (.reg [⟨some 15, none, .call 11 [(.k (.sc (.int .i64 (-5)))), (.k (.sc (.int .i64 2))), (.k (.sc (.int .i64 1)))]⟩,
 ⟨some 14, none, .mv (.t 15)⟩,
 ⟨some 16, none, .ext (.t 14) 0⟩,
 ⟨some 17, none, .ext (.t 14) 1⟩,
 ⟨some 1, none, .mv (.t 16)⟩,
 ⟨some 2, none, .mv (.t 17)⟩])
 (.seq (.reg [⟨some 19, none, .call 14 [(.k (.sc (.int .i64 4611686018427387904))), (.k (.sc (.int .i64 6))), (.k (.sc (.int .i64 8))), (.k (.sc (.int .i64 3)))]⟩,
 ⟨some 18, none, .mv (.t 19)⟩,
 ⟨some 20, none, .ext (.t 18) 0⟩,
 ⟨some 21, none, .ext (.t 18) 1⟩,
 ⟨some 3, none, .mv (.t 20)⟩,
 ⟨some 4, none, .mv (.t 21)⟩])
 (.seq (.reg [⟨some 23, none, .bsl 1 3 false [.sc (.int .i64 0), .sc (.int .i64 0), .sc (.int .i64 0)] [(0, 1, (.k (.sc (.int .i64 9223372036854775807)))), (1, 1, (.k (.sc (.int .i64 1)))), (2, 1, (.k (.sc (.int .i64 (-1)))))]⟩,
 ⟨some 24, none, .call 16 [(.t 23)]⟩,
 ⟨some 22, none, .mv (.t 24)⟩,
 ⟨some 25, none, .ext (.t 22) 0⟩,
 ⟨some 26, none, .ext (.t 22) 1⟩,
 ⟨some 5, none, .mv (.t 25)⟩,
 ⟨some 6, none, .mv (.t 26)⟩])
 (.seq (.seq (.reg [⟨some 27, none, .mv (.t 1)⟩,
 ⟨some 28, none, .bin .neq false (.t 27) (.k (.sc (.int .i64 (-3)))) (pu (.binOp .neq 3 (.tmp 27) (.const (.int .i64 (-3))) 3) 4)⟩,
 ⟨some 29, none, .mv (.t 28)⟩,
 ⟨some 30, (some ((some 29), false)), .mv (.t 2)⟩,
 ⟨some 31, (some ((some 29), false)), .bin .neq false (.t 30) (.k (.sc (.int .i64 0))) (pu (.binOp .neq 22 (.tmp 30) (.const (.int .i64 0)) 22) 4)⟩,
 ⟨some 32, none, .pick (.t 29) (.k (.sc (.bool true))) (.t 31)⟩,
 ⟨some 33, none, .mv (.t 32)⟩,
 ⟨some 34, (some ((some 33), false)), .mv (.t 3)⟩,
 ⟨some 35, (some ((some 33), false)), .bin .neq false (.t 34) (.k (.sc (.int .i64 3458764513820540928))) (pu (.binOp .neq 3 (.tmp 34) (.const (.int .i64 3458764513820540928)) 3) 4)⟩,
 ⟨some 36, none, .pick (.t 33) (.k (.sc (.bool true))) (.t 35)⟩,
 ⟨some 37, none, .mv (.t 36)⟩,
 ⟨some 38, (some ((some 37), false)), .mv (.t 4)⟩,
 ⟨some 39, (some ((some 37), false)), .bin .neq false (.t 38) (.k (.sc (.int .i64 0))) (pu (.binOp .neq 22 (.tmp 38) (.const (.int .i64 0)) 22) 4)⟩,
 ⟨some 40, none, .pick (.t 37) (.k (.sc (.bool true))) (.t 39)⟩,
 ⟨some 41, none, .mv (.t 40)⟩,
 ⟨some 42, (some ((some 41), false)), .mv (.t 5)⟩,
 ⟨some 43, (some ((some 41), false)), .bin .neq false (.t 42) (.k (.sc (.int .i64 9223372036854775807))) (pu (.binOp .neq 3 (.tmp 42) (.const (.int .i64 9223372036854775807)) 3) 4)⟩,
 ⟨some 44, none, .pick (.t 41) (.k (.sc (.bool true))) (.t 43)⟩,
 ⟨some 45, none, .mv (.t 44)⟩,
 ⟨some 46, (some ((some 45), false)), .mv (.t 6)⟩,
 ⟨some 47, (some ((some 45), false)), .bin .neq false (.t 46) (.k (.sc (.int .i64 0))) (pu (.binOp .neq 22 (.tmp 46) (.const (.int .i64 0)) 22) 4)⟩,
 ⟨some 48, none, .pick (.t 45) (.k (.sc (.bool true))) (.t 47)⟩])
 (.cond (.t 48) (.seq (.reg [⟨some 0, none, .mv (.k (.sc (.bool false)))⟩])
 .ret)
 .skip))
 (.seq (.reg [⟨some 50, none, .bsl 1 4 false [.sc (.int .i64 0), .sc (.int .i64 0), .sc (.int .i64 0), .sc (.int .i64 0)] [(0, 1, (.k (.sc (.int .i64 3)))), (1, 1, (.k (.sc (.int .i64 0)))), (2, 1, (.k (.sc (.int .i64 2)))), (3, 1, (.k (.sc (.int .i64 2))))]⟩,
 ⟨some 51, none, .call 18 [(.k (.sc (.int .i64 10))), (.t 50)]⟩,
 ⟨some 49, none, .mv (.t 51)⟩,
 ⟨some 52, none, .ext (.t 49) 0⟩,
 ⟨some 53, none, .ext (.t 49) 1⟩,
 ⟨some 7, none, .mv (.t 52)⟩,
 ⟨some 8, none, .mv (.t 53)⟩])
 (.seq (.reg [⟨some 55, none, .call 21 [(.k (.sc (.int .i64 (-1234)))), (.k (.sc (.string ⟨#[69, 85, 82]⟩)))]⟩,
 ⟨some 54, none, .mv (.t 55)⟩,
 ⟨some 56, none, .ext (.t 54) 0⟩,
 ⟨some 57, none, .ext (.t 54) 1⟩,
 ⟨some 9, none, .mv (.t 56)⟩,
 ⟨some 10, none, .mv (.t 57)⟩])
 (.seq (.reg [⟨some 59, none, .call 23 [(.k (.sc (.string ⟨#[48, 46, 48, 48, 55, 32, 85, 83, 68]⟩)))]⟩,
 ⟨some 58, none, .mv (.t 59)⟩,
 ⟨some 60, none, .ext (.t 58) 0⟩,
 ⟨some 61, none, .ext (.t 58) 1⟩,
 ⟨some 62, none, .ext (.t 58) 2⟩,
 ⟨some 11, none, .mv (.t 60)⟩,
 ⟨some 12, none, .mv (.t 61)⟩,
 ⟨some 13, none, .mv (.t 62)⟩])
 (.seq (.reg [⟨some 63, none, .mv (.t 7)⟩,
 ⟨some 64, none, .bsl 1 4 false [.sc (.int .i64 0), .sc (.int .i64 0), .sc (.int .i64 0), .sc (.int .i64 0)] [(0, 1, (.k (.sc (.int .i64 4)))), (1, 1, (.k (.sc (.int .i64 0)))), (2, 1, (.k (.sc (.int .i64 3)))), (3, 1, (.k (.sc (.int .i64 3))))]⟩,
 ⟨some 65, none, .call 20 [(.t 63), (.t 64)]⟩,
 ⟨some 66, none, .mv (.t 65)⟩,
 ⟨some 67, (some ((some 66), true)), .mv (.t 8)⟩,
 ⟨some 68, (some ((some 66), true)), .bin .eql false (.t 67) (.k (.sc (.int .i64 0))) (pu (.binOp .eql 22 (.tmp 67) (.const (.int .i64 0)) 22) 4)⟩,
 ⟨some 69, none, .pick (.t 66) (.t 68) (.k (.sc (.bool false)))⟩,
 ⟨some 70, none, .mv (.t 69)⟩,
 ⟨some 71, (some ((some 70), true)), .mv (.t 9)⟩,
 ⟨some 72, (some ((some 70), true)), .bin .eql false (.t 71) (.k (.sc (.string ⟨#[45, 49, 46, 50, 51, 52, 32, 69, 85, 82]⟩))) (pu (.binOp .eql 9 (.tmp 71) (.const (.string ⟨#[45, 49, 46, 50, 51, 52, 32, 69, 85, 82]⟩)) 9) 4)⟩,
 ⟨some 73, none, .pick (.t 70) (.t 72) (.k (.sc (.bool false)))⟩,
 ⟨some 74, none, .mv (.t 73)⟩,
 ⟨some 75, (some ((some 74), true)), .mv (.t 10)⟩,
 ⟨some 76, (some ((some 74), true)), .bin .eql false (.t 75) (.k (.sc (.int .i64 0))) (pu (.binOp .eql 22 (.tmp 75) (.const (.int .i64 0)) 22) 4)⟩,
 ⟨some 77, none, .pick (.t 74) (.t 76) (.k (.sc (.bool false)))⟩,
 ⟨some 78, none, .mv (.t 77)⟩,
 ⟨some 79, (some ((some 78), true)), .mv (.t 11)⟩,
 ⟨some 80, (some ((some 78), true)), .bin .eql false (.t 79) (.k (.sc (.int .i64 7))) (pu (.binOp .eql 3 (.tmp 79) (.const (.int .i64 7)) 3) 4)⟩,
 ⟨some 81, none, .pick (.t 78) (.t 80) (.k (.sc (.bool false)))⟩,
 ⟨some 82, none, .mv (.t 81)⟩,
 ⟨some 83, (some ((some 82), true)), .mv (.t 12)⟩,
 ⟨some 84, (some ((some 82), true)), .bin .eql false (.t 83) (.k (.sc (.string ⟨#[85, 83, 68]⟩))) (pu (.binOp .eql 9 (.tmp 83) (.const (.string ⟨#[85, 83, 68]⟩)) 9) 4)⟩,
 ⟨some 85, none, .pick (.t 82) (.t 84) (.k (.sc (.bool false)))⟩,
 ⟨some 86, none, .mv (.t 85)⟩,
 ⟨some 87, (some ((some 86), true)), .mv (.t 13)⟩,
 ⟨some 88, (some ((some 86), true)), .bin .eql false (.t 87) (.k (.sc (.int .i64 0))) (pu (.binOp .eql 22 (.tmp 87) (.const (.int .i64 0)) 22) 4)⟩,
 ⟨some 89, none, .pick (.t 86) (.t 88) (.k (.sc (.bool false)))⟩,
 ⟨some 0, none, .mv (.t 89)⟩])
 .ret)))))))))
def k13 : List Nat := [0, 1, 2, 3, 4, 5, 6, 7, 8, 9, 10, 11, 12, 13, 48]
theorem ic13 : factsI Tryd.prog 13 = some (90, [.tmp 0], c13) := by kernel_rfl
def c14 : IC :=
 (.seq (.reg [⟨some 8, none, .mv (.k (.sc (.int .i64 0)))⟩,
 ⟨some 9, none, .mv (.k (.sc (.int .i64 0)))⟩])
 (.seq (.seq (.reg [⟨some 20, none, .mv (.t 2)⟩,
 ⟨some 21, none, .bin .lss false (.t 20) (.k (.sc (.int .i64 1))) (pu (.binOp .lss 3 (.tmp 20) (.const (.int .i64 1)) 3) 4)⟩])
 (.cond (.t 21) (.seq (.reg [⟨some 8, none, .mv (.k (.sc (.int .i64 0)))⟩,
 ⟨some 9, none, .mv (.k (.sc (.int .i64 1)))⟩])
 .ret)
 .skip))
 (.seq (.seq (.reg [⟨some 22, none, .mv (.t 3)⟩,
 ⟨some 23, none, .bin .lss false (.t 22) (.k (.sc (.int .i64 1))) (pu (.binOp .lss 3 (.tmp 22) (.const (.int .i64 1)) 3) 4)⟩,
 ⟨some 24, none, .mv (.t 23)⟩,
 ⟨some 25, (some ((some 24), false)), .mv (.t 3)⟩,
 ⟨some 26, (some ((some 24), false)), .bin .gtr false (.t 25) (.k (.sc (.int .i64 4))) (pu (.binOp .gtr 3 (.tmp 25) (.const (.int .i64 4)) 3) 4)⟩,
 ⟨some 27, none, .pick (.t 24) (.k (.sc (.bool true))) (.t 26)⟩])
 (.cond (.t 27) (.seq (.reg [⟨some 8, none, .mv (.k (.sc (.int .i64 0)))⟩,
 ⟨some 9, none, .mv (.k (.sc (.int .i64 2)))⟩])
 .ret)
 .skip))
 (.seq (.reg [⟨some 29, none, .mv (.t 0)⟩,
 ⟨some 30, none, .call 25 [(.t 29)]⟩,
 ⟨some 28, none, .mv (.t 30)⟩,
 ⟨some 31, none, .ext (.t 28) 0⟩,
 ⟨some 32, none, .ext (.t 28) 1⟩,
 ⟨some 10, none, .mv (.t 31)⟩,
 ⟨some 11, none, .mv (.t 32)⟩])
 (.seq (.reg [⟨some 34, none, .mv (.t 1)⟩,
 ⟨some 35, none, .call 25 [(.t 34)]⟩,
 ⟨some 33, none, .mv (.t 35)⟩,
 ⟨some 36, none, .ext (.t 33) 0⟩,
 ⟨some 37, none, .ext (.t 33) 1⟩,
 ⟨some 12, none, .mv (.t 36)⟩,
 ⟨some 13, none, .mv (.t 37)⟩])
 (.seq (.reg [⟨some 39, none, .mv (.t 10)⟩,
 ⟨some 40, none, .mv (.t 12)⟩,
 ⟨some 41, none, .call 26 [(.t 39), (.t 40)]⟩,
 ⟨some 38, none, .mv (.t 41)⟩,
 ⟨some 42, none, .ext (.t 38) 0⟩,
 ⟨some 43, none, .ext (.t 38) 1⟩,
 ⟨some 14, none, .mv (.t 42)⟩,
 ⟨some 15, none, .mv (.t 43)⟩])
 (.seq (.seq (.reg [⟨some 44, none, .mv (.t 14)⟩,
 ⟨some 45, none, .mv (.t 2)⟩,
 ⟨some 46, none, .pur (pu (.convert 3 45 (.tmp 45)) 45)⟩,
 ⟨some 47, none, .bin .geq false (.t 44) (.t 46) (pu (.binOp .geq 45 (.tmp 44) (.tmp 46) 45) 4)⟩])
 (.cond (.t 47) (.seq (.reg [⟨some 8, none, .mv (.k (.sc (.int .i64 0)))⟩,
 ⟨some 9, none, .mv (.k (.sc (.int .i64 20)))⟩])
 .ret)
 .skip))
 (.seq (.reg [⟨some 49, none, .mv (.t 14)⟩,
 ⟨some 50, none, .mv (.t 15)⟩,
 ⟨some 51, none, .mv (.t 2)⟩,
 ⟨some 52, none, .pur (pu (.convert 3 45 (.tmp 51)) 45)⟩,
 ⟨some 53, none, .call 27 [(.t 49), (.t 50), (.t 52)]⟩,
 ⟨some 48, none, .mv (.t 53)⟩,
 ⟨some 54, none, .ext (.t 48) 0⟩,
 ⟨some 55, none, .ext (.t 48) 1⟩,
 ⟨some 16, none, .mv (.t 54)⟩,
 ⟨some 17, none, .mv (.t 55)⟩])
 (.seq (.seq (.reg [⟨some 56, none, .mv (.t 16)⟩,
 ⟨some 57, none, .mv (.t 17)⟩,
 ⟨some 58, none, .mv (.t 2)⟩,
 ⟨some 59, none, .pur (pu (.convert 3 45 (.tmp 58)) 45)⟩,
 ⟨some 60, none, .mv (.t 3)⟩,
 ⟨some 61, none, .call 28 [(.t 56), (.t 57), (.t 59), (.t 60)]⟩])
 (.cond (.t 61) (.seq (.reg [⟨some 62, none, .mv (.t 16)⟩,
 ⟨some 63, none, .bin .add false (.t 62) (.k (.sc (.int .u64 1))) (pu (.binOp .add 45 (.tmp 62) (.const (.int .u64 1)) 45) 45)⟩,
 ⟨some 16, none, .mv (.t 63)⟩])
 (.seq (.reg [⟨some 64, none, .mv (.t 16)⟩,
 ⟨some 65, none, .bin .eql false (.t 64) (.k (.sc (.int .u64 0))) (pu (.binOp .eql 45 (.tmp 64) (.const (.int .u64 0)) 45) 4)⟩])
 (.cond (.t 65) (.seq (.reg [⟨some 8, none, .mv (.k (.sc (.int .i64 0)))⟩,
 ⟨some 9, none, .mv (.k (.sc (.int .i64 20)))⟩])
 .ret)
 .skip)))
 .skip))
 (.seq (.reg [⟨some 67, none, .mv (.t 16)⟩,
 ⟨some 68, none, .mv (.t 11)⟩,
 ⟨some 69, none, .mv (.t 13)⟩,
 ⟨some 70, none, .bin .neq true (.t 68) (.t 69) (pu (.binOp .neq 4 (.tmp 68) (.tmp 69) 4) 4)⟩,
 ⟨some 71, none, .call 29 [(.t 67), (.t 70)]⟩,
 ⟨some 66, none, .mv (.t 71)⟩,
 ⟨some 72, none, .ext (.t 66) 0⟩,
 ⟨some 73, none, .ext (.t 66) 1⟩,
 ⟨some 18, none, .mv (.t 72)⟩,
 ⟨some 19, none, .mv (.t 73)⟩])
 (.seq (.seq (.reg [⟨some 74, none, .mv (.t 19)⟩,
 ⟨some 75, none, .un .not (.t 74) (pu (.unOp .not 4 (.tmp 74)) 4)⟩])
 (.cond (.t 75) (.seq (.reg [⟨some 8, none, .mv (.k (.sc (.int .i64 0)))⟩,
 ⟨some 9, none, .mv (.k (.sc (.int .i64 20)))⟩])
 .ret)
 .skip))
 (.seq (.reg [⟨some 76, none, .mv (.t 18)⟩,
 ⟨some 8, none, .mv (.t 76)⟩,
 ⟨some 9, none, .mv (.k (.sc (.int .i64 0)))⟩])
 .ret))))))))))))
def k14 : List Nat := [0, 1, 2, 3, 8, 9, 10, 11, 12, 13, 14, 15, 16, 17, 18, 19, 21, 27, 47, 61, 65, 75]
theorem ic14 : factsI Tryd.prog 14 = some (77, [.tmp 8, .tmp 9], c14) := by kernel_rfl
def c15 : IC :=
 (.seq (.reg [⟨some 8, none, .mv (.k (.sc (.int .i64 0)))⟩,
 ⟨some 9, none, .mv (.k (.sc (.int .i64 0)))⟩])
 (.seq (.seq (.reg [⟨some 17, none, .mv (.t 2)⟩,
 ⟨some 18, none, .bin .lss false (.t 17) (.k (.sc (.int .i64 1))) (pu (.binOp .lss 3 (.tmp 17) (.const (.int .i64 1)) 3) 4)⟩])
 (.cond (.t 18) (.seq (.reg [⟨some 8, none, .mv (.k (.sc (.int .i64 0)))⟩,
 ⟨some 9, none, .mv (.k (.sc (.int .i64 1)))⟩])
 .ret)
 .skip))
 (.seq (.seq (.reg [⟨some 19, none, .mv (.t 3)⟩,
 ⟨some 20, none, .bin .lss false (.t 19) (.k (.sc (.int .i64 1))) (pu (.binOp .lss 3 (.tmp 19) (.const (.int .i64 1)) 3) 4)⟩,
 ⟨some 21, none, .mv (.t 20)⟩,
 ⟨some 22, (some ((some 21), false)), .mv (.t 3)⟩,
 ⟨some 23, (some ((some 21), false)), .bin .gtr false (.t 22) (.k (.sc (.int .i64 4))) (pu (.binOp .gtr 3 (.tmp 22) (.const (.int .i64 4)) 3) 4)⟩,
 ⟨some 24, none, .pick (.t 21) (.k (.sc (.bool true))) (.t 23)⟩])
 (.cond (.t 24) (.seq (.reg [⟨some 8, none, .mv (.k (.sc (.int .i64 0)))⟩,
 ⟨some 9, none, .mv (.k (.sc (.int .i64 2)))⟩])
 .ret)
 .skip))
 (.seq (.reg [⟨some 26, none, .mv (.t 0)⟩,
 ⟨some 27, none, .call 31 [(.t 26)]⟩,
 ⟨some 28, none, .mv (.t 1)⟩,
 ⟨some 29, none, .call 31 [(.t 28)]⟩,
 ⟨some 30, none, .call 30 [(.t 27), (.t 29)]⟩,
 ⟨some 25, none, .mv (.t 30)⟩,
 ⟨some 31, none, .ext (.t 25) 0⟩,
 ⟨some 32, none, .ext (.t 25) 1⟩,
 ⟨some 10, none, .mv (.t 31)⟩,
 ⟨some 11, none, .mv (.t 32)⟩])
 (.seq (.reg [⟨some 34, none, .mv (.t 10)⟩,
 ⟨some 35, none, .mv (.t 11)⟩,
 ⟨some 36, none, .mv (.t 2)⟩,
 ⟨some 37, none, .pur (pu (.convert 3 45 (.tmp 36)) 45)⟩,
 ⟨some 38, none, .call 32 [(.t 34), (.t 35), (.t 37)]⟩,
 ⟨some 33, none, .mv (.t 38)⟩,
 ⟨some 39, none, .ext (.t 33) 0⟩,
 ⟨some 40, none, .ext (.t 33) 1⟩,
 ⟨some 41, none, .ext (.t 33) 2⟩,
 ⟨some 12, none, .mv (.t 39)⟩,
 ⟨some 13, none, .mv (.t 40)⟩,
 ⟨some 14, none, .mv (.t 41)⟩])
 (.seq (.seq (.reg [⟨some 42, none, .mv (.t 14)⟩,
 ⟨some 43, none, .bin .gtr false (.t 42) (.k (.sc (.int .u64 0))) (pu (.binOp .gtr 45 (.tmp 42) (.const (.int .u64 0)) 45) 4)⟩,
 ⟨some 44, none, .mv (.t 43)⟩,
 ⟨some 45, (some ((some 44), true)), .mv (.t 13)⟩,
 ⟨some 46, (some ((some 44), true)), .bin .rem false (.t 45) (.k (.sc (.int .u64 2))) (pu (.binOp .rem 45 (.tmp 45) (.const (.int .u64 2)) 45) 45)⟩,
 ⟨some 47, (some ((some 44), true)), .bin .eql false (.t 46) (.k (.sc (.int .u64 1))) (pu (.binOp .eql 45 (.tmp 46) (.const (.int .u64 1)) 45) 4)⟩,
 ⟨some 48, (some ((some 44), true)), .mv (.t 14)⟩,
 ⟨some 49, (some ((some 44), true)), .mv (.t 2)⟩,
 ⟨some 50, (some ((some 44), true)), .pur (pu (.convert 3 45 (.tmp 49)) 45)⟩,
 ⟨some 51, (some ((some 44), true)), .mv (.t 3)⟩,
 ⟨some 52, (some ((some 44), true)), .call 33 [(.t 47), (.t 48), (.t 50), (.t 51)]⟩,
 ⟨some 53, none, .pick (.t 44) (.t 52) (.k (.sc (.bool false)))⟩])
 (.cond (.t 53) (.seq (.reg [⟨some 54, none, .mv (.t 13)⟩,
 ⟨some 55, none, .bin .add false (.t 54) (.k (.sc (.int .u64 1))) (pu (.binOp .add 45 (.tmp 54) (.const (.int .u64 1)) 45) 45)⟩,
 ⟨some 13, none, .mv (.t 55)⟩])
 (.seq (.reg [⟨some 56, none, .mv (.t 13)⟩,
 ⟨some 57, none, .bin .eql false (.t 56) (.k (.sc (.int .u64 0))) (pu (.binOp .eql 45 (.tmp 56) (.const (.int .u64 0)) 45) 4)⟩])
 (.cond (.t 57) (.reg [⟨some 58, none, .mv (.t 12)⟩,
 ⟨some 59, none, .bin .add false (.t 58) (.k (.sc (.int .u64 1))) (pu (.binOp .add 45 (.tmp 58) (.const (.int .u64 1)) 45) 45)⟩,
 ⟨some 12, none, .mv (.t 59)⟩])
 .skip)))
 .skip))
 (.seq (.reg [⟨some 61, none, .mv (.t 0)⟩,
 ⟨some 62, none, .bin .lss false (.t 61) (.k (.sc (.int .i64 0))) (pu (.binOp .lss 3 (.tmp 61) (.const (.int .i64 0)) 3) 4)⟩,
 ⟨some 63, none, .mv (.t 1)⟩,
 ⟨some 64, none, .bin .lss false (.t 63) (.k (.sc (.int .i64 0))) (pu (.binOp .lss 3 (.tmp 63) (.const (.int .i64 0)) 3) 4)⟩,
 ⟨some 65, none, .bin .neq true (.t 62) (.t 64) (pu (.binOp .neq 4 (.tmp 62) (.tmp 64) 4) 4)⟩,
 ⟨some 66, none, .mv (.t 12)⟩,
 ⟨some 67, none, .mv (.t 13)⟩,
 ⟨some 68, none, .call 34 [(.t 65), (.t 66), (.t 67)]⟩,
 ⟨some 60, none, .mv (.t 68)⟩,
 ⟨some 69, none, .ext (.t 60) 0⟩,
 ⟨some 70, none, .ext (.t 60) 1⟩,
 ⟨some 15, none, .mv (.t 69)⟩,
 ⟨some 16, none, .mv (.t 70)⟩])
 (.seq (.seq (.reg [⟨some 71, none, .mv (.t 16)⟩,
 ⟨some 72, none, .un .not (.t 71) (pu (.unOp .not 4 (.tmp 71)) 4)⟩])
 (.cond (.t 72) (.seq (.reg [⟨some 8, none, .mv (.k (.sc (.int .i64 0)))⟩,
 ⟨some 9, none, .mv (.k (.sc (.int .i64 20)))⟩])
 .ret)
 .skip))
 (.seq (.reg [⟨some 73, none, .mv (.t 15)⟩,
 ⟨some 8, none, .mv (.t 73)⟩,
 ⟨some 9, none, .mv (.k (.sc (.int .i64 0)))⟩])
 .ret)))))))))
def k15 : List Nat := [0, 1, 2, 3, 8, 9, 10, 11, 12, 13, 14, 15, 16, 18, 24, 53, 57, 72]
theorem ic15 : factsI Tryd.prog 15 = some (74, [.tmp 8, .tmp 9], c15) := by kernel_rfl
def c16 : IC :=
 (.seq (.reg [⟨some 2, none, .mv (.k (.sc (.int .i64 0)))⟩,
 ⟨some 3, none, .mv (.k (.sc (.int .i64 0)))⟩])
 (.seq (.reg [⟨some 4, none, .mv (.k (.sc (.int .u64 0)))⟩,
 ⟨some 5, none, .mv (.k (.sc (.int .u64 0)))⟩])
 (.seq (.seq (.reg [⟨some 9, none, .mv (.t 0)⟩,
 ⟨some 10, none, .len (.t 9) (pu (.call ⟨.builtin .len, #[(.tmp 9)], #[32]⟩) 3)⟩,
 ⟨some 11, none, .mv (.k (.sc (.int .i64 0)))⟩])
 (.block 0 (.loop (.seq (.reg [⟨some 12, none, .bin .lss false (.t 11) (.t 10) (pu (.binOp .lss 3 (.tmp 11) (.tmp 10) 3) 0)⟩])
 (.seq (.cond (.t 12) .skip
 (.exit 0))
 (.seq (.block 1 (.seq (.reg [⟨some 13, none, .ixs 1 (.t 9) (.t 11)⟩,
 ⟨some 14, none, .ld none (.t 13)⟩,
 ⟨some 7, none, .mv (.t 14)⟩])
 (.seq (.reg [⟨some 8, none, .mv (.k (.sc (.int .u64 0)))⟩])
 (.seq (.reg [⟨some 16, none, .mv (.t 5)⟩,
 ⟨some 17, none, .mv (.t 7)⟩,
 ⟨some 18, none, .pur (pu (.convert 3 45 (.tmp 17)) 45)⟩,
 ⟨some 19, none, .opx (pu (.call ⟨.value (.func 35), #[(.tmp 16), (.tmp 18), (.const (.int .u64 0))], #[45, 45, 45]⟩) 48)⟩,
 ⟨some 15, none, .mv (.t 19)⟩,
 ⟨some 20, none, .ext (.t 15) 0⟩,
 ⟨some 21, none, .ext (.t 15) 1⟩,
 ⟨some 5, none, .mv (.t 20)⟩,
 ⟨some 8, none, .mv (.t 21)⟩])
 (.seq (.reg [⟨some 22, none, .mv (.t 4)⟩,
 ⟨some 23, none, .mv (.t 8)⟩,
 ⟨some 24, none, .bin .add false (.t 22) (.t 23) (pu (.binOp .add 45 (.tmp 22) (.tmp 23) 45) 45)⟩,
 ⟨some 4, none, .mv (.t 24)⟩])
 (.seq (.reg [⟨some 25, none, .mv (.t 7)⟩,
 ⟨some 26, none, .bin .lss false (.t 25) (.k (.sc (.int .i64 0))) (pu (.binOp .lss 3 (.tmp 25) (.const (.int .i64 0)) 3) 4)⟩])
 (.cond (.t 26) (.reg [⟨some 27, none, .mv (.t 4)⟩,
 ⟨some 28, none, .bin .sub false (.t 27) (.k (.sc (.int .u64 1))) (pu (.binOp .sub 45 (.tmp 27) (.const (.int .u64 1)) 45) 45)⟩,
 ⟨some 4, none, .mv (.t 28)⟩])
 .skip)))))))
 (.reg [⟨some 29, none, .bin .add false (.t 11) (.k (.sc (.int .i64 1))) (pu (.binOp .add 3 (.tmp 11) (.const (.int .i64 1)) 3) 3)⟩,
 ⟨some 11, none, .mv (.t 29)⟩])))))))
 (.seq (.seq (.reg [⟨some 30, none, .mv (.t 4)⟩,
 ⟨some 31, none, .bin .neq false (.t 30) (.k (.sc (.int .u64 0))) (pu (.binOp .neq 45 (.tmp 30) (.const (.int .u64 0)) 45) 4)⟩,
 ⟨some 32, none, .mv (.t 31)⟩,
 ⟨some 33, (some ((some 32), true)), .mv (.t 4)⟩,
 ⟨some 34, (some ((some 32), true)), .bin .neq false (.t 33) (.k (.sc (.int .u64 18446744073709551615))) (pu (.binOp .neq 45 (.tmp 33) (.const (.int .u64 18446744073709551615)) 45) 4)⟩,
 ⟨some 35, none, .pick (.t 32) (.t 34) (.k (.sc (.bool false)))⟩,
 ⟨some 36, none, .mv (.t 35)⟩,
 ⟨some 37, (some ((some 36), false)), .mv (.t 4)⟩,
 ⟨some 38, (some ((some 36), false)), .bin .eql false (.t 37) (.k (.sc (.int .u64 0))) (pu (.binOp .eql 45 (.tmp 37) (.const (.int .u64 0)) 45) 4)⟩,
 ⟨some 39, (some ((some 36), false)), .mv (.t 5)⟩,
 ⟨some 40, (some ((some 36), false)), .pur (pu (.convert 45 3 (.tmp 39)) 3)⟩,
 ⟨some 41, (some ((some 36), false)), .bin .geq false (.t 40) (.k (.sc (.int .i64 0))) (pu (.binOp .geq 3 (.tmp 40) (.const (.int .i64 0)) 3) 4)⟩,
 ⟨some 42, (some ((some 36), false)), .bin .neq true (.t 38) (.t 41) (pu (.binOp .neq 4 (.tmp 38) (.tmp 41) 4) 4)⟩,
 ⟨some 43, none, .pick (.t 36) (.k (.sc (.bool true))) (.t 42)⟩])
 (.cond (.t 43) (.seq (.reg [⟨some 2, none, .mv (.k (.sc (.int .i64 0)))⟩,
 ⟨some 3, none, .mv (.k (.sc (.int .i64 20)))⟩])
 .ret)
 .skip))
 (.seq (.reg [⟨some 44, none, .mv (.t 5)⟩,
 ⟨some 45, none, .pur (pu (.convert 45 3 (.tmp 44)) 3)⟩,
 ⟨some 2, none, .mv (.t 45)⟩,
 ⟨some 3, none, .mv (.k (.sc (.int .i64 0)))⟩])
 .ret)))))
def k16 : List Nat := [0, 2, 3, 4, 5, 7, 8, 9, 10, 11, 12, 26, 43]
theorem ic16 : factsI Tryd.prog 16 = some (46, [.tmp 2, .tmp 3], c16) := by kernel_rfl
def c17 : IC :=
 (.seq (.reg [⟨some 2, none, .mv (.k (.sc (.int .i64 0)))⟩,
 ⟨some 3, none, .mv (.k (.sc (.int .i64 0)))⟩])
 (.seq (.reg [⟨some 4, none, .mv (.k (.sc (.int .u64 0)))⟩,
 ⟨some 5, none, .mv (.k (.sc (.int .u64 0)))⟩])
 (.seq (.seq (.reg [⟨some 6, none, .mv (.k (.sc (.int .i64 0)))⟩])
 (.block 0 (.loop (.seq (.seq (.reg [⟨some 8, none, .mv (.t 6)⟩,
 ⟨some 9, none, .mv (.t 0)⟩,
 ⟨some 10, none, .len (.t 9) (pu (.call ⟨.builtin .len, #[(.tmp 9)], #[32]⟩) 3)⟩,
 ⟨some 11, none, .bin .lss false (.t 8) (.t 10) (pu (.binOp .lss 3 (.tmp 8) (.tmp 10) 3) 4)⟩])
 (.cond (.t 11) .skip
 (.exit 0)))
 (.seq (.block 1 (.seq (.seq (.reg [⟨some 14, none, .mv (.t 0)⟩,
 ⟨some 15, none, .mv (.t 6)⟩,
 ⟨some 16, none, .ixs 1 (.t 14) (.t 15)⟩,
 ⟨some 17, none, .ld none (.t 16)⟩,
 ⟨some 18, none, .bin .lss false (.t 17) (.k (.sc (.int .i64 0))) (pu (.binOp .lss 3 (.tmp 17) (.const (.int .i64 0)) 3) 4)⟩])
 (.cond (.t 18) (.reg [⟨some 19, none, .mv (.t 4)⟩,
 ⟨some 20, none, .bin .sub false (.t 19) (.k (.sc (.int .u64 1))) (pu (.binOp .sub 45 (.tmp 19) (.const (.int .u64 1)) 45) 45)⟩,
 ⟨some 4, none, .mv (.t 20)⟩])
 .skip))
 (.seq (.reg [⟨some 21, none, .mv (.t 5)⟩,
 ⟨some 22, none, .mv (.t 0)⟩,
 ⟨some 23, none, .mv (.t 6)⟩,
 ⟨some 24, none, .ixs 1 (.t 22) (.t 23)⟩,
 ⟨some 25, none, .ld none (.t 24)⟩,
 ⟨some 26, none, .pur (pu (.convert 3 45 (.tmp 25)) 45)⟩,
 ⟨some 27, none, .bin .add false (.t 21) (.t 26) (pu (.binOp .add 45 (.tmp 21) (.tmp 26) 45) 45)⟩,
 ⟨some 5, none, .mv (.t 27)⟩])
 (.seq (.reg [⟨some 28, none, .mv (.t 5)⟩,
 ⟨some 29, none, .mv (.t 0)⟩,
 ⟨some 30, none, .mv (.t 6)⟩,
 ⟨some 31, none, .ixs 1 (.t 29) (.t 30)⟩,
 ⟨some 32, none, .ld none (.t 31)⟩,
 ⟨some 33, none, .pur (pu (.convert 3 45 (.tmp 32)) 45)⟩,
 ⟨some 34, none, .bin .lss false (.t 28) (.t 33) (pu (.binOp .lss 45 (.tmp 28) (.tmp 33) 45) 4)⟩])
 (.cond (.t 34) (.reg [⟨some 35, none, .mv (.t 4)⟩,
 ⟨some 36, none, .bin .add false (.t 35) (.k (.sc (.int .u64 1))) (pu (.binOp .add 45 (.tmp 35) (.const (.int .u64 1)) 45) 45)⟩,
 ⟨some 4, none, .mv (.t 36)⟩])
 .skip)))))
 (.reg [⟨some 12, none, .mv (.t 6)⟩,
 ⟨some 13, none, .bin .add false (.t 12) (.k (.sc (.int .i64 1))) (pu (.binOp .add 3 (.tmp 12) (.const (.int .i64 1)) 3) 3)⟩,
 ⟨some 6, none, .mv (.t 13)⟩]))))))
 (.seq (.reg [⟨some 37, none, .mv (.t 5)⟩,
 ⟨some 38, none, .pur (pu (.convert 45 3 (.tmp 37)) 3)⟩,
 ⟨some 7, none, .mv (.t 38)⟩])
 (.seq (.seq (.reg [⟨some 39, none, .mv (.t 7)⟩,
 ⟨some 40, none, .bin .geq false (.t 39) (.k (.sc (.int .i64 0))) (pu (.binOp .geq 3 (.tmp 39) (.const (.int .i64 0)) 3) 4)⟩,
 ⟨some 41, none, .mv (.t 40)⟩,
 ⟨some 42, (some ((some 41), true)), .mv (.t 4)⟩,
 ⟨some 43, (some ((some 41), true)), .bin .eql false (.t 42) (.k (.sc (.int .u64 0))) (pu (.binOp .eql 45 (.tmp 42) (.const (.int .u64 0)) 45) 4)⟩,
 ⟨some 44, none, .pick (.t 41) (.t 43) (.k (.sc (.bool false)))⟩,
 ⟨some 45, none, .mv (.t 44)⟩,
 ⟨some 46, (some ((some 45), false)), .mv (.t 7)⟩,
 ⟨some 47, (some ((some 45), false)), .bin .lss false (.t 46) (.k (.sc (.int .i64 0))) (pu (.binOp .lss 3 (.tmp 46) (.const (.int .i64 0)) 3) 4)⟩,
 ⟨some 48, (some ((some 45), false)), .mv (.t 47)⟩,
 ⟨some 49, (some ((some 48), true)), .mv (.t 4)⟩,
 ⟨some 50, (some ((some 48), true)), .bin .eql false (.t 49) (.k (.sc (.int .u64 18446744073709551615))) (pu (.binOp .eql 45 (.tmp 49) (.const (.int .u64 18446744073709551615)) 45) 4)⟩,
 ⟨some 51, (some ((some 45), false)), .pick (.t 48) (.t 50) (.k (.sc (.bool false)))⟩,
 ⟨some 52, none, .pick (.t 45) (.k (.sc (.bool true))) (.t 51)⟩])
 (.cond (.t 52) (.seq (.reg [⟨some 53, none, .mv (.t 7)⟩,
 ⟨some 2, none, .mv (.t 53)⟩,
 ⟨some 3, none, .mv (.k (.sc (.int .i64 0)))⟩])
 .ret)
 .skip))
 (.seq (.reg [⟨some 2, none, .mv (.k (.sc (.int .i64 0)))⟩,
 ⟨some 3, none, .mv (.k (.sc (.int .i64 20)))⟩])
 .ret))))))
def k17 : List Nat := [0, 2, 3, 4, 5, 6, 7, 11, 18, 34, 52]
theorem ic17 : factsI Tryd.prog 17 = some (54, [.tmp 2, .tmp 3], c17) := by kernel_rfl
def c18 : IC :=
 (.seq (.reg [⟨some 4, none, .mv (.k (.sc (.slice none 0 0)))⟩,
 ⟨some 5, none, .mv (.k (.sc (.int .i64 0)))⟩])
 (.seq (.seq (.reg [⟨some 23, none, .mv (.t 1)⟩,
 ⟨some 24, none, .len (.t 23) (pu (.call ⟨.builtin .len, #[(.tmp 23)], #[32]⟩) 3)⟩,
 ⟨some 25, none, .bin .gtr false (.t 24) (.k (.sc (.int .i64 512))) (pu (.binOp .gtr 3 (.tmp 24) (.const (.int .i64 512)) 3) 4)⟩])
 (.cond (.t 25) (.seq (.reg [⟨some 4, none, .mv (.k (.sc (.slice none 0 0)))⟩,
 ⟨some 5, none, .mv (.k (.sc (.int .i64 3)))⟩])
 .ret)
 .skip))
 (.seq (.seq (.reg [⟨some 26, none, .mv (.t 0)⟩,
 ⟨some 27, none, .bin .lss false (.t 26) (.k (.sc (.int .i64 (-1099511627776)))) (pu (.binOp .lss 3 (.tmp 26) (.const (.int .i64 (-1099511627776))) 3) 4)⟩,
 ⟨some 28, none, .mv (.t 27)⟩,
 ⟨some 29, (some ((some 28), false)), .mv (.t 0)⟩,
 ⟨some 30, (some ((some 28), false)), .bin .gtr false (.t 29) (.k (.sc (.int .i64 1099511627776))) (pu (.binOp .gtr 3 (.tmp 29) (.const (.int .i64 1099511627776)) 3) 4)⟩,
 ⟨some 31, none, .pick (.t 28) (.k (.sc (.bool true))) (.t 30)⟩])
 (.cond (.t 31) (.seq (.reg [⟨some 4, none, .mv (.k (.sc (.slice none 0 0)))⟩,
 ⟨some 5, none, .mv (.k (.sc (.int .i64 2)))⟩])
 .ret)
 .skip))
 (.seq (.reg [⟨some 6, none, .mv (.k (.sc (.int .i64 0)))⟩])
 (.seq (.seq (.reg [⟨some 32, none, .mv (.t 1)⟩,
 ⟨some 33, none, .len (.t 32) (pu (.call ⟨.builtin .len, #[(.tmp 32)], #[32]⟩) 3)⟩,
 ⟨some 34, none, .mv (.k (.sc (.int .i64 0)))⟩])
 (.block 0 (.loop (.seq (.reg [⟨some 35, none, .bin .lss false (.t 34) (.t 33) (pu (.binOp .lss 3 (.tmp 34) (.tmp 33) 3) 0)⟩])
 (.seq (.cond (.t 35) .skip
 (.exit 0))
 (.seq (.block 1 (.seq (.reg [⟨some 36, none, .ixs 1 (.t 32) (.t 34)⟩,
 ⟨some 37, none, .ld none (.t 36)⟩,
 ⟨some 8, none, .mv (.t 37)⟩])
 (.seq (.seq (.reg [⟨some 38, none, .mv (.t 8)⟩,
 ⟨some 39, none, .bin .lss false (.t 38) (.k (.sc (.int .i64 0))) (pu (.binOp .lss 3 (.tmp 38) (.const (.int .i64 0)) 3) 4)⟩,
 ⟨some 40, none, .mv (.t 39)⟩,
 ⟨some 41, (some ((some 40), false)), .mv (.t 8)⟩,
 ⟨some 42, (some ((some 40), false)), .bin .gtr false (.t 41) (.k (.sc (.int .i64 1099511627776))) (pu (.binOp .gtr 3 (.tmp 41) (.const (.int .i64 1099511627776)) 3) 4)⟩,
 ⟨some 43, none, .pick (.t 40) (.k (.sc (.bool true))) (.t 42)⟩])
 (.cond (.t 43) (.seq (.reg [⟨some 4, none, .mv (.k (.sc (.slice none 0 0)))⟩,
 ⟨some 5, none, .mv (.k (.sc (.int .i64 2)))⟩])
 .ret)
 .skip))
 (.reg [⟨some 44, none, .mv (.t 6)⟩,
 ⟨some 45, none, .mv (.t 8)⟩,
 ⟨some 46, none, .bin .add false (.t 44) (.t 45) (pu (.binOp .add 3 (.tmp 44) (.tmp 45) 3) 3)⟩,
 ⟨some 6, none, .mv (.t 46)⟩]))))
 (.reg [⟨some 47, none, .bin .add false (.t 34) (.k (.sc (.int .i64 1))) (pu (.binOp .add 3 (.tmp 34) (.const (.int .i64 1)) 3) 3)⟩,
 ⟨some 34, none, .mv (.t 47)⟩])))))))
 (.seq (.seq (.reg [⟨some 48, none, .mv (.t 6)⟩,
 ⟨some 49, none, .bin .eql false (.t 48) (.k (.sc (.int .i64 0))) (pu (.binOp .eql 3 (.tmp 48) (.const (.int .i64 0)) 3) 4)⟩])
 (.cond (.t 49) (.seq (.reg [⟨some 4, none, .mv (.k (.sc (.slice none 0 0)))⟩,
 ⟨some 5, none, .mv (.k (.sc (.int .i64 1)))⟩])
 .ret)
 .skip))
 (.seq (.reg [⟨some 51, none, .mv (.t 0)⟩,
 ⟨some 52, none, .call 25 [(.t 51)]⟩,
 ⟨some 50, none, .mv (.t 52)⟩,
 ⟨some 53, none, .ext (.t 50) 0⟩,
 ⟨some 54, none, .ext (.t 50) 1⟩,
 ⟨some 9, none, .mv (.t 53)⟩,
 ⟨some 10, none, .mv (.t 54)⟩])
 (.seq (.reg [⟨some 55, none, .mv (.t 9)⟩,
 ⟨some 56, none, .pur (pu (.convert 45 3 (.tmp 55)) 3)⟩,
 ⟨some 11, none, .mv (.t 56)⟩])
 (.seq (.reg [⟨some 57, none, .mv (.t 1)⟩,
 ⟨some 58, none, .len (.t 57) (pu (.call ⟨.builtin .len, #[(.tmp 57)], #[32]⟩) 3)⟩,
 ⟨some 59, none, .mks 1 8 (.sc (.int .i64 0)) (.t 58) (.t 58)⟩,
 ⟨some 12, none, .mv (.t 59)⟩])
 (.seq (.reg [⟨some 60, none, .mv (.t 1)⟩,
 ⟨some 61, none, .len (.t 60) (pu (.call ⟨.builtin .len, #[(.tmp 60)], #[32]⟩) 3)⟩,
 ⟨some 62, none, .mks 2 16 (.agg [.sc (.int .i64 0), .sc (.int .u64 0)]) (.t 61) (.t 61)⟩,
 ⟨some 13, none, .mv (.t 62)⟩])
 (.seq (.seq (.reg [⟨some 63, none, .mv (.t 1)⟩,
 ⟨some 64, none, .len (.t 63) (pu (.call ⟨.builtin .len, #[(.tmp 63)], #[32]⟩) 3)⟩,
 ⟨some 65, none, .mv (.k (.sc (.int .i64 0)))⟩])
 (.block 2 (.loop (.seq (.reg [⟨some 66, none, .bin .lss false (.t 65) (.t 64) (pu (.binOp .lss 3 (.tmp 65) (.tmp 64) 3) 0)⟩])
 (.seq (.cond (.t 66) .skip
 (.exit 2))
 (.seq (.block 3 (.seq (.reg [⟨some 67, none, .mv (.t 65)⟩,
 ⟨some 68, none, .ixs 1 (.t 63) (.t 65)⟩,
 ⟨some 69, none, .ld none (.t 68)⟩,
 ⟨some 14, none, .mv (.t 67)⟩,
 ⟨some 15, none, .mv (.t 69)⟩])
 (.seq (.reg [⟨some 71, none, .mv (.t 9)⟩,
 ⟨some 72, none, .mv (.t 15)⟩,
 ⟨some 73, none, .pur (pu (.convert 3 45 (.tmp 72)) 45)⟩,
 ⟨some 74, none, .call 26 [(.t 71), (.t 73)]⟩,
 ⟨some 70, none, .mv (.t 74)⟩,
 ⟨some 75, none, .ext (.t 70) 0⟩,
 ⟨some 76, none, .ext (.t 70) 1⟩,
 ⟨some 16, none, .mv (.t 75)⟩,
 ⟨some 17, none, .mv (.t 76)⟩])
 (.seq (.reg [⟨some 78, none, .mv (.t 16)⟩,
 ⟨some 79, none, .mv (.t 17)⟩,
 ⟨some 80, none, .mv (.t 6)⟩,
 ⟨some 81, none, .pur (pu (.convert 3 45 (.tmp 80)) 45)⟩,
 ⟨some 82, none, .call 27 [(.t 78), (.t 79), (.t 81)]⟩,
 ⟨some 77, none, .mv (.t 82)⟩,
 ⟨some 83, none, .ext (.t 77) 0⟩,
 ⟨some 84, none, .ext (.t 77) 1⟩,
 ⟨some 18, none, .mv (.t 83)⟩,
 ⟨some 19, none, .mv (.t 84)⟩])
 (.seq (.reg [⟨some 85, none, .mv (.t 12)⟩,
 ⟨some 86, none, .mv (.t 14)⟩,
 ⟨some 87, none, .mv (.t 18)⟩,
 ⟨some 88, none, .pur (pu (.convert 45 3 (.tmp 87)) 3)⟩,
 ⟨some 89, none, .ixs 1 (.t 85) (.t 86)⟩,
 ⟨none, none, .st 1 (.t 89) (.t 88)⟩])
 (.seq (.reg [⟨some 90, none, .mv (.t 11)⟩,
 ⟨some 91, none, .mv (.t 12)⟩,
 ⟨some 92, none, .mv (.t 14)⟩,
 ⟨some 93, none, .ixs 1 (.t 91) (.t 92)⟩,
 ⟨some 94, none, .ld none (.t 93)⟩,
 ⟨some 95, none, .bin .sub false (.t 90) (.t 94) (pu (.binOp .sub 3 (.tmp 90) (.tmp 94) 3) 3)⟩,
 ⟨some 11, none, .mv (.t 95)⟩])
 (.reg [⟨some 96, none, .mv (.t 13)⟩,
 ⟨some 97, none, .mv (.t 14)⟩,
 ⟨some 98, none, .mv (.t 14)⟩,
 ⟨some 99, none, .mv (.t 19)⟩,
 ⟨some 100, none, .bld [.sc (.int .i64 0), .sc (.int .u64 0)] [(0, 1, (.t 98)), (1, 1, (.t 99))]⟩,
 ⟨some 101, none, .ixs 2 (.t 96) (.t 97)⟩,
 ⟨none, none, .st 2 (.t 101) (.t 100)⟩])))))))
 (.reg [⟨some 102, none, .bin .add false (.t 65) (.k (.sc (.int .i64 1))) (pu (.binOp .add 3 (.tmp 65) (.const (.int .i64 1)) 3) 3)⟩,
 ⟨some 65, none, .mv (.t 102)⟩])))))))
 (.seq (.reg [⟨some 103, none, .mv (.t 13)⟩,
 ⟨some 104, none, .call 36 [(.t 103), (.k (.sc (.func (.func 37) #[] #[])))]⟩])
 (.seq (.seq (.reg [⟨some 105, none, .mv (.t 13)⟩,
 ⟨some 106, none, .mv (.t 11)⟩,
 ⟨some 107, none, .sl 2 (.t 105) none (some (.t 106)) none (pu (.slice 59 (.tmp 105) none (some (.tmp 106)) none) 59)⟩,
 ⟨some 108, none, .len (.t 107) (pu (.call ⟨.builtin .len, #[(.tmp 107)], #[59]⟩) 3)⟩,
 ⟨some 109, none, .mv (.k (.sc (.int .i64 0)))⟩])
 (.block 4 (.loop (.seq (.reg [⟨some 110, none, .bin .lss false (.t 109) (.t 108) (pu (.binOp .lss 3 (.tmp 109) (.tmp 108) 3) 0)⟩])
 (.seq (.cond (.t 110) .skip
 (.exit 4))
 (.seq (.block 5 (.seq (.reg [⟨some 111, none, .ixs 2 (.t 107) (.t 109)⟩,
 ⟨some 112, none, .ld (some 2) (.t 111)⟩,
 ⟨some 21, none, .al (.agg [.sc (.int .i64 0), .sc (.int .u64 0)]) 2⟩,
 ⟨none, none, .st 2 (.t 21) (.t 112)⟩])
 (.reg [⟨some 113, none, .mv (.t 12)⟩,
 ⟨some 114, none, .sh 0 (.t 21)⟩,
 ⟨some 115, none, .ld none (.t 114)⟩,
 ⟨some 116, none, .ixs 1 (.t 113) (.t 115)⟩,
 ⟨some 117, none, .ld none (.t 116)⟩,
 ⟨some 118, none, .bin .add false (.t 117) (.k (.sc (.int .i64 1))) (pu (.binOp .add 3 (.tmp 117) (.const (.int .i64 1)) 3) 3)⟩,
 ⟨some 119, none, .ixs 1 (.t 113) (.t 115)⟩,
 ⟨none, none, .st 1 (.t 119) (.t 118)⟩])))
 (.reg [⟨some 120, none, .bin .add false (.t 109) (.k (.sc (.int .i64 1))) (pu (.binOp .add 3 (.tmp 109) (.const (.int .i64 1)) 3) 3)⟩,
 ⟨some 109, none, .mv (.t 120)⟩])))))))
 (.seq (.seq (.reg [⟨some 121, none, .mv (.t 10)⟩])
 (.cond (.t 121) (.seq (.reg [⟨some 122, none, .mv (.t 12)⟩,
 ⟨some 123, none, .len (.t 122) (pu (.call ⟨.builtin .len, #[(.tmp 122)], #[32]⟩) 3)⟩,
 ⟨some 124, none, .mv (.k (.sc (.int .i64 0)))⟩])
 (.block 6 (.loop (.seq (.reg [⟨some 125, none, .bin .lss false (.t 124) (.t 123) (pu (.binOp .lss 3 (.tmp 124) (.tmp 123) 3) 0)⟩])
 (.seq (.cond (.t 125) .skip
 (.exit 6))
 (.seq (.block 7 (.seq (.reg [⟨some 126, none, .mv (.t 124)⟩,
 ⟨some 22, none, .mv (.t 126)⟩])
 (.reg [⟨some 127, none, .mv (.t 12)⟩,
 ⟨some 128, none, .mv (.t 22)⟩,
 ⟨some 129, none, .mv (.t 12)⟩,
 ⟨some 130, none, .mv (.t 22)⟩,
 ⟨some 131, none, .ixs 1 (.t 129) (.t 130)⟩,
 ⟨some 132, none, .ld none (.t 131)⟩,
 ⟨some 133, none, .un .neg (.t 132) (pu (.unOp .neg 3 (.tmp 132)) 3)⟩,
 ⟨some 134, none, .ixs 1 (.t 127) (.t 128)⟩,
 ⟨none, none, .st 1 (.t 134) (.t 133)⟩])))
 (.reg [⟨some 135, none, .bin .add false (.t 124) (.k (.sc (.int .i64 1))) (pu (.binOp .add 3 (.tmp 124) (.const (.int .i64 1)) 3) 3)⟩,
 ⟨some 124, none, .mv (.t 135)⟩])))))))
 .skip))
 (.seq (.reg [⟨some 136, none, .mv (.t 12)⟩,
 ⟨some 4, none, .mv (.t 136)⟩,
 ⟨some 5, none, .mv (.k (.sc (.int .i64 0)))⟩])
 .ret)))))))))))))))
def k18 : List Nat := [0, 1, 4, 5, 6, 8, 9, 10, 11, 12, 13, 14, 15, 16, 17, 18, 19, 21, 22, 25, 31, 32, 33, 34, 35, 43, 49, 63, 64, 65, 66, 107, 108, 109, 110, 121, 123, 124, 125]
theorem ic18 : factsI Tryd.prog 18 = some (137, [.tmp 4, .tmp 5], c18) := by kernel_rfl
def c19 : IC :=
 (.seq (.reg [⟨some 4, none, .mv (.k (.sc (.slice none 0 0)))⟩,
 ⟨some 5, none, .mv (.k (.sc (.int .i64 0)))⟩])
 (.seq (.seq (.reg [⟨some 22, none, .mv (.t 1)⟩,
 ⟨some 23, none, .len (.t 22) (pu (.call ⟨.builtin .len, #[(.tmp 22)], #[32]⟩) 3)⟩,
 ⟨some 24, none, .bin .gtr false (.t 23) (.k (.sc (.int .i64 512))) (pu (.binOp .gtr 3 (.tmp 23) (.const (.int .i64 512)) 3) 4)⟩])
 (.cond (.t 24) (.seq (.reg [⟨some 4, none, .mv (.k (.sc (.slice none 0 0)))⟩,
 ⟨some 5, none, .mv (.k (.sc (.int .i64 3)))⟩])
 .ret)
 .skip))
 (.seq (.seq (.reg [⟨some 25, none, .mv (.t 0)⟩,
 ⟨some 26, none, .bin .lss false (.t 25) (.k (.sc (.int .i64 (-1099511627776)))) (pu (.binOp .lss 3 (.tmp 25) (.const (.int .i64 (-1099511627776))) 3) 4)⟩,
 ⟨some 27, none, .mv (.t 26)⟩,
 ⟨some 28, (some ((some 27), false)), .mv (.t 0)⟩,
 ⟨some 29, (some ((some 27), false)), .bin .gtr false (.t 28) (.k (.sc (.int .i64 1099511627776))) (pu (.binOp .gtr 3 (.tmp 28) (.const (.int .i64 1099511627776)) 3) 4)⟩,
 ⟨some 30, none, .pick (.t 27) (.k (.sc (.bool true))) (.t 29)⟩])
 (.cond (.t 30) (.seq (.reg [⟨some 4, none, .mv (.k (.sc (.slice none 0 0)))⟩,
 ⟨some 5, none, .mv (.k (.sc (.int .i64 2)))⟩])
 .ret)
 .skip))
 (.seq (.reg [⟨some 6, none, .mv (.k (.sc (.int .u64 0)))⟩])
 (.seq (.seq (.reg [⟨some 7, none, .mv (.k (.sc (.int .i64 0)))⟩])
 (.block 0 (.loop (.seq (.seq (.reg [⟨some 31, none, .mv (.t 7)⟩,
 ⟨some 32, none, .mv (.t 1)⟩,
 ⟨some 33, none, .len (.t 32) (pu (.call ⟨.builtin .len, #[(.tmp 32)], #[32]⟩) 3)⟩,
 ⟨some 34, none, .bin .lss false (.t 31) (.t 33) (pu (.binOp .lss 3 (.tmp 31) (.tmp 33) 3) 4)⟩])
 (.cond (.t 34) .skip
 (.exit 0)))
 (.seq (.block 1 (.seq (.seq (.reg [⟨some 37, none, .mv (.t 1)⟩,
 ⟨some 38, none, .mv (.t 7)⟩,
 ⟨some 39, none, .ixs 1 (.t 37) (.t 38)⟩,
 ⟨some 40, none, .ld none (.t 39)⟩,
 ⟨some 41, none, .bin .lss false (.t 40) (.k (.sc (.int .i64 0))) (pu (.binOp .lss 3 (.tmp 40) (.const (.int .i64 0)) 3) 4)⟩,
 ⟨some 42, none, .mv (.t 41)⟩,
 ⟨some 43, (some ((some 42), false)), .mv (.t 1)⟩,
 ⟨some 44, (some ((some 42), false)), .mv (.t 7)⟩,
 ⟨some 45, (some ((some 42), false)), .ixs 1 (.t 43) (.t 44)⟩,
 ⟨some 46, (some ((some 42), false)), .ld none (.t 45)⟩,
 ⟨some 47, (some ((some 42), false)), .bin .gtr false (.t 46) (.k (.sc (.int .i64 1099511627776))) (pu (.binOp .gtr 3 (.tmp 46) (.const (.int .i64 1099511627776)) 3) 4)⟩,
 ⟨some 48, none, .pick (.t 42) (.k (.sc (.bool true))) (.t 47)⟩])
 (.cond (.t 48) (.seq (.reg [⟨some 4, none, .mv (.k (.sc (.slice none 0 0)))⟩,
 ⟨some 5, none, .mv (.k (.sc (.int .i64 2)))⟩])
 .ret)
 .skip))
 (.reg [⟨some 49, none, .mv (.t 6)⟩,
 ⟨some 50, none, .mv (.t 1)⟩,
 ⟨some 51, none, .mv (.t 7)⟩,
 ⟨some 52, none, .ixs 1 (.t 50) (.t 51)⟩,
 ⟨some 53, none, .ld none (.t 52)⟩,
 ⟨some 54, none, .pur (pu (.convert 3 45 (.tmp 53)) 45)⟩,
 ⟨some 55, none, .bin .add false (.t 49) (.t 54) (pu (.binOp .add 45 (.tmp 49) (.tmp 54) 45) 45)⟩,
 ⟨some 6, none, .mv (.t 55)⟩])))
 (.reg [⟨some 35, none, .mv (.t 7)⟩,
 ⟨some 36, none, .bin .add false (.t 35) (.k (.sc (.int .i64 1))) (pu (.binOp .add 3 (.tmp 35) (.const (.int .i64 1)) 3) 3)⟩,
 ⟨some 7, none, .mv (.t 36)⟩]))))))
 (.seq (.seq (.reg [⟨some 56, none, .mv (.t 6)⟩,
 ⟨some 57, none, .bin .eql false (.t 56) (.k (.sc (.int .u64 0))) (pu (.binOp .eql 45 (.tmp 56) (.const (.int .u64 0)) 45) 4)⟩])
 (.cond (.t 57) (.seq (.reg [⟨some 4, none, .mv (.k (.sc (.slice none 0 0)))⟩,
 ⟨some 5, none, .mv (.k (.sc (.int .i64 1)))⟩])
 .ret)
 .skip))
 (.seq (.reg [⟨some 58, none, .mv (.t 0)⟩,
 ⟨some 59, none, .call 31 [(.t 58)]⟩,
 ⟨some 8, none, .mv (.t 59)⟩])
 (.seq (.reg [⟨some 9, none, .mv (.k (.sc (.slice none 0 0)))⟩])
 (.seq (.reg [⟨some 10, none, .mv (.k (.sc (.slice none 0 0)))⟩])
 (.seq (.seq (.reg [⟨some 11, none, .mv (.k (.sc (.int .i64 0)))⟩])
 (.block 2 (.loop (.seq (.seq (.reg [⟨some 60, none, .mv (.t 11)⟩,
 ⟨some 61, none, .mv (.t 1)⟩,
 ⟨some 62, none, .len (.t 61) (pu (.call ⟨.builtin .len, #[(.tmp 61)], #[32]⟩) 3)⟩,
 ⟨some 63, none, .bin .lss false (.t 60) (.t 62) (pu (.binOp .lss 3 (.tmp 60) (.tmp 62) 3) 4)⟩])
 (.cond (.t 63) .skip
 (.exit 2)))
 (.seq (.block 3 (.seq (.drw [0, 1, 0, 0, 12, 28, 60, 127, 255, 511, 511, 1023, 4095] [⟨some 67, none, .mv (.t 0)⟩,
 ⟨some 68, none, .call 31 [(.t 67)]⟩,
 ⟨some 69, none, .mv (.t 1)⟩,
 ⟨some 70, none, .mv (.t 11)⟩,
 ⟨some 71, none, .ixs 1 (.t 69) (.t 70)⟩,
 ⟨some 72, none, .ld none (.t 71)⟩,
 ⟨some 73, none, .pur (pu (.convert 3 45 (.tmp 72)) 45)⟩,
 ⟨some 74, none, .call 30 [(.t 68), (.t 73)]⟩,
 ⟨some 66, none, .mv (.t 74)⟩,
 ⟨some 75, none, .ext (.t 66) 0⟩,
 ⟨some 76, none, .ext (.t 66) 1⟩,
 ⟨some 12, none, .mv (.t 75)⟩,
 ⟨some 13, none, .mv (.t 76)⟩])
 (.seq (.reg [⟨some 78, none, .mv (.t 12)⟩,
 ⟨some 79, none, .mv (.t 13)⟩,
 ⟨some 80, none, .mv (.t 6)⟩,
 ⟨some 81, none, .call 32 [(.t 78), (.t 79), (.t 80)]⟩,
 ⟨some 77, none, .mv (.t 81)⟩,
 ⟨some 82, none, .ext (.t 77) 0⟩,
 ⟨some 83, none, .ext (.t 77) 1⟩,
 ⟨some 84, none, .ext (.t 77) 2⟩,
 ⟨some 14, none, .mv (.t 82)⟩,
 ⟨some 15, none, .mv (.t 83)⟩,
 ⟨some 16, none, .mv (.t 84)⟩])
 (.seq (.reg [⟨some 85, none, .mv (.t 9)⟩,
 ⟨some 86, none, .mv (.t 15)⟩,
 ⟨some 87, none, .bsl 1 1 false [.sc (.int .u64 0)] [(0, 1, (.t 86))]⟩,
 ⟨some 88, none, .app 1 8 (.t 85) (.t 87)⟩,
 ⟨some 9, none, .mv (.t 88)⟩])
 (.seq (.reg [⟨some 89, none, .mv (.t 10)⟩,
 ⟨some 90, none, .mv (.t 16)⟩,
 ⟨some 91, none, .bsl 1 1 false [.sc (.int .u64 0)] [(0, 1, (.t 90))]⟩,
 ⟨some 92, none, .app 1 8 (.t 89) (.t 91)⟩,
 ⟨some 10, none, .mv (.t 92)⟩])
 (.reg [⟨some 93, none, .mv (.t 8)⟩,
 ⟨some 94, none, .mv (.t 15)⟩,
 ⟨some 95, none, .bin .sub false (.t 93) (.t 94) (pu (.binOp .sub 45 (.tmp 93) (.tmp 94) 45) 45)⟩,
 ⟨some 8, none, .mv (.t 95)⟩]))))))
 (.reg [⟨some 64, none, .mv (.t 11)⟩,
 ⟨some 65, none, .bin .add false (.t 64) (.k (.sc (.int .i64 1))) (pu (.binOp .add 3 (.tmp 64) (.const (.int .i64 1)) 3) 3)⟩,
 ⟨some 11, none, .mv (.t 65)⟩]))))))
 (.seq (.reg [⟨some 96, none, .mv (.t 1)⟩,
 ⟨some 97, none, .len (.t 96) (pu (.call ⟨.builtin .len, #[(.tmp 96)], #[32]⟩) 3)⟩,
 ⟨some 98, none, .mks 1 1 (.sc (.bool false)) (.t 97) (.t 97)⟩,
 ⟨some 17, none, .mv (.t 98)⟩])
 (.seq (.block 4 (.loop (.seq (.seq (.reg [⟨some 99, none, .mv (.t 8)⟩,
 ⟨some 100, none, .bin .gtr false (.t 99) (.k (.sc (.int .u64 0))) (pu (.binOp .gtr 45 (.tmp 99) (.const (.int .u64 0)) 45) 4)⟩])
 (.cond (.t 100) .skip
 (.exit 4)))
 (.block 5 (.seq (.reg [⟨some 101, none, .mv (.t 10)⟩,
 ⟨some 102, none, .mv (.t 17)⟩,
 ⟨some 103, none, .call 38 [(.t 101), (.t 102)]⟩,
 ⟨some 18, none, .mv (.t 103)⟩])
 (.seq (.seq (.reg [⟨some 104, none, .mv (.t 18)⟩,
 ⟨some 105, none, .bin .lss false (.t 104) (.k (.sc (.int .i64 0))) (pu (.binOp .lss 3 (.tmp 104) (.const (.int .i64 0)) 3) 4)⟩])
 (.cond (.t 105) (.seq (.reg [⟨some 4, none, .mv (.k (.sc (.slice none 0 0)))⟩,
 ⟨some 5, none, .mv (.k (.sc (.int .i64 0)))⟩])
 .ret)
 .skip))
 (.seq (.reg [⟨some 106, none, .mv (.t 17)⟩,
 ⟨some 107, none, .mv (.t 18)⟩,
 ⟨some 108, none, .ixs 1 (.t 106) (.t 107)⟩,
 ⟨none, none, .st 1 (.t 108) (.k (.sc (.bool true)))⟩])
 (.seq (.reg [⟨some 109, none, .mv (.t 9)⟩,
 ⟨some 110, none, .mv (.t 18)⟩,
 ⟨some 111, none, .mv (.t 9)⟩,
 ⟨some 112, none, .mv (.t 18)⟩,
 ⟨some 113, none, .ixs 1 (.t 111) (.t 112)⟩,
 ⟨some 114, none, .ld none (.t 113)⟩,
 ⟨some 115, none, .bin .add false (.t 114) (.k (.sc (.int .u64 1))) (pu (.binOp .add 45 (.tmp 114) (.const (.int .u64 1)) 45) 45)⟩,
 ⟨some 116, none, .ixs 1 (.t 109) (.t 110)⟩,
 ⟨none, none, .st 1 (.t 116) (.t 115)⟩])
 (.reg [⟨some 117, none, .mv (.t 8)⟩,
 ⟨some 118, none, .bin .sub false (.t 117) (.k (.sc (.int .u64 1))) (pu (.binOp .sub 45 (.tmp 117) (.const (.int .u64 1)) 45) 45)⟩,
 ⟨some 8, none, .mv (.t 118)⟩])))))))))
 (.seq (.reg [⟨some 19, none, .mv (.k (.sc (.slice none 0 0)))⟩])
 (.seq (.seq (.reg [⟨some 20, none, .mv (.k (.sc (.int .i64 0)))⟩])
 (.block 6 (.loop (.seq (.seq (.reg [⟨some 119, none, .mv (.t 20)⟩,
 ⟨some 120, none, .mv (.t 9)⟩,
 ⟨some 121, none, .len (.t 120) (pu (.call ⟨.builtin .len, #[(.tmp 120)], #[64]⟩) 3)⟩,
 ⟨some 122, none, .bin .lss false (.t 119) (.t 121) (pu (.binOp .lss 3 (.tmp 119) (.tmp 121) 3) 4)⟩])
 (.cond (.t 122) .skip
 (.exit 6)))
 (.seq (.block 7 (.seq (.reg [⟨some 125, none, .mv (.t 9)⟩,
 ⟨some 126, none, .mv (.t 20)⟩,
 ⟨some 127, none, .ixs 1 (.t 125) (.t 126)⟩,
 ⟨some 128, none, .ld none (.t 127)⟩,
 ⟨some 129, none, .pur (pu (.convert 45 3 (.tmp 128)) 3)⟩,
 ⟨some 21, none, .mv (.t 129)⟩])
 (.seq (.seq (.reg [⟨some 130, none, .mv (.t 0)⟩,
 ⟨some 131, none, .bin .lss false (.t 130) (.k (.sc (.int .i64 0))) (pu (.binOp .lss 3 (.tmp 130) (.const (.int .i64 0)) 3) 4)⟩])
 (.cond (.t 131) (.reg [⟨some 132, none, .mv (.t 21)⟩,
 ⟨some 133, none, .un .neg (.t 132) (pu (.unOp .neg 3 (.tmp 132)) 3)⟩,
 ⟨some 21, none, .mv (.t 133)⟩])
 .skip))
 (.reg [⟨some 134, none, .mv (.t 19)⟩,
 ⟨some 135, none, .mv (.t 21)⟩,
 ⟨some 136, none, .bsl 1 1 false [.sc (.int .i64 0)] [(0, 1, (.t 135))]⟩,
 ⟨some 137, none, .app 1 8 (.t 134) (.t 136)⟩,
 ⟨some 19, none, .mv (.t 137)⟩]))))
 (.reg [⟨some 123, none, .mv (.t 20)⟩,
 ⟨some 124, none, .bin .add false (.t 123) (.k (.sc (.int .i64 1))) (pu (.binOp .add 3 (.tmp 123) (.const (.int .i64 1)) 3) 3)⟩,
 ⟨some 20, none, .mv (.t 124)⟩]))))))
 (.seq (.reg [⟨some 138, none, .mv (.t 19)⟩,
 ⟨some 4, none, .mv (.t 138)⟩,
 ⟨some 5, none, .mv (.k (.sc (.int .i64 0)))⟩])
 .ret)))))))))))))))
def k19 : List Nat := [0, 1, 4, 5, 6, 7, 8, 9, 10, 11, 12, 13, 15, 16, 17, 18, 19, 20, 21, 24, 30, 34, 48, 57, 63, 100, 105, 122, 131]
theorem ic19 : factsI Tryd.prog 19 = some (139, [.tmp 4, .tmp 5], c19) := by kernel_rfl
def c20 : IC :=
 (.seq (.reg [⟨some 4, none, .mv (.k (.sc (.bool false)))⟩])
 (.seq (.seq (.reg [⟨some 6, none, .mv (.t 0)⟩,
 ⟨some 7, none, .len (.t 6) (pu (.call ⟨.builtin .len, #[(.tmp 6)], #[32]⟩) 3)⟩,
 ⟨some 8, none, .mv (.t 1)⟩,
 ⟨some 9, none, .len (.t 8) (pu (.call ⟨.builtin .len, #[(.tmp 8)], #[32]⟩) 3)⟩,
 ⟨some 10, none, .bin .neq false (.t 7) (.t 9) (pu (.binOp .neq 3 (.tmp 7) (.tmp 9) 3) 4)⟩])
 (.cond (.t 10) (.seq (.reg [⟨some 4, none, .mv (.k (.sc (.bool false)))⟩])
 .ret)
 .skip))
 (.seq (.seq (.reg [⟨some 5, none, .mv (.k (.sc (.int .i64 0)))⟩])
 (.block 0 (.loop (.seq (.seq (.reg [⟨some 11, none, .mv (.t 5)⟩,
 ⟨some 12, none, .mv (.t 0)⟩,
 ⟨some 13, none, .len (.t 12) (pu (.call ⟨.builtin .len, #[(.tmp 12)], #[32]⟩) 3)⟩,
 ⟨some 14, none, .bin .lss false (.t 11) (.t 13) (pu (.binOp .lss 3 (.tmp 11) (.tmp 13) 3) 4)⟩])
 (.cond (.t 14) .skip
 (.exit 0)))
 (.seq (.block 1 (.seq (.drw [0, 0, 3, 7, 0, 0, 48, 112, 255] [⟨some 17, none, .mv (.t 0)⟩,
 ⟨some 18, none, .mv (.t 5)⟩,
 ⟨some 19, none, .ixs 1 (.t 17) (.t 18)⟩,
 ⟨some 20, none, .ld none (.t 19)⟩,
 ⟨some 21, none, .mv (.t 1)⟩,
 ⟨some 22, none, .mv (.t 5)⟩,
 ⟨some 23, none, .ixs 1 (.t 21) (.t 22)⟩,
 ⟨some 24, none, .ld none (.t 23)⟩,
 ⟨some 25, none, .bin .neq false (.t 20) (.t 24) (pu (.binOp .neq 3 (.tmp 20) (.tmp 24) 3) 4)⟩])
 (.cond (.t 25) (.seq (.reg [⟨some 4, none, .mv (.k (.sc (.bool false)))⟩])
 .ret)
 .skip)))
 (.reg [⟨some 15, none, .mv (.t 5)⟩,
 ⟨some 16, none, .bin .add false (.t 15) (.k (.sc (.int .i64 1))) (pu (.binOp .add 3 (.tmp 15) (.const (.int .i64 1)) 3) 3)⟩,
 ⟨some 5, none, .mv (.t 16)⟩]))))))
 (.seq (.reg [⟨some 4, none, .mv (.k (.sc (.bool true)))⟩])
 .ret))))
def k20 : List Nat := [0, 1, 4, 5, 10, 14, 25]
theorem ic20 : factsI Tryd.prog 20 = some (26, [.tmp 4], c20) := by kernel_rfl
def c21 : IC :=
 (.seq (.reg [⟨some 4, none, .mv (.k (.sc (.string ⟨#[]⟩)))⟩,
 ⟨some 5, none, .mv (.k (.sc (.int .i64 0)))⟩])
 (.seq (.seq (.reg [⟨some 10, none, .mv (.t 1)⟩,
 ⟨some 11, none, .call 39 [(.t 10)]⟩,
 ⟨some 12, none, .un .not (.t 11) (pu (.unOp .not 4 (.tmp 11)) 4)⟩])
 (.cond (.t 12) (.seq (.reg [⟨some 4, none, .mv (.k (.sc (.string ⟨#[]⟩)))⟩,
 ⟨some 5, none, .mv (.k (.sc (.int .i64 21)))⟩])
 .ret)
 .skip))
 (.seq (.reg [⟨some 14, none, .mv (.t 0)⟩,
 ⟨some 15, none, .call 25 [(.t 14)]⟩,
 ⟨some 13, none, .mv (.t 15)⟩,
 ⟨some 16, none, .ext (.t 13) 0⟩,
 ⟨some 17, none, .ext (.t 13) 1⟩,
 ⟨some 6, none, .mv (.t 16)⟩,
 ⟨some 7, none, .mv (.t 17)⟩])
 (.seq (.reg [⟨some 8, none, .mv (.k (.sc (.slice none 0 0)))⟩])
 (.seq (.seq (.reg [⟨some 18, none, .mv (.t 7)⟩])
 (.cond (.t 18) (.reg [⟨some 19, none, .mv (.t 8)⟩,
 ⟨some 20, none, .bsl 1 1 false [.sc (.int .u8 0)] [(0, 1, (.k (.sc (.int .u8 45))))]⟩,
 ⟨some 21, none, .app 1 1 (.t 19) (.t 20)⟩,
 ⟨some 8, none, .mv (.t 21)⟩])
 .skip))
 (.seq (.reg [⟨some 22, none, .mv (.t 8)⟩,
 ⟨some 23, none, .mv (.t 6)⟩,
 ⟨some 24, none, .bin .quo false (.t 23) (.k (.sc (.int .u64 1000))) (pu (.binOp .quo 45 (.tmp 23) (.const (.int .u64 1000)) 45) 45)⟩,
 ⟨some 25, none, .call 40 [(.t 22), (.t 24), (.k (.sc (.int .i64 10)))]⟩,
 ⟨some 8, none, .mv (.t 25)⟩])
 (.seq (.reg [⟨some 26, none, .mv (.t 8)⟩,
 ⟨some 27, none, .bsl 1 1 false [.sc (.int .u8 0)] [(0, 1, (.k (.sc (.int .u8 46))))]⟩,
 ⟨some 28, none, .app 1 1 (.t 26) (.t 27)⟩,
 ⟨some 8, none, .mv (.t 28)⟩])
 (.seq (.reg [⟨some 29, none, .mv (.t 6)⟩,
 ⟨some 30, none, .bin .rem false (.t 29) (.k (.sc (.int .u64 1000))) (pu (.binOp .rem 45 (.tmp 29) (.const (.int .u64 1000)) 45) 45)⟩,
 ⟨some 9, none, .mv (.t 30)⟩])
 (.seq (.reg [⟨some 31, none, .mv (.t 8)⟩,
 ⟨some 32, none, .mv (.t 9)⟩,
 ⟨some 33, none, .bin .quo false (.t 32) (.k (.sc (.int .u64 100))) (pu (.binOp .quo 45 (.tmp 32) (.const (.int .u64 100)) 45) 45)⟩,
 ⟨some 34, none, .bin .add false (.k (.sc (.int .u64 48))) (.t 33) (pu (.binOp .add 45 (.const (.int .u64 48)) (.tmp 33) 45) 45)⟩,
 ⟨some 35, none, .pur (pu (.convert 45 5 (.tmp 34)) 5)⟩,
 ⟨some 36, none, .mv (.t 9)⟩,
 ⟨some 37, none, .bin .quo false (.t 36) (.k (.sc (.int .u64 10))) (pu (.binOp .quo 45 (.tmp 36) (.const (.int .u64 10)) 45) 45)⟩,
 ⟨some 38, none, .bin .rem false (.t 37) (.k (.sc (.int .u64 10))) (pu (.binOp .rem 45 (.tmp 37) (.const (.int .u64 10)) 45) 45)⟩,
 ⟨some 39, none, .bin .add false (.k (.sc (.int .u64 48))) (.t 38) (pu (.binOp .add 45 (.const (.int .u64 48)) (.tmp 38) 45) 45)⟩,
 ⟨some 40, none, .pur (pu (.convert 45 5 (.tmp 39)) 5)⟩,
 ⟨some 41, none, .mv (.t 9)⟩,
 ⟨some 42, none, .bin .rem false (.t 41) (.k (.sc (.int .u64 10))) (pu (.binOp .rem 45 (.tmp 41) (.const (.int .u64 10)) 45) 45)⟩,
 ⟨some 43, none, .bin .add false (.k (.sc (.int .u64 48))) (.t 42) (pu (.binOp .add 45 (.const (.int .u64 48)) (.tmp 42) 45) 45)⟩,
 ⟨some 44, none, .pur (pu (.convert 45 5 (.tmp 43)) 5)⟩,
 ⟨some 45, none, .bsl 1 4 false [.sc (.int .u8 0), .sc (.int .u8 0), .sc (.int .u8 0), .sc (.int .u8 0)] [(0, 1, (.t 35)), (1, 1, (.t 40)), (2, 1, (.t 44)), (3, 1, (.k (.sc (.int .u8 32))))]⟩,
 ⟨some 46, none, .app 1 1 (.t 31) (.t 45)⟩,
 ⟨some 8, none, .mv (.t 46)⟩])
 (.seq (.reg [⟨some 47, none, .mv (.t 8)⟩,
 ⟨some 48, none, .mv (.t 1)⟩,
 ⟨some 49, none, .app 1 1 (.t 47) (.t 48)⟩,
 ⟨some 50, none, .pur (pu (.convert 67 9 (.tmp 49)) 9)⟩,
 ⟨some 4, none, .mv (.t 50)⟩,
 ⟨some 5, none, .mv (.k (.sc (.int .i64 0)))⟩])
 .ret))))))))))
def c22 : IC :=
 (.seq (.reg [⟨some 4, none, .mv (.k (.sc (.string ⟨#[]⟩)))⟩,
 ⟨some 5, none, .mv (.k (.sc (.int .i64 0)))⟩])
 (.seq (.seq (.reg [⟨some 9, none, .mv (.t 1)⟩,
 ⟨some 10, none, .call 41 [(.t 9)]⟩,
 ⟨some 11, none, .un .not (.t 10) (pu (.unOp .not 4 (.tmp 10)) 4)⟩])
 (.cond (.t 11) (.seq (.reg [⟨some 4, none, .mv (.k (.sc (.string ⟨#[]⟩)))⟩,
 ⟨some 5, none, .mv (.k (.sc (.int .i64 21)))⟩])
 .ret)
 .skip))
 (.seq (.reg [⟨some 12, none, .mv (.t 0)⟩,
 ⟨some 13, none, .call 31 [(.t 12)]⟩,
 ⟨some 6, none, .mv (.t 13)⟩])
 (.seq (.reg [⟨some 14, none, .mv (.t 6)⟩,
 ⟨some 15, none, .bin .rem false (.t 14) (.k (.sc (.int .u64 1000))) (pu (.binOp .rem 45 (.tmp 14) (.const (.int .u64 1000)) 45) 45)⟩,
 ⟨some 16, none, .bin .add false (.t 15) (.k (.sc (.int .u64 1000))) (pu (.binOp .add 45 (.tmp 15) (.const (.int .u64 1000)) 45) 45)⟩,
 ⟨some 17, none, .call 42 [(.t 16)]⟩,
 ⟨some 7, none, .mv (.t 17)⟩])
 (.seq (.drw [0, 1, 3, 7, 0, 16, 63, 127, 0, 511, 1023] [⟨some 18, none, .mv (.t 6)⟩,
 ⟨some 19, none, .bin .quo false (.t 18) (.k (.sc (.int .u64 1000))) (pu (.binOp .quo 45 (.tmp 18) (.const (.int .u64 1000)) 45) 45)⟩,
 ⟨some 20, none, .call 42 [(.t 19)]⟩,
 ⟨some 21, none, .bin .add false (.t 20) (.k (.sc (.string ⟨#[46]⟩))) (pu (.binOp .add 9 (.tmp 20) (.const (.string ⟨#[46]⟩)) 9) 9)⟩,
 ⟨some 22, none, .mv (.t 7)⟩,
 ⟨some 23, none, .sls (.t 22) (pu (.slice 9 (.tmp 22) (some (.const (.int .i64 1))) none none) 9)⟩,
 ⟨some 24, none, .bin .add false (.t 21) (.t 23) (pu (.binOp .add 9 (.tmp 21) (.tmp 23) 9) 9)⟩,
 ⟨some 25, none, .bin .add false (.t 24) (.k (.sc (.string ⟨#[32]⟩))) (pu (.binOp .add 9 (.tmp 24) (.const (.string ⟨#[32]⟩)) 9) 9)⟩,
 ⟨some 26, none, .mv (.t 1)⟩,
 ⟨some 27, none, .bin .add false (.t 25) (.t 26) (pu (.binOp .add 9 (.tmp 25) (.tmp 26) 9) 9)⟩,
 ⟨some 8, none, .mv (.t 27)⟩])
 (.seq (.seq (.reg [⟨some 28, none, .mv (.t 0)⟩,
 ⟨some 29, none, .bin .lss false (.t 28) (.k (.sc (.int .i64 0))) (pu (.binOp .lss 3 (.tmp 28) (.const (.int .i64 0)) 3) 4)⟩])
 (.cond (.t 29) (.reg [⟨some 30, none, .mv (.t 8)⟩,
 ⟨some 31, none, .bin .add false (.k (.sc (.string ⟨#[45]⟩))) (.t 30) (pu (.binOp .add 9 (.const (.string ⟨#[45]⟩)) (.tmp 30) 9) 9)⟩,
 ⟨some 8, none, .mv (.t 31)⟩])
 .skip))
 (.seq (.reg [⟨some 32, none, .mv (.t 8)⟩,
 ⟨some 4, none, .mv (.t 32)⟩,
 ⟨some 5, none, .mv (.k (.sc (.int .i64 0)))⟩])
 .ret)))))))
def k22 : List Nat := [0, 1, 4, 5, 6, 7, 8, 11, 29]
theorem ic22 : factsI Tryd.prog 22 = some (33, [.tmp 4, .tmp 5], c22) := by kernel_rfl
def c23 : IC :=
 (.seq (.reg [⟨some 2, none, .mv (.k (.sc (.int .i64 0)))⟩,
 ⟨some 3, none, .mv (.k (.sc (.string ⟨#[]⟩)))⟩,
 ⟨some 4, none, .mv (.k (.sc (.int .i64 0)))⟩])
 (.seq (.seq (.reg [⟨some 12, none, .mv (.t 0)⟩,
 ⟨some 13, none, .lens (.t 12) (pu (.call ⟨.builtin .len, #[(.tmp 12)], #[9]⟩) 3)⟩,
 ⟨some 14, none, .bin .lss false (.t 13) (.k (.sc (.int .i64 9))) (pu (.binOp .lss 3 (.tmp 13) (.const (.int .i64 9)) 3) 4)⟩])
 (.cond (.t 14) (.seq (.reg [⟨some 2, none, .mv (.k (.sc (.int .i64 0)))⟩,
 ⟨some 3, none, .mv (.k (.sc (.string ⟨#[]⟩)))⟩,
 ⟨some 4, none, .mv (.k (.sc (.int .i64 5)))⟩])
 .ret)
 .skip))
 (.seq (.reg [⟨some 15, none, .mv (.t 0)⟩,
 ⟨some 16, none, .mv (.t 0)⟩,
 ⟨some 17, none, .lens (.t 16) (pu (.call ⟨.builtin .len, #[(.tmp 16)], #[9]⟩) 3)⟩,
 ⟨some 18, none, .bin .sub false (.t 17) (.k (.sc (.int .i64 3))) (pu (.binOp .sub 3 (.tmp 17) (.const (.int .i64 3)) 3) 3)⟩,
 ⟨some 19, none, .sls (.t 15) (pu (.slice 9 (.tmp 15) (some (.tmp 18)) none none) 9)⟩,
 ⟨some 5, none, .mv (.t 19)⟩])
 (.seq (.reg [⟨some 20, none, .mv (.t 0)⟩,
 ⟨some 21, none, .mv (.t 0)⟩,
 ⟨some 22, none, .lens (.t 21) (pu (.call ⟨.builtin .len, #[(.tmp 21)], #[9]⟩) 3)⟩,
 ⟨some 23, none, .bin .sub false (.t 22) (.k (.sc (.int .i64 3))) (pu (.binOp .sub 3 (.tmp 22) (.const (.int .i64 3)) 3) 3)⟩,
 ⟨some 24, none, .bin .sub false (.t 23) (.k (.sc (.int .i64 1))) (pu (.binOp .sub 3 (.tmp 23) (.const (.int .i64 1)) 3) 3)⟩,
 ⟨some 25, none, .sls (.t 20) (pu (.slice 9 (.tmp 20) none (some (.tmp 24)) none) 9)⟩,
 ⟨some 6, none, .mv (.t 25)⟩])
 (.seq (.reg [⟨some 26, none, .mv (.t 6)⟩,
 ⟨some 27, none, .lens (.t 26) (pu (.call ⟨.builtin .len, #[(.tmp 26)], #[9]⟩) 3)⟩,
 ⟨some 28, none, .bin .sub false (.t 27) (.k (.sc (.int .i64 4))) (pu (.binOp .sub 3 (.tmp 27) (.const (.int .i64 4)) 3) 3)⟩,
 ⟨some 7, none, .mv (.t 28)⟩])
 (.seq (.drw [0, 0, 3, 0, 0, 16, 56, 127, 255, 511, 1023, 1023, 2047, 8191] [⟨some 30, none, .mv (.t 6)⟩,
 ⟨some 31, none, .mv (.t 7)⟩,
 ⟨some 32, none, .sls (.t 30) (pu (.slice 9 (.tmp 30) none (some (.tmp 31)) none) 9)⟩,
 ⟨some 33, none, .mv (.t 6)⟩,
 ⟨some 34, none, .mv (.t 7)⟩,
 ⟨some 35, none, .bin .add false (.t 34) (.k (.sc (.int .i64 1))) (pu (.binOp .add 3 (.tmp 34) (.const (.int .i64 1)) 3) 3)⟩,
 ⟨some 36, none, .sls (.t 33) (pu (.slice 9 (.tmp 33) (some (.tmp 35)) none none) 9)⟩,
 ⟨some 37, none, .bin .add false (.t 32) (.t 36) (pu (.binOp .add 9 (.tmp 32) (.tmp 36) 9) 9)⟩,
 ⟨some 38, none, .call 43 [(.t 37), (.k (.sc (.int .i64 10))), (.k (.sc (.int .i64 64)))]⟩,
 ⟨some 29, none, .mv (.t 38)⟩,
 ⟨some 39, none, .ext (.t 29) 0⟩,
 ⟨some 40, none, .ext (.t 29) 1⟩,
 ⟨some 8, none, .mv (.t 39)⟩,
 ⟨some 9, none, .mv (.t 40)⟩])
 (.seq (.seq (.reg [⟨some 41, none, .mv (.t 9)⟩,
 ⟨some 42, none, .bin .neq false (.t 41) (.k (.sc .nilIface)) (pu (.binOp .neq 71 (.tmp 41) (.const .nilIface) 71) 4)⟩])
 (.cond (.t 42) (.seq (.reg [⟨some 2, none, .mv (.k (.sc (.int .i64 0)))⟩,
 ⟨some 3, none, .mv (.k (.sc (.string ⟨#[]⟩)))⟩,
 ⟨some 4, none, .mv (.k (.sc (.int .i64 5)))⟩])
 .ret)
 .skip))
 (.seq (.seq (.reg [⟨some 44, none, .mv (.t 8)⟩,
 ⟨some 45, none, .mv (.t 5)⟩,
 ⟨some 46, none, .call 21 [(.t 44), (.t 45)]⟩,
 ⟨some 43, none, .mv (.t 46)⟩,
 ⟨some 47, none, .ext (.t 43) 0⟩,
 ⟨some 48, none, .ext (.t 43) 1⟩,
 ⟨some 10, none, .mv (.t 47)⟩,
 ⟨some 11, none, .mv (.t 48)⟩])
 (.seq (.reg [⟨some 49, none, .mv (.t 11)⟩,
 ⟨some 50, none, .bin .neq false (.t 49) (.k (.sc (.int .i64 0))) (pu (.binOp .neq 22 (.tmp 49) (.const (.int .i64 0)) 22) 4)⟩,
 ⟨some 51, none, .mv (.t 50)⟩,
 ⟨some 52, (some ((some 51), false)), .mv (.t 10)⟩,
 ⟨some 53, (some ((some 51), false)), .mv (.t 0)⟩,
 ⟨some 54, (some ((some 51), false)), .bin .neq false (.t 52) (.t 53) (pu (.binOp .neq 9 (.tmp 52) (.tmp 53) 9) 4)⟩,
 ⟨some 55, none, .pick (.t 51) (.k (.sc (.bool true))) (.t 54)⟩])
 (.cond (.t 55) (.seq (.reg [⟨some 2, none, .mv (.k (.sc (.int .i64 0)))⟩,
 ⟨some 3, none, .mv (.k (.sc (.string ⟨#[]⟩)))⟩,
 ⟨some 4, none, .mv (.k (.sc (.int .i64 5)))⟩])
 .ret)
 .skip)))
 (.seq (.reg [⟨some 56, none, .mv (.t 8)⟩,
 ⟨some 57, none, .mv (.t 5)⟩,
 ⟨some 2, none, .mv (.t 56)⟩,
 ⟨some 3, none, .mv (.t 57)⟩,
 ⟨some 4, none, .mv (.k (.sc (.int .i64 0)))⟩])
 .ret)))))))))
def k23 : List Nat := [0, 2, 3, 4, 5, 6, 7, 8, 9, 10, 11, 14, 42, 55]
theorem ic23 : factsI Tryd.prog 23 = some (58, [.tmp 2, .tmp 3, .tmp 4], c23) := by kernel_rfl
def c24 : IC :=
 (.seq (.reg [⟨some 2, none, .mv (.k (.sc (.int .i64 0)))⟩,
 ⟨some 3, none, .mv (.k (.sc (.string ⟨#[]⟩)))⟩,
 ⟨some 4, none, .mv (.k (.sc (.int .i64 0)))⟩])
 (.seq (.reg [⟨some 5, none, .mv (.k (.sc (.int .i64 5)))⟩])
 (.seq (.reg [⟨some 14, none, .mv (.t 0)⟩,
 ⟨some 15, none, .lens (.t 14) (pu (.call ⟨.builtin .len, #[(.tmp 14)], #[9]⟩) 3)⟩,
 ⟨some 16, none, .bin .gtr false (.t 15) (.k (.sc (.int .i64 0))) (pu (.binOp .gtr 3 (.tmp 15) (.const (.int .i64 0)) 3) 4)⟩,
 ⟨some 17, none, .mv (.t 16)⟩,
 ⟨some 18, (some ((some 17), true)), .mv (.t 0)⟩,
 ⟨some 19, (some ((some 17), true)), .pur (pu (.index 9 (.tmp 18) (.const (.int .i64 0))) 5)⟩,
 ⟨some 20, (some ((some 17), true)), .bin .eql false (.t 19) (.k (.sc (.int .u8 45))) (pu (.binOp .eql 5 (.tmp 19) (.const (.int .u8 45)) 5) 4)⟩,
 ⟨some 21, none, .pick (.t 17) (.t 20) (.k (.sc (.bool false)))⟩,
 ⟨some 6, none, .mv (.t 21)⟩])
 (.seq (.reg [⟨some 22, none, .mv (.t 0)⟩,
 ⟨some 7, none, .mv (.t 22)⟩])
 (.seq (.seq (.reg [⟨some 23, none, .mv (.t 6)⟩])
 (.cond (.t 23) (.reg [⟨some 24, none, .mv (.t 0)⟩,
 ⟨some 25, none, .sls (.t 24) (pu (.slice 9 (.tmp 24) (some (.const (.int .i64 1))) none none) 9)⟩,
 ⟨some 7, none, .mv (.t 25)⟩])
 .skip))
 (.seq (.seq (.reg [⟨some 26, none, .mv (.t 7)⟩,
 ⟨some 27, none, .lens (.t 26) (pu (.call ⟨.builtin .len, #[(.tmp 26)], #[9]⟩) 3)⟩,
 ⟨some 28, none, .bin .lss false (.t 27) (.k (.sc (.int .i64 9))) (pu (.binOp .lss 3 (.tmp 27) (.const (.int .i64 9)) 3) 4)⟩,
 ⟨some 29, none, .mv (.t 28)⟩,
 ⟨some 30, (some ((some 29), false)), .mv (.t 7)⟩,
 ⟨some 31, (some ((some 29), false)), .lens (.t 30) (pu (.call ⟨.builtin .len, #[(.tmp 30)], #[9]⟩) 3)⟩,
 ⟨some 32, (some ((some 29), false)), .bin .gtr false (.t 31) (.k (.sc (.int .i64 24))) (pu (.binOp .gtr 3 (.tmp 31) (.const (.int .i64 24)) 3) 4)⟩,
 ⟨some 33, none, .pick (.t 29) (.k (.sc (.bool true))) (.t 32)⟩,
 ⟨some 34, none, .mv (.t 33)⟩,
 ⟨some 35, (some ((some 34), false)), .mv (.t 7)⟩,
 ⟨some 36, (some ((some 34), false)), .mv (.t 7)⟩,
 ⟨some 37, (some ((some 34), false)), .lens (.t 36) (pu (.call ⟨.builtin .len, #[(.tmp 36)], #[9]⟩) 3)⟩,
 ⟨some 38, (some ((some 34), false)), .bin .sub false (.t 37) (.k (.sc (.int .i64 3))) (pu (.binOp .sub 3 (.tmp 37) (.const (.int .i64 3)) 3) 3)⟩,
 ⟨some 39, (some ((some 34), false)), .sls (.t 35) (pu (.slice 9 (.tmp 35) (some (.tmp 38)) none none) 9)⟩,
 ⟨some 40, (some ((some 34), false)), .call 41 [(.t 39)]⟩,
 ⟨some 41, (some ((some 34), false)), .un .not (.t 40) (pu (.unOp .not 4 (.tmp 40)) 4)⟩,
 ⟨some 42, none, .pick (.t 34) (.k (.sc (.bool true))) (.t 41)⟩])
 (.cond (.t 42) (.seq (.reg [⟨some 43, none, .mv (.t 5)⟩,
 ⟨some 2, none, .mv (.k (.sc (.int .i64 0)))⟩,
 ⟨some 3, none, .mv (.k (.sc (.string ⟨#[]⟩)))⟩,
 ⟨some 4, none, .mv (.t 43)⟩])
 .ret)
 .skip))
 (.seq (.reg [⟨some 8, none, .mv (.k (.sc (.int .u64 0)))⟩])
 (.seq (.seq (.reg [⟨some 9, none, .mv (.k (.sc (.int .i64 0)))⟩])
 (.block 0 (.loop (.seq (.seq (.reg [⟨some 44, none, .mv (.t 9)⟩,
 ⟨some 45, none, .mv (.t 7)⟩,
 ⟨some 46, none, .lens (.t 45) (pu (.call ⟨.builtin .len, #[(.tmp 45)], #[9]⟩) 3)⟩,
 ⟨some 47, none, .bin .sub false (.t 46) (.k (.sc (.int .i64 4))) (pu (.binOp .sub 3 (.tmp 46) (.const (.int .i64 4)) 3) 3)⟩,
 ⟨some 48, none, .bin .lss false (.t 44) (.t 47) (pu (.binOp .lss 3 (.tmp 44) (.tmp 47) 3) 4)⟩])
 (.cond (.t 48) .skip
 (.exit 0)))
 (.seq (.block 1 (.seq (.seq (.reg [⟨some 51, none, .mv (.t 9)⟩,
 ⟨some 52, none, .mv (.t 7)⟩,
 ⟨some 53, none, .lens (.t 52) (pu (.call ⟨.builtin .len, #[(.tmp 52)], #[9]⟩) 3)⟩,
 ⟨some 54, none, .bin .sub false (.t 53) (.k (.sc (.int .i64 8))) (pu (.binOp .sub 3 (.tmp 53) (.const (.int .i64 8)) 3) 3)⟩,
 ⟨some 55, none, .bin .eql false (.t 51) (.t 54) (pu (.binOp .eql 3 (.tmp 51) (.tmp 54) 3) 4)⟩])
 (.cond (.t 55) (.seq (.seq (.reg [⟨some 56, none, .mv (.t 7)⟩,
 ⟨some 57, none, .mv (.t 9)⟩,
 ⟨some 58, none, .pur (pu (.index 9 (.tmp 56) (.tmp 57)) 5)⟩,
 ⟨some 59, none, .bin .neq false (.t 58) (.k (.sc (.int .u8 46))) (pu (.binOp .neq 5 (.tmp 58) (.const (.int .u8 46)) 5) 4)⟩])
 (.cond (.t 59) (.seq (.reg [⟨some 60, none, .mv (.t 5)⟩,
 ⟨some 2, none, .mv (.k (.sc (.int .i64 0)))⟩,
 ⟨some 3, none, .mv (.k (.sc (.string ⟨#[]⟩)))⟩,
 ⟨some 4, none, .mv (.t 60)⟩])
 .ret)
 .skip))
 (.exit 1))
 .skip))
 (.seq (.seq (.reg [⟨some 61, none, .mv (.t 7)⟩,
 ⟨some 62, none, .mv (.t 9)⟩,
 ⟨some 63, none, .pur (pu (.index 9 (.tmp 61) (.tmp 62)) 5)⟩,
 ⟨some 64, none, .bin .lss false (.t 63) (.k (.sc (.int .u8 48))) (pu (.binOp .lss 5 (.tmp 63) (.const (.int .u8 48)) 5) 4)⟩,
 ⟨some 65, none, .mv (.t 64)⟩,
 ⟨some 66, (some ((some 65), false)), .mv (.t 7)⟩,
 ⟨some 67, (some ((some 65), false)), .mv (.t 9)⟩,
 ⟨some 68, (some ((some 65), false)), .pur (pu (.index 9 (.tmp 66) (.tmp 67)) 5)⟩,
 ⟨some 69, (some ((some 65), false)), .bin .gtr false (.t 68) (.k (.sc (.int .u8 57))) (pu (.binOp .gtr 5 (.tmp 68) (.const (.int .u8 57)) 5) 4)⟩,
 ⟨some 70, none, .pick (.t 65) (.k (.sc (.bool true))) (.t 69)⟩])
 (.cond (.t 70) (.seq (.reg [⟨some 71, none, .mv (.t 5)⟩,
 ⟨some 2, none, .mv (.k (.sc (.int .i64 0)))⟩,
 ⟨some 3, none, .mv (.k (.sc (.string ⟨#[]⟩)))⟩,
 ⟨some 4, none, .mv (.t 71)⟩])
 .ret)
 .skip))
 (.reg [⟨some 72, none, .mv (.t 8)⟩,
 ⟨some 73, none, .bin .mul false (.k (.sc (.int .u64 10))) (.t 72) (pu (.binOp .mul 45 (.const (.int .u64 10)) (.tmp 72) 45) 45)⟩,
 ⟨some 74, none, .mv (.t 7)⟩,
 ⟨some 75, none, .mv (.t 9)⟩,
 ⟨some 76, none, .pur (pu (.index 9 (.tmp 74) (.tmp 75)) 5)⟩,
 ⟨some 77, none, .bin .sub false (.t 76) (.k (.sc (.int .u8 48))) (pu (.binOp .sub 5 (.tmp 76) (.const (.int .u8 48)) 5) 5)⟩,
 ⟨some 78, none, .pur (pu (.convert 5 45 (.tmp 77)) 45)⟩,
 ⟨some 79, none, .bin .add false (.t 73) (.t 78) (pu (.binOp .add 45 (.tmp 73) (.tmp 78) 45) 45)⟩,
 ⟨some 8, none, .mv (.t 79)⟩]))))
 (.reg [⟨some 49, none, .mv (.t 9)⟩,
 ⟨some 50, none, .bin .add false (.t 49) (.k (.sc (.int .i64 1))) (pu (.binOp .add 3 (.tmp 49) (.const (.int .i64 1)) 3) 3)⟩,
 ⟨some 9, none, .mv (.t 50)⟩]))))))
 (.seq (.reg [⟨some 81, none, .mv (.t 6)⟩,
 ⟨some 82, none, .mv (.t 8)⟩,
 ⟨some 83, none, .call 34 [(.t 81), (.k (.sc (.int .u64 0))), (.t 82)]⟩,
 ⟨some 80, none, .mv (.t 83)⟩,
 ⟨some 84, none, .ext (.t 80) 0⟩,
 ⟨some 85, none, .ext (.t 80) 1⟩,
 ⟨some 10, none, .mv (.t 84)⟩,
 ⟨some 11, none, .mv (.t 85)⟩])
 (.seq (.seq (.reg [⟨some 86, none, .mv (.t 11)⟩,
 ⟨some 87, none, .un .not (.t 86) (pu (.unOp .not 4 (.tmp 86)) 4)⟩])
 (.cond (.t 87) (.seq (.reg [⟨some 88, none, .mv (.t 5)⟩,
 ⟨some 2, none, .mv (.k (.sc (.int .i64 0)))⟩,
 ⟨some 3, none, .mv (.k (.sc (.string ⟨#[]⟩)))⟩,
 ⟨some 4, none, .mv (.t 88)⟩])
 .ret)
 .skip))
 (.seq (.reg [⟨some 90, none, .mv (.t 10)⟩,
 ⟨some 91, none, .mv (.t 7)⟩,
 ⟨some 92, none, .mv (.t 7)⟩,
 ⟨some 93, none, .lens (.t 92) (pu (.call ⟨.builtin .len, #[(.tmp 92)], #[9]⟩) 3)⟩,
 ⟨some 94, none, .bin .sub false (.t 93) (.k (.sc (.int .i64 3))) (pu (.binOp .sub 3 (.tmp 93) (.const (.int .i64 3)) 3) 3)⟩,
 ⟨some 95, none, .sls (.t 91) (pu (.slice 9 (.tmp 91) (some (.tmp 94)) none none) 9)⟩,
 ⟨some 96, none, .call 22 [(.t 90), (.t 95)]⟩,
 ⟨some 89, none, .mv (.t 96)⟩,
 ⟨some 97, none, .ext (.t 89) 0⟩,
 ⟨some 98, none, .ext (.t 89) 1⟩,
 ⟨some 12, none, .mv (.t 97)⟩,
 ⟨some 13, none, .mv (.t 98)⟩])
 (.seq (.seq (.reg [⟨some 99, none, .mv (.t 13)⟩,
 ⟨some 100, none, .bin .neq false (.t 99) (.k (.sc (.int .i64 0))) (pu (.binOp .neq 22 (.tmp 99) (.const (.int .i64 0)) 22) 4)⟩,
 ⟨some 101, none, .mv (.t 100)⟩,
 ⟨some 102, (some ((some 101), false)), .mv (.t 12)⟩,
 ⟨some 103, (some ((some 101), false)), .mv (.t 0)⟩,
 ⟨some 104, (some ((some 101), false)), .bin .neq false (.t 102) (.t 103) (pu (.binOp .neq 9 (.tmp 102) (.tmp 103) 9) 4)⟩,
 ⟨some 105, none, .pick (.t 101) (.k (.sc (.bool true))) (.t 104)⟩])
 (.cond (.t 105) (.seq (.reg [⟨some 106, none, .mv (.t 5)⟩,
 ⟨some 2, none, .mv (.k (.sc (.int .i64 0)))⟩,
 ⟨some 3, none, .mv (.k (.sc (.string ⟨#[]⟩)))⟩,
 ⟨some 4, none, .mv (.t 106)⟩])
 .ret)
 .skip))
 (.seq (.drw [0, 0, 0, 4, 12, 30, 1, 127, 255] [⟨some 107, none, .mv (.t 10)⟩,
 ⟨some 108, none, .mv (.t 7)⟩,
 ⟨some 109, none, .mv (.t 7)⟩,
 ⟨some 110, none, .lens (.t 109) (pu (.call ⟨.builtin .len, #[(.tmp 109)], #[9]⟩) 3)⟩,
 ⟨some 111, none, .bin .sub false (.t 110) (.k (.sc (.int .i64 3))) (pu (.binOp .sub 3 (.tmp 110) (.const (.int .i64 3)) 3) 3)⟩,
 ⟨some 112, none, .sls (.t 108) (pu (.slice 9 (.tmp 108) (some (.tmp 111)) none none) 9)⟩,
 ⟨some 2, none, .mv (.t 107)⟩,
 ⟨some 3, none, .mv (.t 112)⟩,
 ⟨some 4, none, .mv (.k (.sc (.int .i64 0)))⟩])
 .ret)))))))))))))
def k24 : List Nat := [0, 2, 3, 4, 5, 6, 7, 8, 9, 10, 11, 12, 13, 23, 42, 48, 55, 59, 70, 87, 105]
theorem ic24 : factsI Tryd.prog 24 = some (113, [.tmp 2, .tmp 3, .tmp 4], c24) := by kernel_rfl
def c25 : IC :=
 (.seq (.reg [⟨some 2, none, .mv (.k (.sc (.int .u64 0)))⟩,
 ⟨some 3, none, .mv (.k (.sc (.bool false)))⟩])
 (.seq (.seq (.reg [⟨some 4, none, .mv (.t 0)⟩,
 ⟨some 5, none, .bin .lss false (.t 4) (.k (.sc (.int .i64 0))) (pu (.binOp .lss 3 (.tmp 4) (.const (.int .i64 0)) 3) 4)⟩])
 (.cond (.t 5) (.seq (.reg [⟨some 6, none, .mv (.t 0)⟩,
 ⟨some 7, none, .pur (pu (.convert 3 45 (.tmp 6)) 45)⟩,
 ⟨some 8, none, .un .neg (.t 7) (pu (.unOp .neg 45 (.tmp 7)) 45)⟩,
 ⟨some 2, none, .mv (.t 8)⟩,
 ⟨some 3, none, .mv (.k (.sc (.bool true)))⟩])
 .ret)
 .skip))
 (.seq (.reg [⟨some 9, none, .mv (.t 0)⟩,
 ⟨some 10, none, .pur (pu (.convert 3 45 (.tmp 9)) 45)⟩,
 ⟨some 2, none, .mv (.t 10)⟩,
 ⟨some 3, none, .mv (.k (.sc (.bool false)))⟩])
 .ret)))
def k25 : List Nat := [0, 2, 3, 5]
theorem ic25 : factsI Tryd.prog 25 = some (11, [.tmp 2, .tmp 3], c25) := by kernel_rfl
def c27 : IC :=
 (.seq (.reg [⟨some 6, none, .mv (.k (.sc (.int .u64 0)))⟩,
 ⟨some 7, none, .mv (.k (.sc (.int .u64 0)))⟩])
 (.seq (.seq (.reg [⟨some 19, none, .mv (.t 2)⟩,
 ⟨some 20, none, .bin .eql false (.t 19) (.k (.sc (.int .u64 0))) (pu (.binOp .eql 45 (.tmp 19) (.const (.int .u64 0)) 45) 4)⟩])
 (.cond (.t 20) (.reg [⟨some 21, none, .ld none (.k (.sc (.pointer (some ⟨0, 0, none⟩))))⟩,
 ⟨none, none, .pur (pu (.panic (.tmp 21)) 0)⟩])
 .skip))
 (.seq (.seq (.reg [⟨some 22, none, .mv (.t 2)⟩,
 ⟨some 23, none, .mv (.t 0)⟩,
 ⟨some 24, none, .bin .leq false (.t 22) (.t 23) (pu (.binOp .leq 45 (.tmp 22) (.tmp 23) 45) 4)⟩])
 (.cond (.t 24) (.reg [⟨some 25, none, .ld none (.k (.sc (.pointer (some ⟨1, 0, none⟩))))⟩,
 ⟨none, none, .pur (pu (.panic (.tmp 25)) 0)⟩])
 .skip))
 (.seq (.seq (.reg [⟨some 26, none, .mv (.t 0)⟩,
 ⟨some 27, none, .bin .eql false (.t 26) (.k (.sc (.int .u64 0))) (pu (.binOp .eql 45 (.tmp 26) (.const (.int .u64 0)) 45) 4)⟩])
 (.cond (.t 27) (.seq (.drw [0, 0, 3, 0, 0, 24, 7, 127] [⟨some 28, none, .mv (.t 1)⟩,
 ⟨some 29, none, .mv (.t 2)⟩,
 ⟨some 30, none, .bin .quo false (.t 28) (.t 29) (pu (.binOp .quo 45 (.tmp 28) (.tmp 29) 45) 45)⟩,
 ⟨some 31, none, .mv (.t 1)⟩,
 ⟨some 32, none, .mv (.t 2)⟩,
 ⟨some 33, none, .bin .rem false (.t 31) (.t 32) (pu (.binOp .rem 45 (.tmp 31) (.tmp 32) 45) 45)⟩,
 ⟨some 6, none, .mv (.t 30)⟩,
 ⟨some 7, none, .mv (.t 33)⟩])
 .ret)
 .skip))
 (.seq (.reg [⟨some 34, none, .mv (.t 2)⟩,
 ⟨some 35, none, .call 44 [(.t 34)]⟩,
 ⟨some 36, none, .pur (pu (.convert 3 74 (.tmp 35)) 74)⟩,
 ⟨some 8, none, .mv (.t 36)⟩])
 (.seq (.reg [⟨some 37, none, .mv (.t 2)⟩,
 ⟨some 38, none, .mv (.t 8)⟩,
 ⟨some 39, none, .bin .shl false (.t 37) (.t 38) (pu (.binOp .shl 45 (.tmp 37) (.tmp 38) 74) 45)⟩,
 ⟨some 2, none, .mv (.t 39)⟩])
 (.seq (.reg [⟨some 40, none, .mv (.t 2)⟩,
 ⟨some 41, none, .bin .shr false (.t 40) (.k (.sc (.int .u64 32))) (pu (.binOp .shr 45 (.tmp 40) (.const (.int .u64 32)) 74) 45)⟩,
 ⟨some 9, none, .mv (.t 41)⟩])
 (.seq (.reg [⟨some 42, none, .mv (.t 2)⟩,
 ⟨some 43, none, .bin .and false (.t 42) (.k (.sc (.int .u64 4294967295))) (pu (.binOp .and 45 (.tmp 42) (.const (.int .u64 4294967295)) 45) 45)⟩,
 ⟨some 10, none, .mv (.t 43)⟩])
 (.seq (.reg [⟨some 44, none, .mv (.t 0)⟩,
 ⟨some 45, none, .mv (.t 8)⟩,
 ⟨some 46, none, .bin .shl false (.t 44) (.t 45) (pu (.binOp .shl 45 (.tmp 44) (.tmp 45) 74) 45)⟩,
 ⟨some 47, none, .mv (.t 1)⟩,
 ⟨some 48, none, .mv (.t 8)⟩,
 ⟨some 49, none, .bin .sub false (.k (.sc (.int .u64 64))) (.t 48) (pu (.binOp .sub 74 (.const (.int .u64 64)) (.tmp 48) 74) 74)⟩,
 ⟨some 50, none, .bin .shr false (.t 47) (.t 49) (pu (.binOp .shr 45 (.tmp 47) (.tmp 49) 74) 45)⟩,
 ⟨some 51, none, .bin .or false (.t 46) (.t 50) (pu (.binOp .or 45 (.tmp 46) (.tmp 50) 45) 45)⟩,
 ⟨some 11, none, .mv (.t 51)⟩])
 (.seq (.reg [⟨some 52, none, .mv (.t 1)⟩,
 ⟨some 53, none, .mv (.t 8)⟩,
 ⟨some 54, none, .bin .shl false (.t 52) (.t 53) (pu (.binOp .shl 45 (.tmp 52) (.tmp 53) 74) 45)⟩,
 ⟨some 12, none, .mv (.t 54)⟩])
 (.seq (.reg [⟨some 55, none, .mv (.t 12)⟩,
 ⟨some 56, none, .bin .shr false (.t 55) (.k (.sc (.int .u64 32))) (pu (.binOp .shr 45 (.tmp 55) (.const (.int .u64 32)) 74) 45)⟩,
 ⟨some 13, none, .mv (.t 56)⟩])
 (.seq (.reg [⟨some 57, none, .mv (.t 12)⟩,
 ⟨some 58, none, .bin .and false (.t 57) (.k (.sc (.int .u64 4294967295))) (pu (.binOp .and 45 (.tmp 57) (.const (.int .u64 4294967295)) 45) 45)⟩,
 ⟨some 14, none, .mv (.t 58)⟩])
 (.seq (.reg [⟨some 59, none, .mv (.t 11)⟩,
 ⟨some 60, none, .mv (.t 9)⟩,
 ⟨some 61, none, .bin .quo false (.t 59) (.t 60) (pu (.binOp .quo 45 (.tmp 59) (.tmp 60) 45) 45)⟩,
 ⟨some 15, none, .mv (.t 61)⟩])
 (.seq (.reg [⟨some 62, none, .mv (.t 11)⟩,
 ⟨some 63, none, .mv (.t 15)⟩,
 ⟨some 64, none, .mv (.t 9)⟩,
 ⟨some 65, none, .bin .mul false (.t 63) (.t 64) (pu (.binOp .mul 45 (.tmp 63) (.tmp 64) 45) 45)⟩,
 ⟨some 66, none, .bin .sub false (.t 62) (.t 65) (pu (.binOp .sub 45 (.tmp 62) (.tmp 65) 45) 45)⟩,
 ⟨some 16, none, .mv (.t 66)⟩])
 (.seq (.block 0 (.loop (.seq (.seq (.reg [⟨some 67, none, .mv (.t 15)⟩,
 ⟨some 68, none, .bin .geq false (.t 67) (.k (.sc (.int .u64 4294967296))) (pu (.binOp .geq 45 (.tmp 67) (.const (.int .u64 4294967296)) 45) 4)⟩,
 ⟨some 69, none, .mv (.t 68)⟩,
 ⟨some 70, (some ((some 69), false)), .mv (.t 15)⟩,
 ⟨some 71, (some ((some 69), false)), .mv (.t 10)⟩,
 ⟨some 72, (some ((some 69), false)), .bin .mul false (.t 70) (.t 71) (pu (.binOp .mul 45 (.tmp 70) (.tmp 71) 45) 45)⟩,
 ⟨some 73, (some ((some 69), false)), .mv (.t 16)⟩,
 ⟨some 74, (some ((some 69), false)), .bin .mul false (.k (.sc (.int .u64 4294967296))) (.t 73) (pu (.binOp .mul 45 (.const (.int .u64 4294967296)) (.tmp 73) 45) 45)⟩,
 ⟨some 75, (some ((some 69), false)), .mv (.t 13)⟩,
 ⟨some 76, (some ((some 69), false)), .bin .add false (.t 74) (.t 75) (pu (.binOp .add 45 (.tmp 74) (.tmp 75) 45) 45)⟩,
 ⟨some 77, (some ((some 69), false)), .bin .gtr false (.t 72) (.t 76) (pu (.binOp .gtr 45 (.tmp 72) (.tmp 76) 45) 4)⟩,
 ⟨some 78, none, .pick (.t 69) (.k (.sc (.bool true))) (.t 77)⟩])
 (.cond (.t 78) .skip
 (.exit 0)))
 (.block 1 (.seq (.reg [⟨some 79, none, .mv (.t 15)⟩,
 ⟨some 80, none, .bin .sub false (.t 79) (.k (.sc (.int .u64 1))) (pu (.binOp .sub 45 (.tmp 79) (.const (.int .u64 1)) 45) 45)⟩,
 ⟨some 15, none, .mv (.t 80)⟩])
 (.seq (.reg [⟨some 81, none, .mv (.t 16)⟩,
 ⟨some 82, none, .mv (.t 9)⟩,
 ⟨some 83, none, .bin .add false (.t 81) (.t 82) (pu (.binOp .add 45 (.tmp 81) (.tmp 82) 45) 45)⟩,
 ⟨some 16, none, .mv (.t 83)⟩])
 (.seq (.reg [⟨some 84, none, .mv (.t 16)⟩,
 ⟨some 85, none, .bin .geq false (.t 84) (.k (.sc (.int .u64 4294967296))) (pu (.binOp .geq 45 (.tmp 84) (.const (.int .u64 4294967296)) 45) 4)⟩])
 (.cond (.t 85) (.exit 0)
 .skip))))))))
 (.seq (.reg [⟨some 86, none, .mv (.t 11)⟩,
 ⟨some 87, none, .bin .mul false (.t 86) (.k (.sc (.int .u64 4294967296))) (pu (.binOp .mul 45 (.tmp 86) (.const (.int .u64 4294967296)) 45) 45)⟩,
 ⟨some 88, none, .mv (.t 13)⟩,
 ⟨some 89, none, .bin .add false (.t 87) (.t 88) (pu (.binOp .add 45 (.tmp 87) (.tmp 88) 45) 45)⟩,
 ⟨some 90, none, .mv (.t 15)⟩,
 ⟨some 91, none, .mv (.t 2)⟩,
 ⟨some 92, none, .bin .mul false (.t 90) (.t 91) (pu (.binOp .mul 45 (.tmp 90) (.tmp 91) 45) 45)⟩,
 ⟨some 93, none, .bin .sub false (.t 89) (.t 92) (pu (.binOp .sub 45 (.tmp 89) (.tmp 92) 45) 45)⟩,
 ⟨some 17, none, .mv (.t 93)⟩])
 (.seq (.reg [⟨some 94, none, .mv (.t 17)⟩,
 ⟨some 95, none, .mv (.t 9)⟩,
 ⟨some 96, none, .bin .quo false (.t 94) (.t 95) (pu (.binOp .quo 45 (.tmp 94) (.tmp 95) 45) 45)⟩,
 ⟨some 18, none, .mv (.t 96)⟩])
 (.seq (.reg [⟨some 97, none, .mv (.t 17)⟩,
 ⟨some 98, none, .mv (.t 18)⟩,
 ⟨some 99, none, .mv (.t 9)⟩,
 ⟨some 100, none, .bin .mul false (.t 98) (.t 99) (pu (.binOp .mul 45 (.tmp 98) (.tmp 99) 45) 45)⟩,
 ⟨some 101, none, .bin .sub false (.t 97) (.t 100) (pu (.binOp .sub 45 (.tmp 97) (.tmp 100) 45) 45)⟩,
 ⟨some 16, none, .mv (.t 101)⟩])
 (.seq (.block 2 (.loop (.seq (.seq (.reg [⟨some 102, none, .mv (.t 18)⟩,
 ⟨some 103, none, .bin .geq false (.t 102) (.k (.sc (.int .u64 4294967296))) (pu (.binOp .geq 45 (.tmp 102) (.const (.int .u64 4294967296)) 45) 4)⟩,
 ⟨some 104, none, .mv (.t 103)⟩,
 ⟨some 105, (some ((some 104), false)), .mv (.t 18)⟩,
 ⟨some 106, (some ((some 104), false)), .mv (.t 10)⟩,
 ⟨some 107, (some ((some 104), false)), .bin .mul false (.t 105) (.t 106) (pu (.binOp .mul 45 (.tmp 105) (.tmp 106) 45) 45)⟩,
 ⟨some 108, (some ((some 104), false)), .mv (.t 16)⟩,
 ⟨some 109, (some ((some 104), false)), .bin .mul false (.k (.sc (.int .u64 4294967296))) (.t 108) (pu (.binOp .mul 45 (.const (.int .u64 4294967296)) (.tmp 108) 45) 45)⟩,
 ⟨some 110, (some ((some 104), false)), .mv (.t 14)⟩,
 ⟨some 111, (some ((some 104), false)), .bin .add false (.t 109) (.t 110) (pu (.binOp .add 45 (.tmp 109) (.tmp 110) 45) 45)⟩,
 ⟨some 112, (some ((some 104), false)), .bin .gtr false (.t 107) (.t 111) (pu (.binOp .gtr 45 (.tmp 107) (.tmp 111) 45) 4)⟩,
 ⟨some 113, none, .pick (.t 104) (.k (.sc (.bool true))) (.t 112)⟩])
 (.cond (.t 113) .skip
 (.exit 2)))
 (.block 3 (.seq (.reg [⟨some 114, none, .mv (.t 18)⟩,
 ⟨some 115, none, .bin .sub false (.t 114) (.k (.sc (.int .u64 1))) (pu (.binOp .sub 45 (.tmp 114) (.const (.int .u64 1)) 45) 45)⟩,
 ⟨some 18, none, .mv (.t 115)⟩])
 (.seq (.reg [⟨some 116, none, .mv (.t 16)⟩,
 ⟨some 117, none, .mv (.t 9)⟩,
 ⟨some 118, none, .bin .add false (.t 116) (.t 117) (pu (.binOp .add 45 (.tmp 116) (.tmp 117) 45) 45)⟩,
 ⟨some 16, none, .mv (.t 118)⟩])
 (.seq (.reg [⟨some 119, none, .mv (.t 16)⟩,
 ⟨some 120, none, .bin .geq false (.t 119) (.k (.sc (.int .u64 4294967296))) (pu (.binOp .geq 45 (.tmp 119) (.const (.int .u64 4294967296)) 45) 4)⟩])
 (.cond (.t 120) (.exit 2)
 .skip))))))))
 (.seq (.reg [⟨some 121, none, .mv (.t 15)⟩,
 ⟨some 122, none, .bin .mul false (.t 121) (.k (.sc (.int .u64 4294967296))) (pu (.binOp .mul 45 (.tmp 121) (.const (.int .u64 4294967296)) 45) 45)⟩,
 ⟨some 123, none, .mv (.t 18)⟩,
 ⟨some 124, none, .bin .add false (.t 122) (.t 123) (pu (.binOp .add 45 (.tmp 122) (.tmp 123) 45) 45)⟩,
 ⟨some 125, none, .mv (.t 17)⟩,
 ⟨some 126, none, .bin .mul false (.t 125) (.k (.sc (.int .u64 4294967296))) (pu (.binOp .mul 45 (.tmp 125) (.const (.int .u64 4294967296)) 45) 45)⟩,
 ⟨some 127, none, .mv (.t 14)⟩,
 ⟨some 128, none, .bin .add false (.t 126) (.t 127) (pu (.binOp .add 45 (.tmp 126) (.tmp 127) 45) 45)⟩,
 ⟨some 129, none, .mv (.t 18)⟩,
 ⟨some 130, none, .mv (.t 2)⟩,
 ⟨some 131, none, .bin .mul false (.t 129) (.t 130) (pu (.binOp .mul 45 (.tmp 129) (.tmp 130) 45) 45)⟩,
 ⟨some 132, none, .bin .sub false (.t 128) (.t 131) (pu (.binOp .sub 45 (.tmp 128) (.tmp 131) 45) 45)⟩,
 ⟨some 133, none, .mv (.t 8)⟩,
 ⟨some 134, none, .bin .shr false (.t 132) (.t 133) (pu (.binOp .shr 45 (.tmp 132) (.tmp 133) 74) 45)⟩,
 ⟨some 6, none, .mv (.t 124)⟩,
 ⟨some 7, none, .mv (.t 134)⟩])
 .ret))))))))))))))))))))
def k27 : List Nat := [0, 1, 2, 6, 7, 8, 9, 10, 11, 12, 13, 14, 15, 16, 17, 18, 20, 24, 27, 78, 85, 113, 120]
theorem ic27 : factsI Tryd.prog 27 = some (135, [.tmp 6, .tmp 7], c27) := by kernel_rfl
def c28 : IC :=
 (.seq (.reg [⟨some 8, none, .mv (.k (.sc (.bool false)))⟩])
 (.seq (.seq (.reg [⟨some 9, none, .mv (.t 3)⟩])
 (.block 0 (.seq (.block 3 (.seq (.block 2 (.seq (.block 1 (.seq (.seq (.seq (.reg [⟨some 11, none, .bin .eql false (.t 9) (.k (.sc (.int .i64 4))) (pu (.binOp .eql 3 (.tmp 9) (.const (.int .i64 4)) 3) 4)⟩,
 ⟨some 10, none, .mv (.t 11)⟩])
 (.cond (.t 10) (.exit 1)
 .skip))
 (.seq (.seq (.reg [⟨some 13, none, .bin .eql false (.t 9) (.k (.sc (.int .i64 2))) (pu (.binOp .eql 3 (.tmp 9) (.const (.int .i64 2)) 3) 4)⟩,
 ⟨some 12, none, .mv (.t 13)⟩])
 (.cond (.t 12) (.exit 2)
 .skip))
 (.seq (.reg [⟨some 15, none, .bin .eql false (.t 9) (.k (.sc (.int .i64 1))) (pu (.binOp .eql 3 (.tmp 9) (.const (.int .i64 1)) 3) 4)⟩,
 ⟨some 14, none, .mv (.t 15)⟩])
 (.cond (.t 14) (.exit 3)
 .skip))))
 (.exit 0)))
 (.seq (.seq (.reg [⟨some 16, none, .mv (.t 1)⟩,
 ⟨some 17, none, .bin .gtr false (.t 16) (.k (.sc (.int .u64 0))) (pu (.binOp .gtr 45 (.tmp 16) (.const (.int .u64 0)) 45) 4)⟩,
 ⟨some 8, none, .mv (.t 17)⟩])
 .ret)
 (.exit 0))))
 (.seq (.reg [⟨some 18, none, .mv (.t 1)⟩,
 ⟨some 19, none, .mv (.t 2)⟩,
 ⟨some 20, none, .mv (.t 1)⟩,
 ⟨some 21, none, .bin .sub false (.t 19) (.t 20) (pu (.binOp .sub 45 (.tmp 19) (.tmp 20) 45) 45)⟩,
 ⟨some 22, none, .bin .eql false (.t 18) (.t 21) (pu (.binOp .eql 45 (.tmp 18) (.tmp 21) 45) 4)⟩,
 ⟨some 23, none, .mv (.t 22)⟩,
 ⟨some 24, (some ((some 23), true)), .mv (.t 0)⟩,
 ⟨some 25, (some ((some 23), true)), .bin .rem false (.t 24) (.k (.sc (.int .u64 2))) (pu (.binOp .rem 45 (.tmp 24) (.const (.int .u64 2)) 45) 45)⟩,
 ⟨some 26, (some ((some 23), true)), .bin .eql false (.t 25) (.k (.sc (.int .u64 0))) (pu (.binOp .eql 45 (.tmp 25) (.const (.int .u64 0)) 45) 4)⟩,
 ⟨some 27, none, .pick (.t 23) (.t 26) (.k (.sc (.bool false)))⟩])
 (.cond (.t 27) (.seq (.reg [⟨some 8, none, .mv (.k (.sc (.bool false)))⟩])
 .ret)
 .skip))))
 (.seq (.seq (.reg [⟨some 28, none, .mv (.t 1)⟩,
 ⟨some 29, none, .mv (.t 2)⟩,
 ⟨some 30, none, .mv (.t 1)⟩,
 ⟨some 31, none, .bin .sub false (.t 29) (.t 30) (pu (.binOp .sub 45 (.tmp 29) (.tmp 30) 45) 45)⟩,
 ⟨some 32, none, .bin .geq false (.t 28) (.t 31) (pu (.binOp .geq 45 (.tmp 28) (.tmp 31) 45) 4)⟩,
 ⟨some 8, none, .mv (.t 32)⟩])
 .ret)
 (.exit 0)))))
 (.seq (.reg [⟨some 8, none, .mv (.k (.sc (.bool false)))⟩])
 .ret)))
def k28 : List Nat := [0, 1, 2, 3, 8, 9, 10, 12, 14, 27]
theorem ic28 : factsI Tryd.prog 28 = some (33, [.tmp 8], c28) := by kernel_rfl
def c29 : IC :=
 (.seq (.reg [⟨some 4, none, .mv (.k (.sc (.int .i64 0)))⟩,
 ⟨some 5, none, .mv (.k (.sc (.bool false)))⟩])
 (.seq (.seq (.reg [⟨some 6, none, .mv (.t 1)⟩])
 (.cond (.t 6) (.seq (.reg [⟨some 7, none, .mv (.t 0)⟩,
 ⟨some 8, none, .un .neg (.t 7) (pu (.unOp .neg 45 (.tmp 7)) 45)⟩,
 ⟨some 9, none, .pur (pu (.convert 45 3 (.tmp 8)) 3)⟩,
 ⟨some 10, none, .mv (.t 0)⟩,
 ⟨some 11, none, .bin .leq false (.t 10) (.k (.sc (.int .u64 9223372036854775808))) (pu (.binOp .leq 45 (.tmp 10) (.const (.int .u64 9223372036854775808)) 45) 4)⟩,
 ⟨some 4, none, .mv (.t 9)⟩,
 ⟨some 5, none, .mv (.t 11)⟩])
 .ret)
 .skip))
 (.seq (.reg [⟨some 12, none, .mv (.t 0)⟩,
 ⟨some 13, none, .pur (pu (.convert 45 3 (.tmp 12)) 3)⟩,
 ⟨some 14, none, .mv (.t 0)⟩,
 ⟨some 15, none, .bin .leq false (.t 14) (.k (.sc (.int .u64 9223372036854775807))) (pu (.binOp .leq 45 (.tmp 14) (.const (.int .u64 9223372036854775807)) 45) 4)⟩,
 ⟨some 4, none, .mv (.t 13)⟩,
 ⟨some 5, none, .mv (.t 15)⟩])
 .ret)))
def k29 : List Nat := [0, 1, 4, 5, 6]
theorem ic29 : factsI Tryd.prog 29 = some (16, [.tmp 4, .tmp 5], c29) := by kernel_rfl
def c30 : IC :=
 (.seq (.reg [⟨some 4, none, .mv (.k (.sc (.int .u64 0)))⟩,
 ⟨some 5, none, .mv (.k (.sc (.int .u64 0)))⟩])
 (.seq (.reg [⟨some 13, none, .mv (.t 0)⟩,
 ⟨some 14, none, .bin .shr false (.t 13) (.k (.sc (.int .u64 32))) (pu (.binOp .shr 45 (.tmp 13) (.const (.int .u64 32)) 74) 45)⟩,
 ⟨some 15, none, .mv (.t 0)⟩,
 ⟨some 16, none, .bin .rem false (.t 15) (.k (.sc (.int .u64 4294967296))) (pu (.binOp .rem 45 (.tmp 15) (.const (.int .u64 4294967296)) 45) 45)⟩,
 ⟨some 17, none, .mv (.t 1)⟩,
 ⟨some 18, none, .bin .shr false (.t 17) (.k (.sc (.int .u64 32))) (pu (.binOp .shr 45 (.tmp 17) (.const (.int .u64 32)) 74) 45)⟩,
 ⟨some 19, none, .mv (.t 1)⟩,
 ⟨some 20, none, .bin .rem false (.t 19) (.k (.sc (.int .u64 4294967296))) (pu (.binOp .rem 45 (.tmp 19) (.const (.int .u64 4294967296)) 45) 45)⟩,
 ⟨some 6, none, .mv (.t 14)⟩,
 ⟨some 7, none, .mv (.t 16)⟩,
 ⟨some 8, none, .mv (.t 18)⟩,
 ⟨some 9, none, .mv (.t 20)⟩])
 (.seq (.reg [⟨some 21, none, .mv (.t 7)⟩,
 ⟨some 22, none, .mv (.t 9)⟩,
 ⟨some 23, none, .bin .mul false (.t 21) (.t 22) (pu (.binOp .mul 45 (.tmp 21) (.tmp 22) 45) 45)⟩,
 ⟨some 10, none, .mv (.t 23)⟩])
 (.seq (.reg [⟨some 24, none, .mv (.t 6)⟩,
 ⟨some 25, none, .mv (.t 9)⟩,
 ⟨some 26, none, .bin .mul false (.t 24) (.t 25) (pu (.binOp .mul 45 (.tmp 24) (.tmp 25) 45) 45)⟩,
 ⟨some 27, none, .mv (.t 10)⟩,
 ⟨some 28, none, .bin .shr false (.t 27) (.k (.sc (.int .u64 32))) (pu (.binOp .shr 45 (.tmp 27) (.const (.int .u64 32)) 74) 45)⟩,
 ⟨some 29, none, .bin .add false (.t 26) (.t 28) (pu (.binOp .add 45 (.tmp 26) (.tmp 28) 45) 45)⟩,
 ⟨some 11, none, .mv (.t 29)⟩])
 (.seq (.reg [⟨some 30, none, .mv (.t 7)⟩,
 ⟨some 31, none, .mv (.t 8)⟩,
 ⟨some 32, none, .bin .mul false (.t 30) (.t 31) (pu (.binOp .mul 45 (.tmp 30) (.tmp 31) 45) 45)⟩,
 ⟨some 33, none, .mv (.t 11)⟩,
 ⟨some 34, none, .bin .rem false (.t 33) (.k (.sc (.int .u64 4294967296))) (pu (.binOp .rem 45 (.tmp 33) (.const (.int .u64 4294967296)) 45) 45)⟩,
 ⟨some 35, none, .bin .add false (.t 32) (.t 34) (pu (.binOp .add 45 (.tmp 32) (.tmp 34) 45) 45)⟩,
 ⟨some 12, none, .mv (.t 35)⟩])
 (.seq (.reg [⟨some 36, none, .mv (.t 6)⟩,
 ⟨some 37, none, .mv (.t 8)⟩,
 ⟨some 38, none, .bin .mul false (.t 36) (.t 37) (pu (.binOp .mul 45 (.tmp 36) (.tmp 37) 45) 45)⟩,
 ⟨some 39, none, .mv (.t 11)⟩,
 ⟨some 40, none, .bin .shr false (.t 39) (.k (.sc (.int .u64 32))) (pu (.binOp .shr 45 (.tmp 39) (.const (.int .u64 32)) 74) 45)⟩,
 ⟨some 41, none, .bin .add false (.t 38) (.t 40) (pu (.binOp .add 45 (.tmp 38) (.tmp 40) 45) 45)⟩,
 ⟨some 42, none, .mv (.t 12)⟩,
 ⟨some 43, none, .bin .shr false (.t 42) (.k (.sc (.int .u64 32))) (pu (.binOp .shr 45 (.tmp 42) (.const (.int .u64 32)) 74) 45)⟩,
 ⟨some 44, none, .bin .add false (.t 41) (.t 43) (pu (.binOp .add 45 (.tmp 41) (.tmp 43) 45) 45)⟩,
 ⟨some 45, none, .mv (.t 12)⟩,
 ⟨some 46, none, .bin .shl false (.t 45) (.k (.sc (.int .u64 32))) (pu (.binOp .shl 45 (.tmp 45) (.const (.int .u64 32)) 74) 45)⟩,
 ⟨some 47, none, .mv (.t 10)⟩,
 ⟨some 48, none, .bin .rem false (.t 47) (.k (.sc (.int .u64 4294967296))) (pu (.binOp .rem 45 (.tmp 47) (.const (.int .u64 4294967296)) 45) 45)⟩,
 ⟨some 49, none, .bin .add false (.t 46) (.t 48) (pu (.binOp .add 45 (.tmp 46) (.tmp 48) 45) 45)⟩,
 ⟨some 4, none, .mv (.t 44)⟩,
 ⟨some 5, none, .mv (.t 49)⟩])
 .ret))))))
def k30 : List Nat := [0, 1, 4, 5, 6, 7, 8, 9, 10, 11, 12]
theorem ic30 : factsI Tryd.prog 30 = some (50, [.tmp 4, .tmp 5], c30) := by kernel_rfl
def c31 : IC :=
 (.seq (.reg [⟨some 2, none, .mv (.k (.sc (.int .u64 0)))⟩])
 (.seq (.seq (.reg [⟨some 3, none, .mv (.t 0)⟩,
 ⟨some 4, none, .bin .lss false (.t 3) (.k (.sc (.int .i64 0))) (pu (.binOp .lss 3 (.tmp 3) (.const (.int .i64 0)) 3) 4)⟩])
 (.cond (.t 4) (.seq (.reg [⟨some 5, none, .mv (.t 0)⟩,
 ⟨some 6, none, .pur (pu (.convert 3 45 (.tmp 5)) 45)⟩,
 ⟨some 7, none, .bin .sub false (.k (.sc (.int .u64 0))) (.t 6) (pu (.binOp .sub 45 (.const (.int .u64 0)) (.tmp 6) 45) 45)⟩,
 ⟨some 2, none, .mv (.t 7)⟩])
 .ret)
 .skip))
 (.seq (.reg [⟨some 8, none, .mv (.t 0)⟩,
 ⟨some 9, none, .pur (pu (.convert 3 45 (.tmp 8)) 45)⟩,
 ⟨some 2, none, .mv (.t 9)⟩])
 .ret)))
def k31 : List Nat := [0, 2, 4]
theorem ic31 : factsI Tryd.prog 31 = some (10, [.tmp 2], c31) := by kernel_rfl
def c32 : IC :=
 (.seq (.reg [⟨some 6, none, .mv (.k (.sc (.int .u64 0)))⟩,
 ⟨some 7, none, .mv (.k (.sc (.int .u64 0)))⟩,
 ⟨some 8, none, .mv (.k (.sc (.int .u64 0)))⟩])
 (.seq (.reg [⟨some 9, none, .mv (.k (.sc (.int .u64 0)))⟩,
 ⟨some 10, none, .mv (.k (.sc (.int .u64 0)))⟩,
 ⟨some 11, none, .mv (.k (.sc (.int .u64 0)))⟩])
 (.seq (.seq (.reg [⟨some 12, none, .mv (.k (.sc (.int .i64 0)))⟩])
 (.block 0 (.loop (.seq (.seq (.reg [⟨some 14, none, .mv (.t 12)⟩,
 ⟨some 15, none, .bin .lss false (.t 14) (.k (.sc (.int .i64 128))) (pu (.binOp .lss 3 (.tmp 14) (.const (.int .i64 128)) 3) 4)⟩])
 (.cond (.t 15) .skip
 (.exit 0)))
 (.seq (.block 1 (.seq (.reg [⟨some 18, none, .mv (.t 11)⟩,
 ⟨some 19, none, .bin .shr false (.t 18) (.k (.sc (.int .u64 63))) (pu (.binOp .shr 45 (.tmp 18) (.const (.int .u64 63)) 74) 45)⟩,
 ⟨some 13, none, .mv (.t 19)⟩])
 (.seq (.reg [⟨some 20, none, .mv (.t 11)⟩,
 ⟨some 21, none, .bin .shl false (.t 20) (.k (.sc (.int .u64 1))) (pu (.binOp .shl 45 (.tmp 20) (.const (.int .u64 1)) 74) 45)⟩,
 ⟨some 22, none, .mv (.t 0)⟩,
 ⟨some 23, none, .bin .shr false (.t 22) (.k (.sc (.int .u64 63))) (pu (.binOp .shr 45 (.tmp 22) (.const (.int .u64 63)) 74) 45)⟩,
 ⟨some 24, none, .bin .add false (.t 21) (.t 23) (pu (.binOp .add 45 (.tmp 21) (.tmp 23) 45) 45)⟩,
 ⟨some 11, none, .mv (.t 24)⟩])
 (.seq (.reg [⟨some 25, none, .mv (.t 0)⟩,
 ⟨some 26, none, .bin .shl false (.t 25) (.k (.sc (.int .u64 1))) (pu (.binOp .shl 45 (.tmp 25) (.const (.int .u64 1)) 74) 45)⟩,
 ⟨some 27, none, .mv (.t 1)⟩,
 ⟨some 28, none, .bin .shr false (.t 27) (.k (.sc (.int .u64 63))) (pu (.binOp .shr 45 (.tmp 27) (.const (.int .u64 63)) 74) 45)⟩,
 ⟨some 29, none, .bin .add false (.t 26) (.t 28) (pu (.binOp .add 45 (.tmp 26) (.tmp 28) 45) 45)⟩,
 ⟨some 0, none, .mv (.t 29)⟩])
 (.seq (.reg [⟨some 30, none, .mv (.t 1)⟩,
 ⟨some 31, none, .bin .shl false (.t 30) (.k (.sc (.int .u64 1))) (pu (.binOp .shl 45 (.tmp 30) (.const (.int .u64 1)) 74) 45)⟩,
 ⟨some 1, none, .mv (.t 31)⟩])
 (.seq (.reg [⟨some 32, none, .mv (.t 9)⟩,
 ⟨some 33, none, .bin .shl false (.t 32) (.k (.sc (.int .u64 1))) (pu (.binOp .shl 45 (.tmp 32) (.const (.int .u64 1)) 74) 45)⟩,
 ⟨some 34, none, .mv (.t 10)⟩,
 ⟨some 35, none, .bin .shr false (.t 34) (.k (.sc (.int .u64 63))) (pu (.binOp .shr 45 (.tmp 34) (.const (.int .u64 63)) 74) 45)⟩,
 ⟨some 36, none, .bin .add false (.t 33) (.t 35) (pu (.binOp .add 45 (.tmp 33) (.tmp 35) 45) 45)⟩,
 ⟨some 9, none, .mv (.t 36)⟩])
 (.seq (.reg [⟨some 37, none, .mv (.t 10)⟩,
 ⟨some 38, none, .bin .shl false (.t 37) (.k (.sc (.int .u64 1))) (pu (.binOp .shl 45 (.tmp 37) (.const (.int .u64 1)) 74) 45)⟩,
 ⟨some 10, none, .mv (.t 38)⟩])
 (.seq (.reg [⟨some 39, none, .mv (.t 13)⟩,
 ⟨some 40, none, .bin .eql false (.t 39) (.k (.sc (.int .u64 1))) (pu (.binOp .eql 45 (.tmp 39) (.const (.int .u64 1)) 45) 4)⟩,
 ⟨some 41, none, .mv (.t 40)⟩,
 ⟨some 42, (some ((some 41), false)), .mv (.t 11)⟩,
 ⟨some 43, (some ((some 41), false)), .mv (.t 2)⟩,
 ⟨some 44, (some ((some 41), false)), .bin .geq false (.t 42) (.t 43) (pu (.binOp .geq 45 (.tmp 42) (.tmp 43) 45) 4)⟩,
 ⟨some 45, none, .pick (.t 41) (.k (.sc (.bool true))) (.t 44)⟩])
 (.cond (.t 45) (.seq (.reg [⟨some 46, none, .mv (.t 11)⟩,
 ⟨some 47, none, .mv (.t 2)⟩,
 ⟨some 48, none, .bin .sub false (.t 46) (.t 47) (pu (.binOp .sub 45 (.tmp 46) (.tmp 47) 45) 45)⟩,
 ⟨some 11, none, .mv (.t 48)⟩])
 (.reg [⟨some 49, none, .mv (.t 10)⟩,
 ⟨some 50, none, .bin .add false (.t 49) (.k (.sc (.int .u64 1))) (pu (.binOp .add 45 (.tmp 49) (.const (.int .u64 1)) 45) 45)⟩,
 ⟨some 10, none, .mv (.t 50)⟩]))
 .skip)))))))))
 (.reg [⟨some 16, none, .mv (.t 12)⟩,
 ⟨some 17, none, .bin .add false (.t 16) (.k (.sc (.int .i64 1))) (pu (.binOp .add 3 (.tmp 16) (.const (.int .i64 1)) 3) 3)⟩,
 ⟨some 12, none, .mv (.t 17)⟩]))))))
 (.seq (.reg [⟨some 51, none, .mv (.t 9)⟩,
 ⟨some 52, none, .mv (.t 10)⟩,
 ⟨some 53, none, .mv (.t 11)⟩,
 ⟨some 6, none, .mv (.t 51)⟩,
 ⟨some 7, none, .mv (.t 52)⟩,
 ⟨some 8, none, .mv (.t 53)⟩])
 .ret))))
def k32 : List Nat := [0, 1, 2, 6, 7, 8, 9, 10, 11, 12, 13, 15, 45]
theorem ic32 : factsI Tryd.prog 32 = some (54, [.tmp 6, .tmp 7, .tmp 8], c32) := by kernel_rfl
def c33 : IC :=
 (.seq (.reg [⟨some 8, none, .mv (.k (.sc (.bool false)))⟩])
 (.seq (.seq (.reg [⟨some 9, none, .mv (.t 3)⟩])
 (.block 0 (.seq (.reg [⟨some 11, none, .bin .eql false (.t 9) (.k (.sc (.int .i64 1))) (pu (.binOp .eql 3 (.tmp 9) (.const (.int .i64 1)) 3) 4)⟩,
 ⟨some 10, none, .mv (.t 11)⟩])
 (.cond (.t 10) (.seq (.reg [⟨some 12, none, .mv (.t 1)⟩,
 ⟨some 13, none, .mv (.t 2)⟩,
 ⟨some 14, none, .mv (.t 1)⟩,
 ⟨some 15, none, .bin .sub false (.t 13) (.t 14) (pu (.binOp .sub 45 (.tmp 13) (.tmp 14) 45) 45)⟩,
 ⟨some 16, none, .bin .geq false (.t 12) (.t 15) (pu (.binOp .geq 45 (.tmp 12) (.tmp 15) 45) 4)⟩,
 ⟨some 8, none, .mv (.t 16)⟩])
 .ret)
 (.seq (.reg [⟨some 18, none, .bin .eql false (.t 9) (.k (.sc (.int .i64 2))) (pu (.binOp .eql 3 (.tmp 9) (.const (.int .i64 2)) 3) 4)⟩,
 ⟨some 17, none, .mv (.t 18)⟩])
 (.cond (.t 17) (.seq (.reg [⟨some 19, none, .mv (.t 1)⟩,
 ⟨some 20, none, .mv (.t 2)⟩,
 ⟨some 21, none, .mv (.t 1)⟩,
 ⟨some 22, none, .bin .sub false (.t 20) (.t 21) (pu (.binOp .sub 45 (.tmp 20) (.tmp 21) 45) 45)⟩,
 ⟨some 23, none, .bin .gtr false (.t 19) (.t 22) (pu (.binOp .gtr 45 (.tmp 19) (.tmp 22) 45) 4)⟩,
 ⟨some 24, none, .mv (.t 23)⟩,
 ⟨some 25, (some ((some 24), false)), .mv (.t 1)⟩,
 ⟨some 26, (some ((some 24), false)), .mv (.t 2)⟩,
 ⟨some 27, (some ((some 24), false)), .mv (.t 1)⟩,
 ⟨some 28, (some ((some 24), false)), .bin .sub false (.t 26) (.t 27) (pu (.binOp .sub 45 (.tmp 26) (.tmp 27) 45) 45)⟩,
 ⟨some 29, (some ((some 24), false)), .bin .eql false (.t 25) (.t 28) (pu (.binOp .eql 45 (.tmp 25) (.tmp 28) 45) 4)⟩,
 ⟨some 30, (some ((some 24), false)), .mv (.t 29)⟩,
 ⟨some 31, (some ((some 30), true)), .mv (.t 0)⟩,
 ⟨some 32, (some ((some 24), false)), .pick (.t 30) (.t 31) (.k (.sc (.bool false)))⟩,
 ⟨some 33, none, .pick (.t 24) (.k (.sc (.bool true))) (.t 32)⟩,
 ⟨some 8, none, .mv (.t 33)⟩])
 .ret)
 (.seq (.reg [⟨some 35, none, .bin .eql false (.t 9) (.k (.sc (.int .i64 4))) (pu (.binOp .eql 3 (.tmp 9) (.const (.int .i64 4)) 3) 4)⟩,
 ⟨some 34, none, .mv (.t 35)⟩])
 (.cond (.t 34) (.seq (.reg [⟨some 36, none, .mv (.t 1)⟩,
 ⟨some 37, none, .bin .gtr false (.t 36) (.k (.sc (.int .u64 0))) (pu (.binOp .gtr 45 (.tmp 36) (.const (.int .u64 0)) 45) 4)⟩,
 ⟨some 8, none, .mv (.t 37)⟩])
 .ret)
 .skip))))))))
 (.seq (.reg [⟨some 8, none, .mv (.k (.sc (.bool false)))⟩])
 .ret)))
def k33 : List Nat := [0, 1, 2, 3, 8, 9, 10, 17, 34]
theorem ic33 : factsI Tryd.prog 33 = some (38, [.tmp 8], c33) := by kernel_rfl
def c34 : IC :=
 (.seq (.reg [⟨some 6, none, .mv (.k (.sc (.int .i64 0)))⟩,
 ⟨some 7, none, .mv (.k (.sc (.bool false)))⟩])
 (.seq (.seq (.reg [⟨some 8, none, .mv (.t 0)⟩])
 (.cond (.t 8) (.seq (.reg [⟨some 9, none, .mv (.t 2)⟩,
 ⟨some 10, none, .bin .sub false (.k (.sc (.int .u64 0))) (.t 9) (pu (.binOp .sub 45 (.const (.int .u64 0)) (.tmp 9) 45) 45)⟩,
 ⟨some 11, none, .pur (pu (.convert 45 3 (.tmp 10)) 3)⟩,
 ⟨some 12, none, .mv (.t 1)⟩,
 ⟨some 13, none, .bin .eql false (.t 12) (.k (.sc (.int .u64 0))) (pu (.binOp .eql 45 (.tmp 12) (.const (.int .u64 0)) 45) 4)⟩,
 ⟨some 14, none, .mv (.t 13)⟩,
 ⟨some 15, (some ((some 14), true)), .mv (.t 2)⟩,
 ⟨some 16, (some ((some 14), true)), .bin .leq false (.t 15) (.k (.sc (.int .u64 9223372036854775808))) (pu (.binOp .leq 45 (.tmp 15) (.const (.int .u64 9223372036854775808)) 45) 4)⟩,
 ⟨some 17, none, .pick (.t 14) (.t 16) (.k (.sc (.bool false)))⟩,
 ⟨some 6, none, .mv (.t 11)⟩,
 ⟨some 7, none, .mv (.t 17)⟩])
 .ret)
 .skip))
 (.seq (.reg [⟨some 18, none, .mv (.t 2)⟩,
 ⟨some 19, none, .pur (pu (.convert 45 3 (.tmp 18)) 3)⟩,
 ⟨some 20, none, .mv (.t 1)⟩,
 ⟨some 21, none, .bin .eql false (.t 20) (.k (.sc (.int .u64 0))) (pu (.binOp .eql 45 (.tmp 20) (.const (.int .u64 0)) 45) 4)⟩,
 ⟨some 22, none, .mv (.t 21)⟩,
 ⟨some 23, (some ((some 22), true)), .mv (.t 2)⟩,
 ⟨some 24, (some ((some 22), true)), .bin .lss false (.t 23) (.k (.sc (.int .u64 9223372036854775808))) (pu (.binOp .lss 45 (.tmp 23) (.const (.int .u64 9223372036854775808)) 45) 4)⟩,
 ⟨some 25, none, .pick (.t 22) (.t 24) (.k (.sc (.bool false)))⟩,
 ⟨some 6, none, .mv (.t 19)⟩,
 ⟨some 7, none, .mv (.t 25)⟩])
 .ret)))
def k34 : List Nat := [0, 1, 2, 6, 7, 8]
theorem ic34 : factsI Tryd.prog 34 = some (26, [.tmp 6, .tmp 7], c34) := by kernel_rfl
def c36 : IC :=
 (.reg [⟨some 4, none, .mv (.t 0)⟩,
 ⟨some 5, none, .mv (.t 0)⟩,
 ⟨some 6, none, .len (.t 5) (pu (.call ⟨.builtin .len, #[(.tmp 5)], #[59]⟩) 3)⟩,
 ⟨some 7, none, .mv (.t 1)⟩,
 ⟨some 8, none, .call 45 [(.t 4), (.t 6), (.t 7)]⟩])
def k36 : List Nat := [0, 1]
theorem ic36 : factsI Tryd.prog 36 = some (9, [], c36) := by kernel_rfl
def c37 : IC :=
 (.seq (.reg [⟨some 2, none, .bx (.t 0)⟩,
 ⟨some 3, none, .bx (.t 1)⟩,
 ⟨some 4, none, .mv (.k (.sc (.int .i64 0)))⟩])
 (.seq (.block 0 (.seq (.reg [⟨some 6, none, .sh 1 (.t 2)⟩,
 ⟨some 7, none, .ld none (.t 6)⟩,
 ⟨some 8, none, .sh 1 (.t 3)⟩,
 ⟨some 9, none, .ld none (.t 8)⟩,
 ⟨some 10, none, .bin .gtr false (.t 7) (.t 9) (pu (.binOp .gtr 45 (.tmp 7) (.tmp 9) 45) 4)⟩,
 ⟨some 5, none, .mv (.t 10)⟩])
 (.cond (.t 5) (.seq (.reg [⟨some 4, none, .mv (.k (.sc (.int .i64 (-1))))⟩])
 .ret)
 (.seq (.reg [⟨some 12, none, .sh 1 (.t 2)⟩,
 ⟨some 13, none, .ld none (.t 12)⟩,
 ⟨some 14, none, .sh 1 (.t 3)⟩,
 ⟨some 15, none, .ld none (.t 14)⟩,
 ⟨some 16, none, .bin .lss false (.t 13) (.t 15) (pu (.binOp .lss 45 (.tmp 13) (.tmp 15) 45) 4)⟩,
 ⟨some 11, none, .mv (.t 16)⟩])
 (.cond (.t 11) (.seq (.reg [⟨some 4, none, .mv (.k (.sc (.int .i64 1)))⟩])
 .ret)
 .skip)))))
 (.seq (.reg [⟨some 4, none, .mv (.k (.sc (.int .i64 0)))⟩])
 .ret)))
def k37 : List Nat := [0, 1, 2, 3, 4, 5, 11]
theorem ic37 : factsI Tryd.prog 37 = some (17, [.tmp 4], c37) := by kernel_rfl
def c38 : IC :=
 (.seq (.reg [⟨some 4, none, .mv (.k (.sc (.int .i64 0)))⟩])
 (.seq (.reg [⟨some 5, none, .mv (.k (.sc (.int .i64 (-1))))⟩])
 (.seq (.seq (.reg [⟨some 6, none, .mv (.k (.sc (.int .i64 0)))⟩])
 (.block 0 (.loop (.seq (.seq (.reg [⟨some 7, none, .mv (.t 6)⟩,
 ⟨some 8, none, .mv (.t 0)⟩,
 ⟨some 9, none, .len (.t 8) (pu (.call ⟨.builtin .len, #[(.tmp 8)], #[64]⟩) 3)⟩,
 ⟨some 10, none, .bin .lss false (.t 7) (.t 9) (pu (.binOp .lss 3 (.tmp 7) (.tmp 9) 3) 4)⟩])
 (.cond (.t 10) .skip
 (.exit 0)))
 (.seq (.block 1 (.seq (.drw [0, 0, 3, 7, 15, 31, 63, 127, 255, 511, 511, 2047, 4095, 511, 511, 25087, 57855, 131071, 262143, 524287] [⟨some 13, none, .mv (.t 1)⟩,
 ⟨some 14, none, .mv (.t 6)⟩,
 ⟨some 15, none, .ixs 1 (.t 13) (.t 14)⟩,
 ⟨some 16, none, .ld none (.t 15)⟩,
 ⟨some 17, none, .un .not (.t 16) (pu (.unOp .not 4 (.tmp 16)) 4)⟩,
 ⟨some 18, none, .mv (.t 17)⟩,
 ⟨some 19, (some ((some 18), true)), .mv (.t 5)⟩,
 ⟨some 20, (some ((some 18), true)), .bin .lss false (.t 19) (.k (.sc (.int .i64 0))) (pu (.binOp .lss 3 (.tmp 19) (.const (.int .i64 0)) 3) 4)⟩,
 ⟨some 21, (some ((some 18), true)), .mv (.t 20)⟩,
 ⟨some 22, (some ((some 21), false)), .mv (.t 0)⟩,
 ⟨some 23, (some ((some 21), false)), .mv (.t 6)⟩,
 ⟨some 24, (some ((some 21), false)), .ixs 1 (.t 22) (.t 23)⟩,
 ⟨some 25, (some ((some 21), false)), .ld none (.t 24)⟩,
 ⟨some 26, (some ((some 21), false)), .mv (.t 0)⟩,
 ⟨some 27, (some ((some 21), false)), .mv (.t 5)⟩,
 ⟨some 28, (some ((some 21), false)), .ixs 1 (.t 26) (.t 27)⟩,
 ⟨some 29, (some ((some 21), false)), .ld none (.t 28)⟩,
 ⟨some 30, (some ((some 21), false)), .bin .gtr false (.t 25) (.t 29) (pu (.binOp .gtr 45 (.tmp 25) (.tmp 29) 45) 4)⟩,
 ⟨some 31, (some ((some 18), true)), .pick (.t 21) (.k (.sc (.bool true))) (.t 30)⟩,
 ⟨some 32, none, .pick (.t 18) (.t 31) (.k (.sc (.bool false)))⟩])
 (.cond (.t 32) (.reg [⟨some 33, none, .mv (.t 6)⟩,
 ⟨some 5, none, .mv (.t 33)⟩])
 .skip)))
 (.reg [⟨some 11, none, .mv (.t 6)⟩,
 ⟨some 12, none, .bin .add false (.t 11) (.k (.sc (.int .i64 1))) (pu (.binOp .add 3 (.tmp 11) (.const (.int .i64 1)) 3) 3)⟩,
 ⟨some 6, none, .mv (.t 12)⟩]))))))
 (.seq (.reg [⟨some 34, none, .mv (.t 5)⟩,
 ⟨some 4, none, .mv (.t 34)⟩])
 .ret))))
def k38 : List Nat := [0, 1, 4, 5, 6, 10, 32]
theorem ic38 : factsI Tryd.prog 38 = some (35, [.tmp 4], c38) := by kernel_rfl
def c39 : IC :=
 (.seq (.reg [⟨some 2, none, .mv (.k (.sc (.bool false)))⟩])
 (.seq (.seq (.reg [⟨some 4, none, .mv (.t 0)⟩,
 ⟨some 5, none, .lens (.t 4) (pu (.call ⟨.builtin .len, #[(.tmp 4)], #[9]⟩) 3)⟩,
 ⟨some 6, none, .bin .neq false (.t 5) (.k (.sc (.int .i64 3))) (pu (.binOp .neq 3 (.tmp 5) (.const (.int .i64 3)) 3) 4)⟩])
 (.cond (.t 6) (.seq (.reg [⟨some 2, none, .mv (.k (.sc (.bool false)))⟩])
 .ret)
 .skip))
 (.seq (.seq (.reg [⟨some 7, none, .mv (.k (.sc (.int .i64 0)))⟩])
 (.block 0 (.loop (.seq (.reg [⟨some 8, none, .bin .lss false (.t 7) (.k (.sc (.int .i64 3))) (pu (.binOp .lss 3 (.tmp 7) (.const (.int .i64 3)) 3) 4)⟩])
 (.seq (.cond (.t 8) .skip
 (.exit 0))
 (.seq (.block 1 (.seq (.reg [⟨some 9, none, .mv (.t 7)⟩,
 ⟨some 3, none, .mv (.t 9)⟩])
 (.seq (.reg [⟨some 10, none, .mv (.t 0)⟩,
 ⟨some 11, none, .mv (.t 3)⟩,
 ⟨some 12, none, .pur (pu (.index 9 (.tmp 10) (.tmp 11)) 5)⟩,
 ⟨some 13, none, .bin .lss false (.t 12) (.k (.sc (.int .u8 65))) (pu (.binOp .lss 5 (.tmp 12) (.const (.int .u8 65)) 5) 4)⟩,
 ⟨some 14, none, .mv (.t 13)⟩,
 ⟨some 15, (some ((some 14), false)), .mv (.t 0)⟩,
 ⟨some 16, (some ((some 14), false)), .mv (.t 3)⟩,
 ⟨some 17, (some ((some 14), false)), .pur (pu (.index 9 (.tmp 15) (.tmp 16)) 5)⟩,
 ⟨some 18, (some ((some 14), false)), .bin .gtr false (.t 17) (.k (.sc (.int .u8 90))) (pu (.binOp .gtr 5 (.tmp 17) (.const (.int .u8 90)) 5) 4)⟩,
 ⟨some 19, none, .pick (.t 14) (.k (.sc (.bool true))) (.t 18)⟩])
 (.cond (.t 19) (.seq (.reg [⟨some 2, none, .mv (.k (.sc (.bool false)))⟩])
 .ret)
 .skip))))
 (.reg [⟨some 20, none, .bin .add false (.t 7) (.k (.sc (.int .i64 1))) (pu (.binOp .add 3 (.tmp 7) (.const (.int .i64 1)) 3) 3)⟩,
 ⟨some 7, none, .mv (.t 20)⟩])))))))
 (.seq (.reg [⟨some 2, none, .mv (.k (.sc (.bool true)))⟩])
 .ret))))
def k39 : List Nat := [0, 2, 3, 6, 7, 8, 19]
theorem ic39 : factsI Tryd.prog 39 = some (21, [.tmp 2], c39) := by kernel_rfl
def c41 : IC :=
 (.seq (.reg [⟨some 2, none, .mv (.k (.sc (.bool false)))⟩])
 (.seq (.seq (.reg [⟨some 3, none, .mv (.k (.sc (.int .i64 0)))⟩])
 (.block 0 (.loop (.seq (.seq (.reg [⟨some 4, none, .mv (.t 3)⟩,
 ⟨some 5, none, .mv (.t 0)⟩,
 ⟨some 6, none, .lens (.t 5) (pu (.call ⟨.builtin .len, #[(.tmp 5)], #[9]⟩) 3)⟩,
 ⟨some 7, none, .bin .lss false (.t 4) (.t 6) (pu (.binOp .lss 3 (.tmp 4) (.tmp 6) 3) 4)⟩])
 (.cond (.t 7) .skip
 (.exit 0)))
 (.seq (.block 1 (.seq (.reg [⟨some 10, none, .mv (.t 0)⟩,
 ⟨some 11, none, .mv (.t 3)⟩,
 ⟨some 12, none, .pur (pu (.index 9 (.tmp 10) (.tmp 11)) 5)⟩,
 ⟨some 13, none, .bin .lss false (.t 12) (.k (.sc (.int .u8 65))) (pu (.binOp .lss 5 (.tmp 12) (.const (.int .u8 65)) 5) 4)⟩,
 ⟨some 14, none, .mv (.t 13)⟩,
 ⟨some 15, (some ((some 14), false)), .mv (.t 0)⟩,
 ⟨some 16, (some ((some 14), false)), .mv (.t 3)⟩,
 ⟨some 17, (some ((some 14), false)), .pur (pu (.index 9 (.tmp 15) (.tmp 16)) 5)⟩,
 ⟨some 18, (some ((some 14), false)), .bin .gtr false (.t 17) (.k (.sc (.int .u8 90))) (pu (.binOp .gtr 5 (.tmp 17) (.const (.int .u8 90)) 5) 4)⟩,
 ⟨some 19, none, .pick (.t 14) (.k (.sc (.bool true))) (.t 18)⟩])
 (.cond (.t 19) (.seq (.reg [⟨some 2, none, .mv (.k (.sc (.bool false)))⟩])
 .ret)
 .skip)))
 (.reg [⟨some 8, none, .mv (.t 3)⟩,
 ⟨some 9, none, .bin .add false (.t 8) (.k (.sc (.int .i64 1))) (pu (.binOp .add 3 (.tmp 8) (.const (.int .i64 1)) 3) 3)⟩,
 ⟨some 3, none, .mv (.t 9)⟩]))))))
 (.seq (.reg [⟨some 20, none, .mv (.t 0)⟩,
 ⟨some 21, none, .lens (.t 20) (pu (.call ⟨.builtin .len, #[(.tmp 20)], #[9]⟩) 3)⟩,
 ⟨some 22, none, .bin .eql false (.t 21) (.k (.sc (.int .i64 3))) (pu (.binOp .eql 3 (.tmp 21) (.const (.int .i64 3)) 3) 4)⟩,
 ⟨some 2, none, .mv (.t 22)⟩])
 .ret)))
def k41 : List Nat := [0, 2, 3, 7, 19]
theorem ic41 : factsI Tryd.prog 41 = some (23, [.tmp 2], c41) := by kernel_rfl
def c42 : IC :=
 (.seq (.reg [⟨some 2, none, .mv (.k (.sc (.string ⟨#[]⟩)))⟩])
 (.seq (.reg [⟨some 3, none, .mv (.k (.sc (.string ⟨#[]⟩)))⟩])
 (.seq (.block 0 (.loop (.seq (.seq (.reg [⟨some 4, none, .mv (.t 0)⟩,
 ⟨some 5, none, .bin .gtr false (.t 4) (.k (.sc (.int .u64 9))) (pu (.binOp .gtr 45 (.tmp 4) (.const (.int .u64 9)) 45) 4)⟩])
 (.cond (.t 5) .skip
 (.exit 0)))
 (.block 1 (.seq (.reg [⟨some 6, none, .mv (.t 0)⟩,
 ⟨some 7, none, .bin .rem false (.t 6) (.k (.sc (.int .u64 10))) (pu (.binOp .rem 45 (.tmp 6) (.const (.int .u64 10)) 45) 45)⟩,
 ⟨some 8, none, .bin .add false (.k (.sc (.int .u64 48))) (.t 7) (pu (.binOp .add 45 (.const (.int .u64 48)) (.tmp 7) 45) 45)⟩,
 ⟨some 9, none, .pur (pu (.convert 45 5 (.tmp 8)) 5)⟩,
 ⟨some 10, none, .bsl 1 1 false [.sc (.int .u8 0)] [(0, 1, (.t 9))]⟩,
 ⟨some 11, none, .pur (pu (.convert 67 9 (.tmp 10)) 9)⟩,
 ⟨some 12, none, .mv (.t 3)⟩,
 ⟨some 13, none, .bin .add false (.t 11) (.t 12) (pu (.binOp .add 9 (.tmp 11) (.tmp 12) 9) 9)⟩,
 ⟨some 3, none, .mv (.t 13)⟩])
 (.reg [⟨some 14, none, .mv (.t 0)⟩,
 ⟨some 15, none, .bin .quo false (.t 14) (.k (.sc (.int .u64 10))) (pu (.binOp .quo 45 (.tmp 14) (.const (.int .u64 10)) 45) 45)⟩,
 ⟨some 0, none, .mv (.t 15)⟩]))))))
 (.seq (.reg [⟨some 16, none, .mv (.t 0)⟩,
 ⟨some 17, none, .bin .add false (.k (.sc (.int .u64 48))) (.t 16) (pu (.binOp .add 45 (.const (.int .u64 48)) (.tmp 16) 45) 45)⟩,
 ⟨some 18, none, .pur (pu (.convert 45 5 (.tmp 17)) 5)⟩,
 ⟨some 19, none, .bsl 1 1 false [.sc (.int .u8 0)] [(0, 1, (.t 18))]⟩,
 ⟨some 20, none, .pur (pu (.convert 67 9 (.tmp 19)) 9)⟩,
 ⟨some 21, none, .mv (.t 3)⟩,
 ⟨some 22, none, .bin .add false (.t 20) (.t 21) (pu (.binOp .add 9 (.tmp 20) (.tmp 21) 9) 9)⟩,
 ⟨some 2, none, .mv (.t 22)⟩])
 .ret))))
def k42 : List Nat := [0, 2, 3, 5]
theorem ic42 : factsI Tryd.prog 42 = some (23, [.tmp 2], c42) := by kernel_rfl
def c45 : IC :=
 (.seq (.reg [⟨some 6, none, .mv (.k (.sc (.int .i64 20)))⟩])
 (.seq (.reg [⟨some 10, none, .mv (.t 6)⟩,
 ⟨some 7, none, .mv (.k (.sc (.int .i64 0)))⟩,
 ⟨some 8, none, .mv (.t 10)⟩])
 (.seq (.block 0 (.loop (.seq (.seq (.reg [⟨some 11, none, .mv (.t 8)⟩,
 ⟨some 12, none, .mv (.t 1)⟩,
 ⟨some 13, none, .bin .leq false (.t 11) (.t 12) (pu (.binOp .leq 3 (.tmp 11) (.tmp 12) 3) 4)⟩])
 (.cond (.t 13) .skip
 (.exit 0)))
 (.block 1 (.seq (.reg [⟨some 14, none, .mv (.t 0)⟩,
 ⟨some 15, none, .mv (.t 7)⟩,
 ⟨some 16, none, .mv (.t 8)⟩,
 ⟨some 17, none, .mv (.t 2)⟩,
 ⟨some 18, none, .call 50 [(.t 14), (.t 15), (.t 16), (.t 17)]⟩])
 (.seq (.reg [⟨some 19, none, .mv (.t 8)⟩,
 ⟨some 7, none, .mv (.t 19)⟩])
 (.reg [⟨some 20, none, .mv (.t 8)⟩,
 ⟨some 21, none, .mv (.t 6)⟩,
 ⟨some 22, none, .bin .add false (.t 20) (.t 21) (pu (.binOp .add 3 (.tmp 20) (.tmp 21) 3) 3)⟩,
 ⟨some 8, none, .mv (.t 22)⟩])))))))
 (.seq (.reg [⟨some 23, none, .mv (.t 0)⟩,
 ⟨some 24, none, .mv (.t 7)⟩,
 ⟨some 25, none, .mv (.t 1)⟩,
 ⟨some 26, none, .mv (.t 2)⟩,
 ⟨some 27, none, .call 50 [(.t 23), (.t 24), (.t 25), (.t 26)]⟩])
 (.block 2 (.loop (.seq (.seq (.reg [⟨some 28, none, .mv (.t 6)⟩,
 ⟨some 29, none, .mv (.t 1)⟩,
 ⟨some 30, none, .bin .lss false (.t 28) (.t 29) (pu (.binOp .lss 3 (.tmp 28) (.tmp 29) 3) 4)⟩])
 (.cond (.t 30) .skip
 (.exit 2)))
 (.block 3 (.seq (.reg [⟨some 31, none, .mv (.t 6)⟩,
 ⟨some 32, none, .bin .mul false (.k (.sc (.int .i64 2))) (.t 31) (pu (.binOp .mul 3 (.const (.int .i64 2)) (.tmp 31) 3) 3)⟩,
 ⟨some 7, none, .mv (.k (.sc (.int .i64 0)))⟩,
 ⟨some 8, none, .mv (.t 32)⟩])
 (.seq (.block 4 (.loop (.seq (.seq (.reg [⟨some 33, none, .mv (.t 8)⟩,
 ⟨some 34, none, .mv (.t 1)⟩,
 ⟨some 35, none, .bin .leq false (.t 33) (.t 34) (pu (.binOp .leq 3 (.tmp 33) (.tmp 34) 3) 4)⟩])
 (.cond (.t 35) .skip
 (.exit 4)))
 (.block 5 (.seq (.reg [⟨some 36, none, .mv (.t 0)⟩,
 ⟨some 37, none, .mv (.t 7)⟩,
 ⟨some 38, none, .mv (.t 7)⟩,
 ⟨some 39, none, .mv (.t 6)⟩,
 ⟨some 40, none, .bin .add false (.t 38) (.t 39) (pu (.binOp .add 3 (.tmp 38) (.tmp 39) 3) 3)⟩,
 ⟨some 41, none, .mv (.t 8)⟩,
 ⟨some 42, none, .mv (.t 2)⟩,
 ⟨some 43, none, .call 51 [(.t 36), (.t 37), (.t 40), (.t 41), (.t 42)]⟩])
 (.seq (.reg [⟨some 44, none, .mv (.t 8)⟩,
 ⟨some 7, none, .mv (.t 44)⟩])
 (.reg [⟨some 45, none, .mv (.t 8)⟩,
 ⟨some 46, none, .mv (.t 6)⟩,
 ⟨some 47, none, .bin .mul false (.k (.sc (.int .i64 2))) (.t 46) (pu (.binOp .mul 3 (.const (.int .i64 2)) (.tmp 46) 3) 3)⟩,
 ⟨some 48, none, .bin .add false (.t 45) (.t 47) (pu (.binOp .add 3 (.tmp 45) (.tmp 47) 3) 3)⟩,
 ⟨some 8, none, .mv (.t 48)⟩])))))))
 (.seq (.seq (.reg [⟨some 49, none, .mv (.t 7)⟩,
 ⟨some 50, none, .mv (.t 6)⟩,
 ⟨some 51, none, .bin .add false (.t 49) (.t 50) (pu (.binOp .add 3 (.tmp 49) (.tmp 50) 3) 3)⟩,
 ⟨some 9, none, .mv (.t 51)⟩])
 (.seq (.reg [⟨some 52, none, .mv (.t 9)⟩,
 ⟨some 53, none, .mv (.t 1)⟩,
 ⟨some 54, none, .bin .lss false (.t 52) (.t 53) (pu (.binOp .lss 3 (.tmp 52) (.tmp 53) 3) 4)⟩])
 (.cond (.t 54) (.reg [⟨some 55, none, .mv (.t 0)⟩,
 ⟨some 56, none, .mv (.t 7)⟩,
 ⟨some 57, none, .mv (.t 9)⟩,
 ⟨some 58, none, .mv (.t 1)⟩,
 ⟨some 59, none, .mv (.t 2)⟩,
 ⟨some 60, none, .call 51 [(.t 55), (.t 56), (.t 57), (.t 58), (.t 59)]⟩])
 .skip)))
 (.reg [⟨some 61, none, .mv (.t 6)⟩,
 ⟨some 62, none, .bin .mul false (.t 61) (.k (.sc (.int .i64 2))) (pu (.binOp .mul 3 (.tmp 61) (.const (.int .i64 2)) 3) 3)⟩,
 ⟨some 6, none, .mv (.t 62)⟩]))))))))))))
def k45 : List Nat := [0, 1, 2, 6, 7, 8, 9, 13, 30, 35, 54]
theorem ic45 : factsI Tryd.prog 45 = some (63, [], c45) := by kernel_rfl
def c50 : IC :=
 (.seq (.reg [⟨some 10, none, .mv (.t 1)⟩,
 ⟨some 11, none, .bin .add false (.t 10) (.k (.sc (.int .i64 1))) (pu (.binOp .add 3 (.tmp 10) (.const (.int .i64 1)) 3) 3)⟩,
 ⟨some 8, none, .mv (.t 11)⟩])
 (.block 0 (.loop (.seq (.seq (.reg [⟨some 12, none, .mv (.t 8)⟩,
 ⟨some 13, none, .mv (.t 2)⟩,
 ⟨some 14, none, .bin .lss false (.t 12) (.t 13) (pu (.binOp .lss 3 (.tmp 12) (.tmp 13) 3) 4)⟩])
 (.cond (.t 14) .skip
 (.exit 0)))
 (.seq (.block 1 (.seq (.reg [⟨some 17, none, .mv (.t 8)⟩,
 ⟨some 9, none, .mv (.t 17)⟩])
 (.block 2 (.loop (.seq (.seq (.drw [0, 0, 3, 7, 15, 15, 15, 111, 239, 15, 15, 1039, 3599, 7695, 16383, 32767, 65535] [⟨some 18, none, .mv (.t 9)⟩,
 ⟨some 19, none, .mv (.t 1)⟩,
 ⟨some 20, none, .bin .gtr false (.t 18) (.t 19) (pu (.binOp .gtr 3 (.tmp 18) (.tmp 19) 3) 4)⟩,
 ⟨some 21, none, .mv (.t 20)⟩,
 ⟨some 22, (some ((some 21), true)), .mv (.t 3)⟩,
 ⟨some 23, (some ((some 21), true)), .mv (.t 0)⟩,
 ⟨some 24, (some ((some 21), true)), .mv (.t 9)⟩,
 ⟨some 25, (some ((some 21), true)), .ixs 2 (.t 23) (.t 24)⟩,
 ⟨some 26, (some ((some 21), true)), .ld (some 2) (.t 25)⟩,
 ⟨some 27, (some ((some 21), true)), .mv (.t 0)⟩,
 ⟨some 28, (some ((some 21), true)), .mv (.t 9)⟩,
 ⟨some 29, (some ((some 21), true)), .bin .sub false (.t 28) (.k (.sc (.int .i64 1))) (pu (.binOp .sub 3 (.tmp 28) (.const (.int .i64 1)) 3) 3)⟩,
 ⟨some 30, (some ((some 21), true)), .ixs 2 (.t 27) (.t 29)⟩,
 ⟨some 31, (some ((some 21), true)), .ld (some 2) (.t 30)⟩,
 ⟨some 32, (some ((some 21), true)), .callv (.t 22) [(.t 26), (.t 31)]⟩,
 ⟨some 33, (some ((some 21), true)), .bin .lss false (.t 32) (.k (.sc (.int .i64 0))) (pu (.binOp .lss 3 (.tmp 32) (.const (.int .i64 0)) 3) 4)⟩,
 ⟨some 34, none, .pick (.t 21) (.t 33) (.k (.sc (.bool false)))⟩])
 (.cond (.t 34) .skip
 (.exit 2)))
 (.seq (.block 3 (.drw [0, 0, 0, 0, 8, 0, 0, 64, 224, 480, 0, 0, 3072, 7168, 16355, 32739, 65535, 131071] [⟨some 37, none, .mv (.t 0)⟩,
 ⟨some 38, none, .mv (.t 9)⟩,
 ⟨some 39, none, .mv (.t 0)⟩,
 ⟨some 40, none, .mv (.t 9)⟩,
 ⟨some 41, none, .bin .sub false (.t 40) (.k (.sc (.int .i64 1))) (pu (.binOp .sub 3 (.tmp 40) (.const (.int .i64 1)) 3) 3)⟩,
 ⟨some 42, none, .mv (.t 0)⟩,
 ⟨some 43, none, .mv (.t 9)⟩,
 ⟨some 44, none, .bin .sub false (.t 43) (.k (.sc (.int .i64 1))) (pu (.binOp .sub 3 (.tmp 43) (.const (.int .i64 1)) 3) 3)⟩,
 ⟨some 45, none, .ixs 2 (.t 42) (.t 44)⟩,
 ⟨some 46, none, .ld (some 2) (.t 45)⟩,
 ⟨some 47, none, .mv (.t 0)⟩,
 ⟨some 48, none, .mv (.t 9)⟩,
 ⟨some 49, none, .ixs 2 (.t 47) (.t 48)⟩,
 ⟨some 50, none, .ld (some 2) (.t 49)⟩,
 ⟨some 51, none, .ixs 2 (.t 37) (.t 38)⟩,
 ⟨none, none, .st 2 (.t 51) (.t 46)⟩,
 ⟨some 52, none, .ixs 2 (.t 39) (.t 41)⟩,
 ⟨none, none, .st 2 (.t 52) (.t 50)⟩]))
 (.reg [⟨some 35, none, .mv (.t 9)⟩,
 ⟨some 36, none, .bin .sub false (.t 35) (.k (.sc (.int .i64 1))) (pu (.binOp .sub 3 (.tmp 35) (.const (.int .i64 1)) 3) 3)⟩,
 ⟨some 9, none, .mv (.t 36)⟩])))))))
 (.reg [⟨some 15, none, .mv (.t 8)⟩,
 ⟨some 16, none, .bin .add false (.t 15) (.k (.sc (.int .i64 1))) (pu (.binOp .add 3 (.tmp 15) (.const (.int .i64 1)) 3) 3)⟩,
 ⟨some 8, none, .mv (.t 16)⟩]))))))
def k50 : List Nat := [0, 1, 2, 3, 8, 9, 14, 34]
theorem ic50 : factsI Tryd.prog 50 = some (53, [], c50) := by kernel_rfl
def c51 : IC :=
 (.seq (.seq (.reg [⟨some 25, none, .mv (.t 2)⟩,
 ⟨some 26, none, .mv (.t 1)⟩,
 ⟨some 27, none, .bin .sub false (.t 25) (.t 26) (pu (.binOp .sub 3 (.tmp 25) (.tmp 26) 3) 3)⟩,
 ⟨some 28, none, .bin .eql false (.t 27) (.k (.sc (.int .i64 1))) (pu (.binOp .eql 3 (.tmp 27) (.const (.int .i64 1)) 3) 4)⟩])
 (.cond (.t 28) (.seq (.reg [⟨some 29, none, .mv (.t 2)⟩,
 ⟨some 10, none, .mv (.t 29)⟩])
 (.seq (.reg [⟨some 30, none, .mv (.t 3)⟩,
 ⟨some 11, none, .mv (.t 30)⟩])
 (.seq (.block 0 (.loop (.seq (.seq (.reg [⟨some 31, none, .mv (.t 10)⟩,
 ⟨some 32, none, .mv (.t 11)⟩,
 ⟨some 33, none, .bin .lss false (.t 31) (.t 32) (pu (.binOp .lss 3 (.tmp 31) (.tmp 32) 3) 4)⟩])
 (.cond (.t 33) .skip
 (.exit 0)))
 (.block 1 (.seq (.reg [⟨some 34, none, .mv (.t 10)⟩,
 ⟨some 35, none, .mv (.t 11)⟩,
 ⟨some 36, none, .bin .add false (.t 34) (.t 35) (pu (.binOp .add 3 (.tmp 34) (.tmp 35) 3) 3)⟩,
 ⟨some 37, none, .pur (pu (.convert 3 74 (.tmp 36)) 74)⟩,
 ⟨some 38, none, .bin .shr false (.t 37) (.k (.sc (.int .u64 1))) (pu (.binOp .shr 74 (.tmp 37) (.const (.int .u64 1)) 74) 74)⟩,
 ⟨some 39, none, .pur (pu (.convert 74 3 (.tmp 38)) 3)⟩,
 ⟨some 12, none, .mv (.t 39)⟩])
 (.seq (.drw [0, 0, 0, 6, 14, 0, 0, 96, 224, 511, 1023] [⟨some 40, none, .mv (.t 4)⟩,
 ⟨some 41, none, .mv (.t 0)⟩,
 ⟨some 42, none, .mv (.t 12)⟩,
 ⟨some 43, none, .ixs 2 (.t 41) (.t 42)⟩,
 ⟨some 44, none, .ld (some 2) (.t 43)⟩,
 ⟨some 45, none, .mv (.t 0)⟩,
 ⟨some 46, none, .mv (.t 1)⟩,
 ⟨some 47, none, .ixs 2 (.t 45) (.t 46)⟩,
 ⟨some 48, none, .ld (some 2) (.t 47)⟩,
 ⟨some 49, none, .callv (.t 40) [(.t 44), (.t 48)]⟩,
 ⟨some 50, none, .bin .lss false (.t 49) (.k (.sc (.int .i64 0))) (pu (.binOp .lss 3 (.tmp 49) (.const (.int .i64 0)) 3) 4)⟩])
 (.cond (.t 50) (.reg [⟨some 51, none, .mv (.t 12)⟩,
 ⟨some 52, none, .bin .add false (.t 51) (.k (.sc (.int .i64 1))) (pu (.binOp .add 3 (.tmp 51) (.const (.int .i64 1)) 3) 3)⟩,
 ⟨some 10, none, .mv (.t 52)⟩])
 (.reg [⟨some 53, none, .mv (.t 12)⟩,
 ⟨some 11, none, .mv (.t 53)⟩]))))))))
 (.seq (.seq (.reg [⟨some 54, none, .mv (.t 1)⟩,
 ⟨some 13, none, .mv (.t 54)⟩])
 (.block 2 (.loop (.seq (.seq (.reg [⟨some 55, none, .mv (.t 13)⟩,
 ⟨some 56, none, .mv (.t 10)⟩,
 ⟨some 57, none, .bin .sub false (.t 56) (.k (.sc (.int .i64 1))) (pu (.binOp .sub 3 (.tmp 56) (.const (.int .i64 1)) 3) 3)⟩,
 ⟨some 58, none, .bin .lss false (.t 55) (.t 57) (pu (.binOp .lss 3 (.tmp 55) (.tmp 57) 3) 4)⟩])
 (.cond (.t 58) .skip
 (.exit 2)))
 (.seq (.block 3 (.drw [0, 0, 0, 0, 8, 0, 0, 64, 224, 480, 0, 0, 3072, 7168, 16355, 32739, 65535, 131071] [⟨some 61, none, .mv (.t 0)⟩,
 ⟨some 62, none, .mv (.t 13)⟩,
 ⟨some 63, none, .mv (.t 0)⟩,
 ⟨some 64, none, .mv (.t 13)⟩,
 ⟨some 65, none, .bin .add false (.t 64) (.k (.sc (.int .i64 1))) (pu (.binOp .add 3 (.tmp 64) (.const (.int .i64 1)) 3) 3)⟩,
 ⟨some 66, none, .mv (.t 0)⟩,
 ⟨some 67, none, .mv (.t 13)⟩,
 ⟨some 68, none, .bin .add false (.t 67) (.k (.sc (.int .i64 1))) (pu (.binOp .add 3 (.tmp 67) (.const (.int .i64 1)) 3) 3)⟩,
 ⟨some 69, none, .ixs 2 (.t 66) (.t 68)⟩,
 ⟨some 70, none, .ld (some 2) (.t 69)⟩,
 ⟨some 71, none, .mv (.t 0)⟩,
 ⟨some 72, none, .mv (.t 13)⟩,
 ⟨some 73, none, .ixs 2 (.t 71) (.t 72)⟩,
 ⟨some 74, none, .ld (some 2) (.t 73)⟩,
 ⟨some 75, none, .ixs 2 (.t 61) (.t 62)⟩,
 ⟨none, none, .st 2 (.t 75) (.t 70)⟩,
 ⟨some 76, none, .ixs 2 (.t 63) (.t 65)⟩,
 ⟨none, none, .st 2 (.t 76) (.t 74)⟩]))
 (.reg [⟨some 59, none, .mv (.t 13)⟩,
 ⟨some 60, none, .bin .add false (.t 59) (.k (.sc (.int .i64 1))) (pu (.binOp .add 3 (.tmp 59) (.const (.int .i64 1)) 3) 3)⟩,
 ⟨some 13, none, .mv (.t 60)⟩]))))))
 .ret))))
 .skip))
 (.seq (.seq (.reg [⟨some 77, none, .mv (.t 3)⟩,
 ⟨some 78, none, .mv (.t 2)⟩,
 ⟨some 79, none, .bin .sub false (.t 77) (.t 78) (pu (.binOp .sub 3 (.tmp 77) (.tmp 78) 3) 3)⟩,
 ⟨some 80, none, .bin .eql false (.t 79) (.k (.sc (.int .i64 1))) (pu (.binOp .eql 3 (.tmp 79) (.const (.int .i64 1)) 3) 4)⟩])
 (.cond (.t 80) (.seq (.reg [⟨some 81, none, .mv (.t 1)⟩,
 ⟨some 14, none, .mv (.t 81)⟩])
 (.seq (.reg [⟨some 82, none, .mv (.t 2)⟩,
 ⟨some 15, none, .mv (.t 82)⟩])
 (.seq (.block 4 (.loop (.seq (.seq (.reg [⟨some 83, none, .mv (.t 14)⟩,
 ⟨some 84, none, .mv (.t 15)⟩,
 ⟨some 85, none, .bin .lss false (.t 83) (.t 84) (pu (.binOp .lss 3 (.tmp 83) (.tmp 84) 3) 4)⟩])
 (.cond (.t 85) .skip
 (.exit 4)))
 (.block 5 (.seq (.reg [⟨some 86, none, .mv (.t 14)⟩,
 ⟨some 87, none, .mv (.t 15)⟩,
 ⟨some 88, none, .bin .add false (.t 86) (.t 87) (pu (.binOp .add 3 (.tmp 86) (.tmp 87) 3) 3)⟩,
 ⟨some 89, none, .pur (pu (.convert 3 74 (.tmp 88)) 74)⟩,
 ⟨some 90, none, .bin .shr false (.t 89) (.k (.sc (.int .u64 1))) (pu (.binOp .shr 74 (.tmp 89) (.const (.int .u64 1)) 74) 74)⟩,
 ⟨some 91, none, .pur (pu (.convert 74 3 (.tmp 90)) 3)⟩,
 ⟨some 16, none, .mv (.t 91)⟩])
 (.seq (.drw [0, 0, 0, 6, 14, 0, 0, 96, 224, 511, 1023, 2047] [⟨some 92, none, .mv (.t 4)⟩,
 ⟨some 93, none, .mv (.t 0)⟩,
 ⟨some 94, none, .mv (.t 2)⟩,
 ⟨some 95, none, .ixs 2 (.t 93) (.t 94)⟩,
 ⟨some 96, none, .ld (some 2) (.t 95)⟩,
 ⟨some 97, none, .mv (.t 0)⟩,
 ⟨some 98, none, .mv (.t 16)⟩,
 ⟨some 99, none, .ixs 2 (.t 97) (.t 98)⟩,
 ⟨some 100, none, .ld (some 2) (.t 99)⟩,
 ⟨some 101, none, .callv (.t 92) [(.t 96), (.t 100)]⟩,
 ⟨some 102, none, .bin .lss false (.t 101) (.k (.sc (.int .i64 0))) (pu (.binOp .lss 3 (.tmp 101) (.const (.int .i64 0)) 3) 4)⟩,
 ⟨some 103, none, .un .not (.t 102) (pu (.unOp .not 4 (.tmp 102)) 4)⟩])
 (.cond (.t 103) (.reg [⟨some 104, none, .mv (.t 16)⟩,
 ⟨some 105, none, .bin .add false (.t 104) (.k (.sc (.int .i64 1))) (pu (.binOp .add 3 (.tmp 104) (.const (.int .i64 1)) 3) 3)⟩,
 ⟨some 14, none, .mv (.t 105)⟩])
 (.reg [⟨some 106, none, .mv (.t 16)⟩,
 ⟨some 15, none, .mv (.t 106)⟩]))))))))
 (.seq (.seq (.reg [⟨some 107, none, .mv (.t 2)⟩,
 ⟨some 17, none, .mv (.t 107)⟩])
 (.block 6 (.loop (.seq (.seq (.reg [⟨some 108, none, .mv (.t 17)⟩,
 ⟨some 109, none, .mv (.t 14)⟩,
 ⟨some 110, none, .bin .gtr false (.t 108) (.t 109) (pu (.binOp .gtr 3 (.tmp 108) (.tmp 109) 3) 4)⟩])
 (.cond (.t 110) .skip
 (.exit 6)))
 (.seq (.block 7 (.drw [0, 0, 0, 0, 8, 0, 0, 64, 224, 480, 0, 0, 3072, 7168, 16355, 32739, 65535, 131071] [⟨some 113, none, .mv (.t 0)⟩,
 ⟨some 114, none, .mv (.t 17)⟩,
 ⟨some 115, none, .mv (.t 0)⟩,
 ⟨some 116, none, .mv (.t 17)⟩,
 ⟨some 117, none, .bin .sub false (.t 116) (.k (.sc (.int .i64 1))) (pu (.binOp .sub 3 (.tmp 116) (.const (.int .i64 1)) 3) 3)⟩,
 ⟨some 118, none, .mv (.t 0)⟩,
 ⟨some 119, none, .mv (.t 17)⟩,
 ⟨some 120, none, .bin .sub false (.t 119) (.k (.sc (.int .i64 1))) (pu (.binOp .sub 3 (.tmp 119) (.const (.int .i64 1)) 3) 3)⟩,
 ⟨some 121, none, .ixs 2 (.t 118) (.t 120)⟩,
 ⟨some 122, none, .ld (some 2) (.t 121)⟩,
 ⟨some 123, none, .mv (.t 0)⟩,
 ⟨some 124, none, .mv (.t 17)⟩,
 ⟨some 125, none, .ixs 2 (.t 123) (.t 124)⟩,
 ⟨some 126, none, .ld (some 2) (.t 125)⟩,
 ⟨some 127, none, .ixs 2 (.t 113) (.t 114)⟩,
 ⟨none, none, .st 2 (.t 127) (.t 122)⟩,
 ⟨some 128, none, .ixs 2 (.t 115) (.t 117)⟩,
 ⟨none, none, .st 2 (.t 128) (.t 126)⟩]))
 (.reg [⟨some 111, none, .mv (.t 17)⟩,
 ⟨some 112, none, .bin .sub false (.t 111) (.k (.sc (.int .i64 1))) (pu (.binOp .sub 3 (.tmp 111) (.const (.int .i64 1)) 3) 3)⟩,
 ⟨some 17, none, .mv (.t 112)⟩]))))))
 .ret))))
 .skip))
 (.seq (.reg [⟨some 129, none, .mv (.t 1)⟩,
 ⟨some 130, none, .mv (.t 3)⟩,
 ⟨some 131, none, .bin .add false (.t 129) (.t 130) (pu (.binOp .add 3 (.tmp 129) (.tmp 130) 3) 3)⟩,
 ⟨some 132, none, .pur (pu (.convert 3 74 (.tmp 131)) 74)⟩,
 ⟨some 133, none, .bin .shr false (.t 132) (.k (.sc (.int .u64 1))) (pu (.binOp .shr 74 (.tmp 132) (.const (.int .u64 1)) 74) 74)⟩,
 ⟨some 134, none, .pur (pu (.convert 74 3 (.tmp 133)) 3)⟩,
 ⟨some 18, none, .mv (.t 134)⟩])
 (.seq (.reg [⟨some 135, none, .mv (.t 18)⟩,
 ⟨some 136, none, .mv (.t 2)⟩,
 ⟨some 137, none, .bin .add false (.t 135) (.t 136) (pu (.binOp .add 3 (.tmp 135) (.tmp 136) 3) 3)⟩,
 ⟨some 19, none, .mv (.t 137)⟩])
 (.seq (.reg [⟨some 20, none, .mv (.k (.sc (.int .i64 0)))⟩,
 ⟨some 21, none, .mv (.k (.sc (.int .i64 0)))⟩])
 (.seq (.seq (.reg [⟨some 138, none, .mv (.t 2)⟩,
 ⟨some 139, none, .mv (.t 18)⟩,
 ⟨some 140, none, .bin .gtr false (.t 138) (.t 139) (pu (.binOp .gtr 3 (.tmp 138) (.tmp 139) 3) 4)⟩])
 (.cond (.t 140) (.seq (.reg [⟨some 141, none, .mv (.t 19)⟩,
 ⟨some 142, none, .mv (.t 3)⟩,
 ⟨some 143, none, .bin .sub false (.t 141) (.t 142) (pu (.binOp .sub 3 (.tmp 141) (.tmp 142) 3) 3)⟩,
 ⟨some 20, none, .mv (.t 143)⟩])
 (.reg [⟨some 144, none, .mv (.t 18)⟩,
 ⟨some 21, none, .mv (.t 144)⟩]))
 (.seq (.reg [⟨some 145, none, .mv (.t 1)⟩,
 ⟨some 20, none, .mv (.t 145)⟩])
 (.reg [⟨some 146, none, .mv (.t 2)⟩,
 ⟨some 21, none, .mv (.t 146)⟩]))))
 (.seq (.reg [⟨some 147, none, .mv (.t 19)⟩,
 ⟨some 148, none, .bin .sub false (.t 147) (.k (.sc (.int .i64 1))) (pu (.binOp .sub 3 (.tmp 147) (.const (.int .i64 1)) 3) 3)⟩,
 ⟨some 22, none, .mv (.t 148)⟩])
 (.seq (.block 8 (.loop (.seq (.seq (.reg [⟨some 149, none, .mv (.t 20)⟩,
 ⟨some 150, none, .mv (.t 21)⟩,
 ⟨some 151, none, .bin .lss false (.t 149) (.t 150) (pu (.binOp .lss 3 (.tmp 149) (.tmp 150) 3) 4)⟩])
 (.cond (.t 151) .skip
 (.exit 8)))
 (.block 9 (.seq (.reg [⟨some 152, none, .mv (.t 20)⟩,
 ⟨some 153, none, .mv (.t 21)⟩,
 ⟨some 154, none, .bin .add false (.t 152) (.t 153) (pu (.binOp .add 3 (.tmp 152) (.tmp 153) 3) 3)⟩,
 ⟨some 155, none, .pur (pu (.convert 3 74 (.tmp 154)) 74)⟩,
 ⟨some 156, none, .bin .shr false (.t 155) (.k (.sc (.int .u64 1))) (pu (.binOp .shr 74 (.tmp 155) (.const (.int .u64 1)) 74) 74)⟩,
 ⟨some 157, none, .pur (pu (.convert 74 3 (.tmp 156)) 3)⟩,
 ⟨some 23, none, .mv (.t 157)⟩])
 (.seq (.drw [0, 0, 0, 0, 12, 30, 62, 0, 0, 384, 896, 2047, 4095, 8191] [⟨some 158, none, .mv (.t 4)⟩,
 ⟨some 159, none, .mv (.t 0)⟩,
 ⟨some 160, none, .mv (.t 22)⟩,
 ⟨some 161, none, .mv (.t 23)⟩,
 ⟨some 162, none, .bin .sub false (.t 160) (.t 161) (pu (.binOp .sub 3 (.tmp 160) (.tmp 161) 3) 3)⟩,
 ⟨some 163, none, .ixs 2 (.t 159) (.t 162)⟩,
 ⟨some 164, none, .ld (some 2) (.t 163)⟩,
 ⟨some 165, none, .mv (.t 0)⟩,
 ⟨some 166, none, .mv (.t 23)⟩,
 ⟨some 167, none, .ixs 2 (.t 165) (.t 166)⟩,
 ⟨some 168, none, .ld (some 2) (.t 167)⟩,
 ⟨some 169, none, .callv (.t 158) [(.t 164), (.t 168)]⟩,
 ⟨some 170, none, .bin .lss false (.t 169) (.k (.sc (.int .i64 0))) (pu (.binOp .lss 3 (.tmp 169) (.const (.int .i64 0)) 3) 4)⟩,
 ⟨some 171, none, .un .not (.t 170) (pu (.unOp .not 4 (.tmp 170)) 4)⟩])
 (.cond (.t 171) (.reg [⟨some 172, none, .mv (.t 23)⟩,
 ⟨some 173, none, .bin .add false (.t 172) (.k (.sc (.int .i64 1))) (pu (.binOp .add 3 (.tmp 172) (.const (.int .i64 1)) 3) 3)⟩,
 ⟨some 20, none, .mv (.t 173)⟩])
 (.reg [⟨some 174, none, .mv (.t 23)⟩,
 ⟨some 21, none, .mv (.t 174)⟩]))))))))
 (.seq (.reg [⟨some 175, none, .mv (.t 19)⟩,
 ⟨some 176, none, .mv (.t 20)⟩,
 ⟨some 177, none, .bin .sub false (.t 175) (.t 176) (pu (.binOp .sub 3 (.tmp 175) (.tmp 176) 3) 3)⟩,
 ⟨some 24, none, .mv (.t 177)⟩])
 (.seq (.seq (.reg [⟨some 178, none, .mv (.t 20)⟩,
 ⟨some 179, none, .mv (.t 2)⟩,
 ⟨some 180, none, .bin .lss false (.t 178) (.t 179) (pu (.binOp .lss 3 (.tmp 178) (.tmp 179) 3) 4)⟩,
 ⟨some 181, none, .mv (.t 180)⟩,
 ⟨some 182, (some ((some 181), true)), .mv (.t 2)⟩,
 ⟨some 183, (some ((some 181), true)), .mv (.t 24)⟩,
 ⟨some 184, (some ((some 181), true)), .bin .lss false (.t 182) (.t 183) (pu (.binOp .lss 3 (.tmp 182) (.tmp 183) 3) 4)⟩,
 ⟨some 185, none, .pick (.t 181) (.t 184) (.k (.sc (.bool false)))⟩])
 (.cond (.t 185) (.reg [⟨some 186, none, .mv (.t 0)⟩,
 ⟨some 187, none, .mv (.t 20)⟩,
 ⟨some 188, none, .mv (.t 2)⟩,
 ⟨some 189, none, .mv (.t 24)⟩,
 ⟨some 190, none, .mv (.t 4)⟩,
 ⟨some 191, none, .call 61 [(.t 186), (.t 187), (.t 188), (.t 189), (.t 190)]⟩])
 .skip))
 (.seq (.seq (.reg [⟨some 192, none, .mv (.t 1)⟩,
 ⟨some 193, none, .mv (.t 20)⟩,
 ⟨some 194, none, .bin .lss false (.t 192) (.t 193) (pu (.binOp .lss 3 (.tmp 192) (.tmp 193) 3) 4)⟩,
 ⟨some 195, none, .mv (.t 194)⟩,
 ⟨some 196, (some ((some 195), true)), .mv (.t 20)⟩,
 ⟨some 197, (some ((some 195), true)), .mv (.t 18)⟩,
 ⟨some 198, (some ((some 195), true)), .bin .lss false (.t 196) (.t 197) (pu (.binOp .lss 3 (.tmp 196) (.tmp 197) 3) 4)⟩,
 ⟨some 199, none, .pick (.t 195) (.t 198) (.k (.sc (.bool false)))⟩])
 (.cond (.t 199) (.reg [⟨some 200, none, .mv (.t 0)⟩,
 ⟨some 201, none, .mv (.t 1)⟩,
 ⟨some 202, none, .mv (.t 20)⟩,
 ⟨some 203, none, .mv (.t 18)⟩,
 ⟨some 204, none, .mv (.t 4)⟩,
 ⟨some 205, none, .call 51 [(.t 200), (.t 201), (.t 202), (.t 203), (.t 204)]⟩])
 .skip))
 (.seq (.reg [⟨some 206, none, .mv (.t 18)⟩,
 ⟨some 207, none, .mv (.t 24)⟩,
 ⟨some 208, none, .bin .lss false (.t 206) (.t 207) (pu (.binOp .lss 3 (.tmp 206) (.tmp 207) 3) 4)⟩,
 ⟨some 209, none, .mv (.t 208)⟩,
 ⟨some 210, (some ((some 209), true)), .mv (.t 24)⟩,
 ⟨some 211, (some ((some 209), true)), .mv (.t 3)⟩,
 ⟨some 212, (some ((some 209), true)), .bin .lss false (.t 210) (.t 211) (pu (.binOp .lss 3 (.tmp 210) (.tmp 211) 3) 4)⟩,
 ⟨some 213, none, .pick (.t 209) (.t 212) (.k (.sc (.bool false)))⟩])
 (.cond (.t 213) (.reg [⟨some 214, none, .mv (.t 0)⟩,
 ⟨some 215, none, .mv (.t 18)⟩,
 ⟨some 216, none, .mv (.t 24)⟩,
 ⟨some 217, none, .mv (.t 3)⟩,
 ⟨some 218, none, .mv (.t 4)⟩,
 ⟨some 219, none, .call 51 [(.t 214), (.t 215), (.t 216), (.t 217), (.t 218)]⟩])
 .skip)))))))))))))
def k51 : List Nat := [0, 1, 2, 3, 4, 10, 11, 12, 13, 14, 15, 16, 17, 18, 19, 20, 21, 22, 23, 24, 28, 33, 50, 58, 80, 85, 103, 110, 140, 151, 171, 185, 199, 213]
theorem ic51 : factsI Tryd.prog 51 = some (220, [], c51) := by kernel_rfl
def c61 : IC :=
 (.seq (.reg [⟨some 12, none, .mv (.t 2)⟩,
 ⟨some 13, none, .mv (.t 1)⟩,
 ⟨some 14, none, .bin .sub false (.t 12) (.t 13) (pu (.binOp .sub 3 (.tmp 12) (.tmp 13) 3) 3)⟩,
 ⟨some 10, none, .mv (.t 14)⟩])
 (.seq (.reg [⟨some 15, none, .mv (.t 3)⟩,
 ⟨some 16, none, .mv (.t 2)⟩,
 ⟨some 17, none, .bin .sub false (.t 15) (.t 16) (pu (.binOp .sub 3 (.tmp 15) (.tmp 16) 3) 3)⟩,
 ⟨some 11, none, .mv (.t 17)⟩])
 (.seq (.block 0 (.loop (.seq (.seq (.reg [⟨some 18, none, .mv (.t 10)⟩,
 ⟨some 19, none, .mv (.t 11)⟩,
 ⟨some 20, none, .bin .neq false (.t 18) (.t 19) (pu (.binOp .neq 3 (.tmp 18) (.tmp 19) 3) 4)⟩])
 (.cond (.t 20) .skip
 (.exit 0)))
 (.block 1 (.seq (.reg [⟨some 21, none, .mv (.t 10)⟩,
 ⟨some 22, none, .mv (.t 11)⟩,
 ⟨some 23, none, .bin .gtr false (.t 21) (.t 22) (pu (.binOp .gtr 3 (.tmp 21) (.tmp 22) 3) 4)⟩])
 (.cond (.t 23) (.seq (.reg [⟨some 24, none, .mv (.t 0)⟩,
 ⟨some 25, none, .mv (.t 2)⟩,
 ⟨some 26, none, .mv (.t 10)⟩,
 ⟨some 27, none, .bin .sub false (.t 25) (.t 26) (pu (.binOp .sub 3 (.tmp 25) (.tmp 26) 3) 3)⟩,
 ⟨some 28, none, .mv (.t 2)⟩,
 ⟨some 29, none, .mv (.t 11)⟩,
 ⟨some 30, none, .mv (.t 4)⟩,
 ⟨some 31, none, .call 71 [(.t 24), (.t 27), (.t 28), (.t 29), (.t 30)]⟩])
 (.reg [⟨some 32, none, .mv (.t 10)⟩,
 ⟨some 33, none, .mv (.t 11)⟩,
 ⟨some 34, none, .bin .sub false (.t 32) (.t 33) (pu (.binOp .sub 3 (.tmp 32) (.tmp 33) 3) 3)⟩,
 ⟨some 10, none, .mv (.t 34)⟩]))
 (.seq (.reg [⟨some 35, none, .mv (.t 0)⟩,
 ⟨some 36, none, .mv (.t 2)⟩,
 ⟨some 37, none, .mv (.t 10)⟩,
 ⟨some 38, none, .bin .sub false (.t 36) (.t 37) (pu (.binOp .sub 3 (.tmp 36) (.tmp 37) 3) 3)⟩,
 ⟨some 39, none, .mv (.t 2)⟩,
 ⟨some 40, none, .mv (.t 11)⟩,
 ⟨some 41, none, .bin .add false (.t 39) (.t 40) (pu (.binOp .add 3 (.tmp 39) (.tmp 40) 3) 3)⟩,
 ⟨some 42, none, .mv (.t 10)⟩,
 ⟨some 43, none, .bin .sub false (.t 41) (.t 42) (pu (.binOp .sub 3 (.tmp 41) (.tmp 42) 3) 3)⟩,
 ⟨some 44, none, .mv (.t 10)⟩,
 ⟨some 45, none, .mv (.t 4)⟩,
 ⟨some 46, none, .call 71 [(.t 35), (.t 38), (.t 43), (.t 44), (.t 45)]⟩])
 (.reg [⟨some 47, none, .mv (.t 11)⟩,
 ⟨some 48, none, .mv (.t 10)⟩,
 ⟨some 49, none, .bin .sub false (.t 47) (.t 48) (pu (.binOp .sub 3 (.tmp 47) (.tmp 48) 3) 3)⟩,
 ⟨some 11, none, .mv (.t 49)⟩]))))))))
 (.reg [⟨some 50, none, .mv (.t 0)⟩,
 ⟨some 51, none, .mv (.t 2)⟩,
 ⟨some 52, none, .mv (.t 10)⟩,
 ⟨some 53, none, .bin .sub false (.t 51) (.t 52) (pu (.binOp .sub 3 (.tmp 51) (.tmp 52) 3) 3)⟩,
 ⟨some 54, none, .mv (.t 2)⟩,
 ⟨some 55, none, .mv (.t 10)⟩,
 ⟨some 56, none, .mv (.t 4)⟩,
 ⟨some 57, none, .call 71 [(.t 50), (.t 53), (.t 54), (.t 55), (.t 56)]⟩]))))
def k61 : List Nat := [0, 1, 2, 3, 4, 10, 11, 20, 23]
theorem ic61 : factsI Tryd.prog 61 = some (58, [], c61) := by kernel_rfl
def c71 : IC :=
 (.seq (.reg [⟨some 10, none, .mv (.k (.sc (.int .i64 0)))⟩])
 (.block 0 (.loop (.seq (.seq (.reg [⟨some 11, none, .mv (.t 10)⟩,
 ⟨some 12, none, .mv (.t 3)⟩,
 ⟨some 13, none, .bin .lss false (.t 11) (.t 12) (pu (.binOp .lss 3 (.tmp 11) (.tmp 12) 3) 4)⟩])
 (.cond (.t 13) .skip
 (.exit 0)))
 (.seq (.block 1 (.drw [0, 0, 0, 6, 0, 0, 0, 96, 0, 0, 0, 1536, 3840, 7936, 0, 0, 0, 98304, 245760, 507904, 1048335, 2096911, 4194303, 8388607] [⟨some 16, none, .mv (.t 0)⟩,
 ⟨some 17, none, .mv (.t 1)⟩,
 ⟨some 18, none, .mv (.t 10)⟩,
 ⟨some 19, none, .bin .add false (.t 17) (.t 18) (pu (.binOp .add 3 (.tmp 17) (.tmp 18) 3) 3)⟩,
 ⟨some 20, none, .mv (.t 0)⟩,
 ⟨some 21, none, .mv (.t 2)⟩,
 ⟨some 22, none, .mv (.t 10)⟩,
 ⟨some 23, none, .bin .add false (.t 21) (.t 22) (pu (.binOp .add 3 (.tmp 21) (.tmp 22) 3) 3)⟩,
 ⟨some 24, none, .mv (.t 0)⟩,
 ⟨some 25, none, .mv (.t 2)⟩,
 ⟨some 26, none, .mv (.t 10)⟩,
 ⟨some 27, none, .bin .add false (.t 25) (.t 26) (pu (.binOp .add 3 (.tmp 25) (.tmp 26) 3) 3)⟩,
 ⟨some 28, none, .ixs 2 (.t 24) (.t 27)⟩,
 ⟨some 29, none, .ld (some 2) (.t 28)⟩,
 ⟨some 30, none, .mv (.t 0)⟩,
 ⟨some 31, none, .mv (.t 1)⟩,
 ⟨some 32, none, .mv (.t 10)⟩,
 ⟨some 33, none, .bin .add false (.t 31) (.t 32) (pu (.binOp .add 3 (.tmp 31) (.tmp 32) 3) 3)⟩,
 ⟨some 34, none, .ixs 2 (.t 30) (.t 33)⟩,
 ⟨some 35, none, .ld (some 2) (.t 34)⟩,
 ⟨some 36, none, .ixs 2 (.t 16) (.t 19)⟩,
 ⟨none, none, .st 2 (.t 36) (.t 29)⟩,
 ⟨some 37, none, .ixs 2 (.t 20) (.t 23)⟩,
 ⟨none, none, .st 2 (.t 37) (.t 35)⟩]))
 (.reg [⟨some 14, none, .mv (.t 10)⟩,
 ⟨some 15, none, .bin .add false (.t 14) (.k (.sc (.int .i64 1))) (pu (.binOp .add 3 (.tmp 14) (.const (.int .i64 1)) 3) 3)⟩,
 ⟨some 10, none, .mv (.t 15)⟩]))))))
def k71 : List Nat := [0, 1, 2, 3, 10, 13]
theorem ic71 : factsI Tryd.prog 71 = some (38, [], c71) := by kernel_rfl
end Go.Proofs.YtfmeplnoikfndaaDoor
