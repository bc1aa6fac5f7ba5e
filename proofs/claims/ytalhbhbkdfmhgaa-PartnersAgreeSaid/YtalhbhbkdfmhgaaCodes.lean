import Derived.Test.YtalhbhbkdfmhgaaRows
import Derived.Test.YtalhbhbkdfmhgaaIdlM4
namespace Go.Proofs.Ytalhbhbkdfmhgaa
open Go.Idl
def c3 : IC :=
 (.seq (.reg [⟨some 2, none, .mv (.k (.sc (.bool false)))⟩])
 (.seq (.seq (.reg [⟨some 16, none, .mv (.t 0)⟩,
 ⟨some 17, none, .len (.t 16) (pu (.call ⟨.builtin .len, #[(.tmp 16)], #[22]⟩) 3)⟩,
 ⟨some 18, none, .bin .gtr false (.t 17) (.k (.sc (.int .i64 10))) (pu (.binOp .gtr 3 (.tmp 17) (.const (.int .i64 10)) 3) 4)⟩])
 (.cond (.t 18) (.seq (.reg [⟨some 2, none, .mv (.k (.sc (.bool true)))⟩])
 .ret)
 .skip))
 (.seq (.reg [⟨some 20, none, .call 4 [(.k (.sc (.string ⟨#[65]⟩)))]⟩,
 ⟨some 19, none, .mv (.t 20)⟩,
 ⟨some 21, none, .ext (.t 19) 0⟩,
 ⟨some 22, none, .ext (.t 19) 1⟩,
 ⟨some 3, none, .al (.agg [.sc (.string ⟨#[]⟩), .sc (.string ⟨#[]⟩), .sc (.slice none 0 0), .sc (.slice none 0 0), .sc (.int .i64 0), .sc (.slice none 0 0), .sc (.slice none 0 0)]) 7⟩,
 ⟨none, none, .st 7 (.t 3) (.t 21)⟩,
 ⟨some 4, none, .mv (.t 22)⟩])
 (.seq (.reg [⟨some 24, none, .call 4 [(.k (.sc (.string ⟨#[66]⟩)))]⟩,
 ⟨some 23, none, .mv (.t 24)⟩,
 ⟨some 25, none, .ext (.t 23) 0⟩,
 ⟨some 26, none, .ext (.t 23) 1⟩,
 ⟨some 5, none, .al (.agg [.sc (.string ⟨#[]⟩), .sc (.string ⟨#[]⟩), .sc (.slice none 0 0), .sc (.slice none 0 0), .sc (.int .i64 0), .sc (.slice none 0 0), .sc (.slice none 0 0)]) 7⟩,
 ⟨none, none, .st 7 (.t 5) (.t 25)⟩,
 ⟨some 6, none, .mv (.t 26)⟩])
 (.seq (.seq (.reg [⟨some 27, none, .mv (.t 4)⟩,
 ⟨some 28, none, .bin .neq false (.t 27) (.k (.sc (.int .i64 0))) (pu (.binOp .neq 31 (.tmp 27) (.const (.int .i64 0)) 31) 4)⟩,
 ⟨some 29, none, .mv (.t 28)⟩,
 ⟨some 30, (some ((some 29), false)), .mv (.t 6)⟩,
 ⟨some 31, (some ((some 29), false)), .bin .neq false (.t 30) (.k (.sc (.int .i64 0))) (pu (.binOp .neq 31 (.tmp 30) (.const (.int .i64 0)) 31) 4)⟩,
 ⟨some 32, none, .pick (.t 29) (.k (.sc (.bool true))) (.t 31)⟩])
 (.cond (.t 32) (.seq (.reg [⟨some 2, none, .mv (.k (.sc (.bool false)))⟩])
 .ret)
 .skip))
 (.seq (.reg [⟨some 7, none, .mv (.k (.sc (.int .i64 0)))⟩])
 (.seq (.seq (.reg [⟨some 33, none, .mv (.t 0)⟩,
 ⟨some 34, none, .len (.t 33) (pu (.call ⟨.builtin .len, #[(.tmp 33)], #[22]⟩) 3)⟩,
 ⟨some 35, none, .mv (.k (.sc (.int .i64 0)))⟩])
 (.block 0 (.loop (.seq (.reg [⟨some 36, none, .bin .lss false (.t 35) (.t 34) (pu (.binOp .lss 3 (.tmp 35) (.tmp 34) 3) 0)⟩])
 (.seq (.cond (.t 36) .skip
 (.exit 0))
 (.seq (.block 1 (.seq (.reg [⟨some 37, none, .mv (.t 35)⟩,
 ⟨some 38, none, .ixs 5 (.t 33) (.t 35)⟩,
 ⟨some 39, none, .ld (some 5) (.t 38)⟩,
 ⟨some 9, none, .al (.agg [.sc (.bool false), .sc (.int .u16 0), .sc (.int .u16 0), .sc (.int .u16 0), .sc (.bool false)]) 5⟩,
 ⟨some 8, none, .mv (.t 37)⟩,
 ⟨none, none, .st 5 (.t 9) (.t 39)⟩])
 (.seq (.reg [⟨some 40, none, .mv (.t 8)⟩,
 ⟨some 41, none, .ld (some 5) (.t 9)⟩,
 ⟨some 42, none, .call 5 [(.t 40), (.t 41)]⟩,
 ⟨some 10, none, .al (.agg [.sc (.string ⟨#[]⟩), .sc (.string ⟨#[]⟩), .sc (.string ⟨#[]⟩), .sc (.string ⟨#[]⟩), .sc (.int .i64 0), .sc (.int .i64 0), .sc (.int .i64 0), .sc (.int .i64 0), .sc (.string ⟨#[]⟩), .sc (.string ⟨#[]⟩), .sc (.slice none 0 0), .sc (.int .i64 0), .sc (.bool false), .sc (.string ⟨#[]⟩)]) 14⟩,
 ⟨none, none, .st 14 (.t 10) (.t 42)⟩])
 (.seq (.seq (.reg [⟨some 43, none, .sh 0 (.t 9)⟩,
 ⟨some 44, none, .ld none (.t 43)⟩])
 (.cond (.t 44) (.reg [⟨some 46, none, .ld (some 7) (.t 5)⟩,
 ⟨some 47, none, .ld (some 14) (.t 10)⟩,
 ⟨some 48, none, .call 6 [(.t 46), (.t 47)]⟩,
 ⟨some 45, none, .mv (.t 48)⟩,
 ⟨some 49, none, .ext (.t 45) 0⟩,
 ⟨some 50, none, .ext (.t 45) 1⟩,
 ⟨none, none, .st 7 (.t 5) (.t 49)⟩,
 ⟨some 4, none, .mv (.t 50)⟩])
 (.reg [⟨some 52, none, .ld (some 7) (.t 3)⟩,
 ⟨some 53, none, .ld (some 14) (.t 10)⟩,
 ⟨some 54, none, .call 6 [(.t 52), (.t 53)]⟩,
 ⟨some 51, none, .mv (.t 54)⟩,
 ⟨some 55, none, .ext (.t 51) 0⟩,
 ⟨some 56, none, .ext (.t 51) 1⟩,
 ⟨none, none, .st 7 (.t 3) (.t 55)⟩,
 ⟨some 4, none, .mv (.t 56)⟩])))
 (.seq (.seq (.reg [⟨some 57, none, .mv (.t 4)⟩,
 ⟨some 58, none, .bin .neq false (.t 57) (.k (.sc (.int .i64 0))) (pu (.binOp .neq 31 (.tmp 57) (.const (.int .i64 0)) 31) 4)⟩])
 (.cond (.t 58) (.seq (.reg [⟨some 2, none, .mv (.k (.sc (.bool false)))⟩])
 .ret)
 .skip))
 (.seq (.reg [⟨some 59, none, .sh 11 (.t 10)⟩,
 ⟨some 60, none, .ld none (.t 59)⟩,
 ⟨some 11, none, .mv (.t 60)⟩])
 (.seq (.seq (.reg [⟨some 61, none, .sh 4 (.t 9)⟩,
 ⟨some 62, none, .ld none (.t 61)⟩])
 (.cond (.t 62) (.seq (.reg [⟨some 64, none, .ld (some 14) (.t 10)⟩,
 ⟨some 65, none, .sh 0 (.t 10)⟩,
 ⟨some 66, none, .ld none (.t 65)⟩,
 ⟨some 67, none, .bin .add false (.k (.sc (.string ⟨#[107]⟩))) (.t 66) (pu (.binOp .add 9 (.const (.string ⟨#[107]⟩)) (.tmp 66) 9) 9)⟩,
 ⟨some 68, none, .call 7 [(.t 64), (.t 67)]⟩,
 ⟨some 63, none, .mv (.t 68)⟩,
 ⟨some 69, none, .ext (.t 63) 0⟩,
 ⟨some 70, none, .ext (.t 63) 1⟩,
 ⟨some 12, none, .al (.agg [.sc (.string ⟨#[]⟩), .sc (.string ⟨#[]⟩), .sc (.string ⟨#[]⟩), .sc (.string ⟨#[]⟩), .sc (.int .i64 0), .sc (.int .i64 0), .sc (.int .i64 0), .sc (.int .i64 0), .sc (.string ⟨#[]⟩), .sc (.string ⟨#[]⟩), .sc (.slice none 0 0), .sc (.int .i64 0), .sc (.bool false), .sc (.string ⟨#[]⟩)]) 14⟩,
 ⟨none, none, .st 14 (.t 12) (.t 69)⟩,
 ⟨some 13, none, .mv (.t 70)⟩])
 (.seq (.seq (.reg [⟨some 71, none, .mv (.t 13)⟩,
 ⟨some 72, none, .bin .neq false (.t 71) (.k (.sc (.int .i64 0))) (pu (.binOp .neq 31 (.tmp 71) (.const (.int .i64 0)) 31) 4)⟩])
 (.cond (.t 72) (.seq (.reg [⟨some 2, none, .mv (.k (.sc (.bool false)))⟩])
 .ret)
 .skip))
 (.seq (.seq (.reg [⟨some 73, none, .sh 0 (.t 9)⟩,
 ⟨some 74, none, .ld none (.t 73)⟩])
 (.cond (.t 74) (.reg [⟨some 76, none, .ld (some 7) (.t 5)⟩,
 ⟨some 77, none, .ld (some 14) (.t 12)⟩,
 ⟨some 78, none, .call 6 [(.t 76), (.t 77)]⟩,
 ⟨some 75, none, .mv (.t 78)⟩,
 ⟨some 79, none, .ext (.t 75) 0⟩,
 ⟨some 80, none, .ext (.t 75) 1⟩,
 ⟨none, none, .st 7 (.t 5) (.t 79)⟩,
 ⟨some 13, none, .mv (.t 80)⟩])
 (.reg [⟨some 82, none, .ld (some 7) (.t 3)⟩,
 ⟨some 83, none, .ld (some 14) (.t 12)⟩,
 ⟨some 84, none, .call 6 [(.t 82), (.t 83)]⟩,
 ⟨some 81, none, .mv (.t 84)⟩,
 ⟨some 85, none, .ext (.t 81) 0⟩,
 ⟨some 86, none, .ext (.t 81) 1⟩,
 ⟨none, none, .st 7 (.t 3) (.t 85)⟩,
 ⟨some 13, none, .mv (.t 86)⟩])))
 (.seq (.seq (.reg [⟨some 87, none, .mv (.t 13)⟩,
 ⟨some 88, none, .bin .neq false (.t 87) (.k (.sc (.int .i64 0))) (pu (.binOp .neq 31 (.tmp 87) (.const (.int .i64 0)) 31) 4)⟩])
 (.cond (.t 88) (.seq (.reg [⟨some 2, none, .mv (.k (.sc (.bool false)))⟩])
 .ret)
 .skip))
 (.reg [⟨some 11, none, .mv (.k (.sc (.int .i64 0)))⟩])))))
 .skip))
 (.seq (.seq (.reg [⟨some 89, none, .sh 0 (.t 9)⟩,
 ⟨some 90, none, .ld none (.t 89)⟩])
 (.cond (.t 90) (.reg [⟨some 91, none, .mv (.t 11)⟩,
 ⟨some 92, none, .un .neg (.t 91) (pu (.unOp .neg 3 (.tmp 91)) 3)⟩,
 ⟨some 11, none, .mv (.t 92)⟩])
 .skip))
 (.reg [⟨some 93, none, .mv (.t 7)⟩,
 ⟨some 94, none, .mv (.t 11)⟩,
 ⟨some 95, none, .bin .add false (.t 93) (.t 94) (pu (.binOp .add 3 (.tmp 93) (.tmp 94) 3) 3)⟩,
 ⟨some 7, none, .mv (.t 95)⟩])))))))))
 (.reg [⟨some 96, none, .bin .add false (.t 35) (.k (.sc (.int .i64 1))) (pu (.binOp .add 3 (.tmp 35) (.const (.int .i64 1)) 3) 3)⟩,
 ⟨some 35, none, .mv (.t 96)⟩])))))))
 (.seq (.seq (.reg [⟨some 98, none, .ld (some 7) (.t 3)⟩,
 ⟨some 99, none, .ld (some 7) (.t 5)⟩,
 ⟨some 100, none, .call 8 [(.t 98), (.t 99)]⟩,
 ⟨some 97, none, .mv (.t 100)⟩,
 ⟨some 101, none, .ext (.t 97) 0⟩,
 ⟨some 102, none, .ext (.t 97) 1⟩,
 ⟨some 103, none, .ext (.t 97) 2⟩,
 ⟨none, none, .st 7 (.t 3) (.t 101)⟩,
 ⟨none, none, .st 7 (.t 5) (.t 102)⟩,
 ⟨some 4, none, .mv (.t 103)⟩])
 (.seq (.reg [⟨some 104, none, .mv (.t 4)⟩,
 ⟨some 105, none, .bin .neq false (.t 104) (.k (.sc (.int .i64 0))) (pu (.binOp .neq 31 (.tmp 104) (.const (.int .i64 0)) 31) 4)⟩])
 (.cond (.t 105) (.seq (.reg [⟨some 2, none, .mv (.k (.sc (.bool false)))⟩])
 .ret)
 .skip)))
 (.seq (.reg [⟨some 107, none, .ld (some 7) (.t 3)⟩,
 ⟨some 108, none, .ld (some 7) (.t 5)⟩,
 ⟨some 109, none, .mv (.t 0)⟩,
 ⟨some 110, none, .call 9 [(.t 107), (.t 108), (.t 109)]⟩,
 ⟨some 106, none, .mv (.t 110)⟩,
 ⟨some 111, none, .ext (.t 106) 0⟩,
 ⟨some 112, none, .ext (.t 106) 1⟩,
 ⟨some 113, none, .ext (.t 106) 2⟩,
 ⟨some 114, none, .ext (.t 106) 3⟩,
 ⟨none, none, .st 7 (.t 3) (.t 111)⟩,
 ⟨none, none, .st 7 (.t 5) (.t 112)⟩,
 ⟨some 14, none, .mv (.t 113)⟩,
 ⟨some 15, none, .mv (.t 114)⟩])
 (.seq (.reg [⟨some 115, none, .mv (.t 15)⟩,
 ⟨some 116, none, .mv (.t 115)⟩,
 ⟨some 117, (some ((some 116), true)), .ld (some 7) (.t 3)⟩,
 ⟨some 118, (some ((some 116), true)), .ld (some 7) (.t 5)⟩,
 ⟨some 119, (some ((some 116), true)), .call 10 [(.t 117), (.t 118)]⟩,
 ⟨some 120, none, .pick (.t 116) (.t 119) (.k (.sc (.bool false)))⟩,
 ⟨some 121, none, .mv (.t 120)⟩,
 ⟨some 122, (some ((some 121), true)), .ld (some 7) (.t 5)⟩,
 ⟨some 123, (some ((some 121), true)), .ld (some 7) (.t 3)⟩,
 ⟨some 124, (some ((some 121), true)), .call 10 [(.t 122), (.t 123)]⟩,
 ⟨some 125, none, .pick (.t 121) (.t 124) (.k (.sc (.bool false)))⟩,
 ⟨some 126, none, .mv (.t 125)⟩,
 ⟨some 127, (some ((some 126), true)), .ld (some 7) (.t 3)⟩,
 ⟨some 128, (some ((some 126), true)), .ld (some 7) (.t 5)⟩,
 ⟨some 129, (some ((some 126), true)), .mv (.t 7)⟩,
 ⟨some 130, (some ((some 126), true)), .mv (.t 14)⟩,
 ⟨some 131, (some ((some 126), true)), .bin .sub false (.t 129) (.t 130) (pu (.binOp .sub 3 (.tmp 129) (.tmp 130) 3) 3)⟩,
 ⟨some 132, (some ((some 126), true)), .call 11 [(.t 127), (.t 128), (.t 131)]⟩,
 ⟨some 133, none, .pick (.t 126) (.t 132) (.k (.sc (.bool false)))⟩,
 ⟨some 2, none, .mv (.t 133)⟩])
 .ret))))))))))
def k3 : List Nat := [0, 2, 3, 4, 5, 6, 7, 8, 9, 10, 11, 12, 13, 14, 15, 18, 32, 33, 34, 35, 36, 44, 58, 62, 72, 74, 88, 90, 105]
theorem ic3 : factsI Try.prog 3 = some (134, [.tmp 2], c3) := by kernel_rfl
def c4 : IC :=
 (.seq (.reg [⟨some 2, none, .al (.agg [.sc (.string ⟨#[]⟩), .sc (.string ⟨#[]⟩), .sc (.slice none 0 0), .sc (.slice none 0 0), .sc (.int .i64 0), .sc (.slice none 0 0), .sc (.slice none 0 0)]) 7⟩,
 ⟨some 3, none, .mv (.k (.sc (.int .i64 0)))⟩])
 (.seq (.seq (.reg [⟨some 6, none, .mv (.t 0)⟩,
 ⟨some 7, none, .call 12 [(.t 6)]⟩,
 ⟨some 8, none, .un .not (.t 7) (pu (.unOp .not 4 (.tmp 7)) 4)⟩])
 (.cond (.t 8) (.seq (.reg [⟨some 9, none, .bld [.sc (.string ⟨#[]⟩), .sc (.string ⟨#[]⟩), .sc (.slice none 0 0), .sc (.slice none 0 0), .sc (.int .i64 0), .sc (.slice none 0 0), .sc (.slice none 0 0)] []⟩,
 ⟨none, none, .st 7 (.t 2) (.t 9)⟩,
 ⟨some 3, none, .mv (.k (.sc (.int .i64 4)))⟩])
 .ret)
 .skip))
 (.seq (.reg [⟨some 11, none, .mv (.t 0)⟩,
 ⟨some 12, none, .call 13 [(.t 11)]⟩,
 ⟨some 10, none, .mv (.t 12)⟩,
 ⟨some 13, none, .ext (.t 10) 0⟩,
 ⟨some 14, none, .ext (.t 10) 1⟩,
 ⟨some 4, none, .al (.agg [.sc (.string ⟨#[]⟩), .sc (.slice none 0 0), .sc (.slice none 0 0), .sc (.int .i64 0)]) 4⟩,
 ⟨none, none, .st 4 (.t 4) (.t 13)⟩,
 ⟨some 5, none, .mv (.t 14)⟩])
 (.seq (.seq (.reg [⟨some 15, none, .mv (.t 5)⟩,
 ⟨some 16, none, .bin .neq false (.t 15) (.k (.sc (.int .i64 0))) (pu (.binOp .neq 31 (.tmp 15) (.const (.int .i64 0)) 31) 4)⟩])
 (.cond (.t 16) (.seq (.reg [⟨some 17, none, .bld [.sc (.string ⟨#[]⟩), .sc (.string ⟨#[]⟩), .sc (.slice none 0 0), .sc (.slice none 0 0), .sc (.int .i64 0), .sc (.slice none 0 0), .sc (.slice none 0 0)] []⟩,
 ⟨some 18, none, .mv (.t 5)⟩,
 ⟨none, none, .st 7 (.t 2) (.t 17)⟩,
 ⟨some 3, none, .mv (.t 18)⟩])
 .ret)
 .skip))
 (.seq (.reg [⟨some 19, none, .mv (.t 0)⟩,
 ⟨some 20, none, .ld (some 4) (.t 4)⟩,
 ⟨some 21, none, .bld [.sc (.string ⟨#[]⟩), .sc (.string ⟨#[]⟩), .sc (.slice none 0 0), .sc (.slice none 0 0), .sc (.int .i64 0), .sc (.slice none 0 0), .sc (.slice none 0 0)] [(0, 1, (.t 19)), (1, 4, (.t 20))]⟩,
 ⟨none, none, .st 7 (.t 2) (.t 21)⟩,
 ⟨some 3, none, .mv (.k (.sc (.int .i64 0)))⟩])
 .ret)))))
def k4 : List Nat := [0, 2, 3, 4, 5, 8, 16]
theorem ic4 : factsI Try.prog 4 = some (22, [.cell 2 30, .tmp 3], c4) := by kernel_rfl
def c5 : IC :=
 (.seq (.reg [⟨some 3, none, .bx (.t 1)⟩,
 ⟨some 4, none, .al (.agg [.sc (.string ⟨#[]⟩), .sc (.string ⟨#[]⟩), .sc (.string ⟨#[]⟩), .sc (.string ⟨#[]⟩), .sc (.int .i64 0), .sc (.int .i64 0), .sc (.int .i64 0), .sc (.int .i64 0), .sc (.string ⟨#[]⟩), .sc (.string ⟨#[]⟩), .sc (.slice none 0 0), .sc (.int .i64 0), .sc (.bool false), .sc (.string ⟨#[]⟩)]) 14⟩])
 (.seq (.reg [⟨some 7, none, .sh 1 (.t 3)⟩,
 ⟨some 8, none, .ld none (.t 7)⟩,
 ⟨some 9, none, .pur (pu (.convert 34 3 (.tmp 8)) 3)⟩,
 ⟨some 5, none, .mv (.t 9)⟩])
 (.seq (.reg [⟨some 10, none, .mv (.t 0)⟩,
 ⟨some 11, none, .bin .add false (.k (.sc (.int .i64 48))) (.t 10) (pu (.binOp .add 3 (.const (.int .i64 48)) (.tmp 10) 3) 3)⟩,
 ⟨some 12, none, .pur (pu (.convert 3 5 (.tmp 11)) 5)⟩,
 ⟨some 13, none, .bsl 1 1 false [.sc (.int .u8 0)] [(0, 1, (.t 12))]⟩,
 ⟨some 14, none, .pur (pu (.convert 54 9 (.tmp 13)) 9)⟩,
 ⟨some 15, none, .bin .add false (.k (.sc (.string ⟨#[99]⟩))) (.t 14) (pu (.binOp .add 9 (.const (.string ⟨#[99]⟩)) (.tmp 14) 9) 9)⟩,
 ⟨some 16, none, .mv (.t 0)⟩,
 ⟨some 17, none, .bin .add false (.k (.sc (.int .i64 48))) (.t 16) (pu (.binOp .add 3 (.const (.int .i64 48)) (.tmp 16) 3) 3)⟩,
 ⟨some 18, none, .pur (pu (.convert 3 5 (.tmp 17)) 5)⟩,
 ⟨some 19, none, .bsl 1 1 false [.sc (.int .u8 0)] [(0, 1, (.t 18))]⟩,
 ⟨some 20, none, .pur (pu (.convert 54 9 (.tmp 19)) 9)⟩,
 ⟨some 21, none, .bin .add false (.k (.sc (.string ⟨#[83, 45]⟩))) (.t 20) (pu (.binOp .add 9 (.const (.string ⟨#[83, 45]⟩)) (.tmp 20) 9) 9)⟩,
 ⟨some 22, none, .mv (.t 0)⟩,
 ⟨some 23, none, .mv (.t 0)⟩,
 ⟨some 24, none, .bin .add false (.t 23) (.k (.sc (.int .i64 30))) (pu (.binOp .add 3 (.tmp 23) (.const (.int .i64 30)) 3) 3)⟩,
 ⟨some 25, none, .mv (.t 5)⟩,
 ⟨some 26, none, .mv (.t 5)⟩,
 ⟨some 27, none, .bld [.sc (.string ⟨#[]⟩), .sc (.string ⟨#[]⟩), .sc (.string ⟨#[]⟩), .sc (.string ⟨#[]⟩), .sc (.int .i64 0), .sc (.int .i64 0), .sc (.int .i64 0), .sc (.int .i64 0), .sc (.string ⟨#[]⟩), .sc (.string ⟨#[]⟩), .sc (.slice none 0 0), .sc (.int .i64 0), .sc (.bool false), .sc (.string ⟨#[]⟩)] [(0, 1, (.t 15)), (1, 1, (.k (.sc (.string ⟨#[65]⟩)))), (2, 1, (.k (.sc (.string ⟨#[66]⟩)))), (3, 1, (.t 21)), (4, 1, (.k (.sc (.int .i64 1)))), (5, 1, (.t 22)), (6, 1, (.t 24)), (7, 1, (.t 25)), (8, 1, (.k (.sc (.string ⟨#[84]⟩)))), (9, 1, (.k (.sc (.string ⟨#[69, 85, 82]⟩)))), (11, 1, (.t 26))]⟩,
 ⟨some 6, none, .al (.agg [.sc (.string ⟨#[]⟩), .sc (.string ⟨#[]⟩), .sc (.string ⟨#[]⟩), .sc (.string ⟨#[]⟩), .sc (.int .i64 0), .sc (.int .i64 0), .sc (.int .i64 0), .sc (.int .i64 0), .sc (.string ⟨#[]⟩), .sc (.string ⟨#[]⟩), .sc (.slice none 0 0), .sc (.int .i64 0), .sc (.bool false), .sc (.string ⟨#[]⟩)]) 14⟩,
 ⟨none, none, .st 14 (.t 6) (.t 27)⟩])
 (.seq (.reg [⟨some 28, none, .mv (.t 5)⟩,
 ⟨some 29, none, .mv (.t 5)⟩,
 ⟨some 30, none, .mv (.t 5)⟩,
 ⟨some 31, none, .bld [.sc (.int .i64 0), .sc (.int .i64 0), .sc (.int .i64 0), .sc (.int .i64 0), .sc (.int .i64 0), .sc (.int .i64 0), .sc (.int .i64 0)] [(0, 1, (.k (.sc (.int .i64 2)))), (1, 1, (.k (.sc (.int .i64 300)))), (3, 1, (.t 28)), (4, 1, (.t 29)), (6, 1, (.t 30))]⟩,
 ⟨some 32, none, .bsl 7 1 true [.sc (.int .i64 0), .sc (.int .i64 0), .sc (.int .i64 0), .sc (.int .i64 0), .sc (.int .i64 0), .sc (.int .i64 0), .sc (.int .i64 0)] [(0, 7, (.t 31))]⟩,
 ⟨some 33, none, .sh 10 (.t 6)⟩,
 ⟨none, none, .st 1 (.t 33) (.t 32)⟩])
 (.seq (.seq (.reg [⟨some 34, none, .sh 0 (.t 3)⟩,
 ⟨some 35, none, .ld none (.t 34)⟩])
 (.cond (.t 35) (.reg [⟨some 36, none, .sh 1 (.t 6)⟩,
 ⟨none, none, .st 1 (.t 36) (.k (.sc (.string ⟨#[66]⟩)))⟩,
 ⟨some 37, none, .sh 2 (.t 6)⟩,
 ⟨none, none, .st 1 (.t 37) (.k (.sc (.string ⟨#[65]⟩)))⟩])
 .skip))
 (.seq (.reg [⟨some 38, none, .ld (some 14) (.t 6)⟩,
 ⟨none, none, .st 14 (.t 4) (.t 38)⟩])
 .ret))))))
def k5 : List Nat := [0, 1, 3, 4, 5, 6, 35]
theorem ic5 : factsI Try.prog 5 = some (39, [.cell 4 39], c5) := by kernel_rfl
def c6 : IC :=
 (.seq (.reg [⟨some 2, none, .bx (.t 0)⟩,
 ⟨some 3, none, .bx (.t 1)⟩,
 ⟨some 4, none, .al (.agg [.sc (.string ⟨#[]⟩), .sc (.string ⟨#[]⟩), .sc (.slice none 0 0), .sc (.slice none 0 0), .sc (.int .i64 0), .sc (.slice none 0 0), .sc (.slice none 0 0)]) 7⟩,
 ⟨some 5, none, .mv (.k (.sc (.int .i64 0)))⟩])
 (.seq (.seq (.reg [⟨some 10, none, .ld (some 7) (.t 2)⟩,
 ⟨some 11, none, .call 14 [(.t 10)]⟩,
 ⟨some 6, none, .mv (.t 11)⟩])
 (.seq (.reg [⟨some 12, none, .mv (.t 6)⟩,
 ⟨some 13, none, .bin .neq false (.t 12) (.k (.sc (.int .i64 0))) (pu (.binOp .neq 31 (.tmp 12) (.const (.int .i64 0)) 31) 4)⟩])
 (.cond (.t 13) (.seq (.reg [⟨some 14, none, .ld (some 7) (.t 2)⟩,
 ⟨some 15, none, .mv (.t 6)⟩,
 ⟨none, none, .st 7 (.t 4) (.t 14)⟩,
 ⟨some 5, none, .mv (.t 15)⟩])
 .ret)
 .skip)))
 (.seq (.seq (.reg [⟨some 16, none, .ld (some 14) (.t 3)⟩,
 ⟨some 17, none, .call 15 [(.t 16)]⟩,
 ⟨some 7, none, .mv (.t 17)⟩])
 (.seq (.reg [⟨some 18, none, .mv (.t 7)⟩,
 ⟨some 19, none, .bin .neq false (.t 18) (.k (.sc (.int .i64 0))) (pu (.binOp .neq 31 (.tmp 18) (.const (.int .i64 0)) 31) 4)⟩])
 (.cond (.t 19) (.seq (.reg [⟨some 20, none, .ld (some 7) (.t 2)⟩,
 ⟨some 21, none, .mv (.t 7)⟩,
 ⟨none, none, .st 7 (.t 4) (.t 20)⟩,
 ⟨some 5, none, .mv (.t 21)⟩])
 .ret)
 .skip)))
 (.seq (.seq (.reg [⟨some 22, none, .sh 1 (.t 3)⟩,
 ⟨some 23, none, .ld none (.t 22)⟩,
 ⟨some 24, none, .sh 0 (.t 2)⟩,
 ⟨some 25, none, .ld none (.t 24)⟩,
 ⟨some 26, none, .bin .neq false (.t 23) (.t 25) (pu (.binOp .neq 9 (.tmp 23) (.tmp 25) 9) 4)⟩])
 (.cond (.t 26) (.seq (.reg [⟨some 27, none, .ld (some 7) (.t 2)⟩,
 ⟨none, none, .st 7 (.t 4) (.t 27)⟩,
 ⟨some 5, none, .mv (.k (.sc (.int .i64 15)))⟩])
 .ret)
 .skip))
 (.seq (.seq (.reg [⟨some 28, none, .ld (some 7) (.t 2)⟩,
 ⟨some 29, none, .sh 0 (.t 3)⟩,
 ⟨some 30, none, .ld none (.t 29)⟩,
 ⟨some 31, none, .call 16 [(.t 28), (.t 30)]⟩,
 ⟨some 32, none, .bin .geq false (.t 31) (.k (.sc (.int .i64 0))) (pu (.binOp .geq 3 (.tmp 31) (.const (.int .i64 0)) 3) 4)⟩])
 (.cond (.t 32) (.seq (.reg [⟨some 33, none, .ld (some 7) (.t 2)⟩,
 ⟨none, none, .st 7 (.t 4) (.t 33)⟩,
 ⟨some 5, none, .mv (.k (.sc (.int .i64 9)))⟩])
 .ret)
 .skip))
 (.seq (.seq (.reg [⟨some 34, none, .sh 12 (.t 3)⟩,
 ⟨some 35, none, .ld none (.t 34)⟩])
 (.cond (.t 35) (.seq (.reg [⟨some 36, none, .ld (some 7) (.t 2)⟩,
 ⟨some 37, none, .ld (some 14) (.t 3)⟩,
 ⟨some 38, none, .call 17 [(.t 36), (.t 37)]⟩,
 ⟨some 8, none, .mv (.t 38)⟩])
 (.seq (.reg [⟨some 39, none, .mv (.t 8)⟩,
 ⟨some 40, none, .bin .neq false (.t 39) (.k (.sc (.int .i64 0))) (pu (.binOp .neq 31 (.tmp 39) (.const (.int .i64 0)) 31) 4)⟩])
 (.cond (.t 40) (.seq (.reg [⟨some 41, none, .ld (some 7) (.t 2)⟩,
 ⟨some 42, none, .mv (.t 8)⟩,
 ⟨none, none, .st 7 (.t 4) (.t 41)⟩,
 ⟨some 5, none, .mv (.t 42)⟩])
 .ret)
 .skip)))
 .skip))
 (.seq (.seq (.reg [⟨some 43, none, .sh 5 (.t 2)⟩,
 ⟨some 44, none, .ld none (.t 43)⟩,
 ⟨some 45, none, .len (.t 44) (pu (.call ⟨.builtin .len, #[(.tmp 44)], #[27]⟩) 3)⟩,
 ⟨some 46, none, .bin .geq false (.t 45) (.k (.sc (.int .i64 256))) (pu (.binOp .geq 3 (.tmp 45) (.const (.int .i64 256)) 3) 4)⟩])
 (.cond (.t 46) (.seq (.reg [⟨some 47, none, .ld (some 7) (.t 2)⟩,
 ⟨none, none, .st 7 (.t 4) (.t 47)⟩,
 ⟨some 5, none, .mv (.k (.sc (.int .i64 3)))⟩])
 .ret)
 .skip))
 (.seq (.reg [⟨some 48, none, .ld (some 7) (.t 2)⟩,
 ⟨some 49, none, .call 18 [(.t 48)]⟩,
 ⟨some 9, none, .al (.agg [.sc (.string ⟨#[]⟩), .sc (.string ⟨#[]⟩), .sc (.slice none 0 0), .sc (.slice none 0 0), .sc (.int .i64 0), .sc (.slice none 0 0), .sc (.slice none 0 0)]) 7⟩,
 ⟨none, none, .st 7 (.t 9) (.t 49)⟩])
 (.seq (.drw [0, 1, 0, 4, 12, 31, 63, 127] [⟨some 50, none, .sh 5 (.t 9)⟩,
 ⟨some 51, none, .ld none (.t 50)⟩,
 ⟨some 52, none, .ld (some 14) (.t 3)⟩,
 ⟨some 53, none, .call 19 [(.t 52)]⟩,
 ⟨some 54, none, .bsl 14 1 true [.sc (.string ⟨#[]⟩), .sc (.string ⟨#[]⟩), .sc (.string ⟨#[]⟩), .sc (.string ⟨#[]⟩), .sc (.int .i64 0), .sc (.int .i64 0), .sc (.int .i64 0), .sc (.int .i64 0), .sc (.string ⟨#[]⟩), .sc (.string ⟨#[]⟩), .sc (.slice none 0 0), .sc (.int .i64 0), .sc (.bool false), .sc (.string ⟨#[]⟩)] [(0, 14, (.t 53))]⟩,
 ⟨some 55, none, .app 14 184 (.t 51) (.t 54)⟩,
 ⟨some 56, none, .sh 5 (.t 9)⟩,
 ⟨none, none, .st 1 (.t 56) (.t 55)⟩])
 (.seq (.reg [⟨some 57, none, .ld (some 7) (.t 9)⟩,
 ⟨none, none, .st 7 (.t 4) (.t 57)⟩,
 ⟨some 5, none, .mv (.k (.sc (.int .i64 0)))⟩])
 .ret))))))))))
def k6 : List Nat := [0, 1, 2, 3, 4, 5, 6, 7, 8, 9, 13, 19, 26, 32, 35, 40, 46]
theorem ic6 : factsI Try.prog 6 = some (58, [.cell 4 30, .tmp 5], c6) := by kernel_rfl
def c7 : IC :=
 (.seq (.reg [⟨some 2, none, .bx (.t 0)⟩,
 ⟨some 4, none, .al (.agg [.sc (.string ⟨#[]⟩), .sc (.string ⟨#[]⟩), .sc (.string ⟨#[]⟩), .sc (.string ⟨#[]⟩), .sc (.int .i64 0), .sc (.int .i64 0), .sc (.int .i64 0), .sc (.int .i64 0), .sc (.string ⟨#[]⟩), .sc (.string ⟨#[]⟩), .sc (.slice none 0 0), .sc (.int .i64 0), .sc (.bool false), .sc (.string ⟨#[]⟩)]) 14⟩,
 ⟨some 5, none, .mv (.k (.sc (.int .i64 0)))⟩])
 (.seq (.seq (.reg [⟨some 8, none, .ld (some 14) (.t 2)⟩,
 ⟨some 9, none, .call 15 [(.t 8)]⟩,
 ⟨some 6, none, .mv (.t 9)⟩])
 (.seq (.reg [⟨some 10, none, .mv (.t 6)⟩,
 ⟨some 11, none, .bin .neq false (.t 10) (.k (.sc (.int .i64 0))) (pu (.binOp .neq 31 (.tmp 10) (.const (.int .i64 0)) 31) 4)⟩])
 (.cond (.t 11) (.seq (.reg [⟨some 12, none, .bld [.sc (.string ⟨#[]⟩), .sc (.string ⟨#[]⟩), .sc (.string ⟨#[]⟩), .sc (.string ⟨#[]⟩), .sc (.int .i64 0), .sc (.int .i64 0), .sc (.int .i64 0), .sc (.int .i64 0), .sc (.string ⟨#[]⟩), .sc (.string ⟨#[]⟩), .sc (.slice none 0 0), .sc (.int .i64 0), .sc (.bool false), .sc (.string ⟨#[]⟩)] []⟩,
 ⟨some 13, none, .mv (.t 6)⟩,
 ⟨none, none, .st 14 (.t 4) (.t 12)⟩,
 ⟨some 5, none, .mv (.t 13)⟩])
 .ret)
 .skip)))
 (.seq (.seq (.reg [⟨some 14, none, .sh 12 (.t 2)⟩,
 ⟨some 15, none, .ld none (.t 14)⟩])
 (.cond (.t 15) (.seq (.reg [⟨some 16, none, .bld [.sc (.string ⟨#[]⟩), .sc (.string ⟨#[]⟩), .sc (.string ⟨#[]⟩), .sc (.string ⟨#[]⟩), .sc (.int .i64 0), .sc (.int .i64 0), .sc (.int .i64 0), .sc (.int .i64 0), .sc (.string ⟨#[]⟩), .sc (.string ⟨#[]⟩), .sc (.slice none 0 0), .sc (.int .i64 0), .sc (.bool false), .sc (.string ⟨#[]⟩)] []⟩,
 ⟨none, none, .st 14 (.t 4) (.t 16)⟩,
 ⟨some 5, none, .mv (.k (.sc (.int .i64 10)))⟩])
 .ret)
 .skip))
 (.seq (.seq (.reg [⟨some 17, none, .mv (.t 1)⟩,
 ⟨some 18, none, .call 12 [(.t 17)]⟩,
 ⟨some 19, none, .un .not (.t 18) (pu (.unOp .not 4 (.tmp 18)) 4)⟩])
 (.cond (.t 19) (.seq (.reg [⟨some 20, none, .bld [.sc (.string ⟨#[]⟩), .sc (.string ⟨#[]⟩), .sc (.string ⟨#[]⟩), .sc (.string ⟨#[]⟩), .sc (.int .i64 0), .sc (.int .i64 0), .sc (.int .i64 0), .sc (.int .i64 0), .sc (.string ⟨#[]⟩), .sc (.string ⟨#[]⟩), .sc (.slice none 0 0), .sc (.int .i64 0), .sc (.bool false), .sc (.string ⟨#[]⟩)] []⟩,
 ⟨none, none, .st 14 (.t 4) (.t 20)⟩,
 ⟨some 5, none, .mv (.k (.sc (.int .i64 4)))⟩])
 .ret)
 .skip))
 (.seq (.seq (.reg [⟨some 21, none, .mv (.t 1)⟩,
 ⟨some 22, none, .sh 0 (.t 2)⟩,
 ⟨some 23, none, .ld none (.t 22)⟩,
 ⟨some 24, none, .bin .eql false (.t 21) (.t 23) (pu (.binOp .eql 9 (.tmp 21) (.tmp 23) 9) 4)⟩])
 (.cond (.t 24) (.seq (.reg [⟨some 25, none, .bld [.sc (.string ⟨#[]⟩), .sc (.string ⟨#[]⟩), .sc (.string ⟨#[]⟩), .sc (.string ⟨#[]⟩), .sc (.int .i64 0), .sc (.int .i64 0), .sc (.int .i64 0), .sc (.int .i64 0), .sc (.string ⟨#[]⟩), .sc (.string ⟨#[]⟩), .sc (.slice none 0 0), .sc (.int .i64 0), .sc (.bool false), .sc (.string ⟨#[]⟩)] []⟩,
 ⟨none, none, .st 14 (.t 4) (.t 25)⟩,
 ⟨some 5, none, .mv (.k (.sc (.int .i64 9)))⟩])
 .ret)
 .skip))
 (.seq (.reg [⟨some 26, none, .ld (some 14) (.t 2)⟩,
 ⟨some 7, none, .al (.agg [.sc (.string ⟨#[]⟩), .sc (.string ⟨#[]⟩), .sc (.string ⟨#[]⟩), .sc (.string ⟨#[]⟩), .sc (.int .i64 0), .sc (.int .i64 0), .sc (.int .i64 0), .sc (.int .i64 0), .sc (.string ⟨#[]⟩), .sc (.string ⟨#[]⟩), .sc (.slice none 0 0), .sc (.int .i64 0), .sc (.bool false), .sc (.string ⟨#[]⟩)]) 14⟩,
 ⟨none, none, .st 14 (.t 7) (.t 26)⟩])
 (.seq (.drw [0, 0, 2, 1, 9, 31, 63, 127, 255] [⟨some 27, none, .mv (.t 1)⟩,
 ⟨some 28, none, .sh 0 (.t 2)⟩,
 ⟨some 29, none, .ld none (.t 28)⟩,
 ⟨some 30, none, .sh 0 (.t 7)⟩,
 ⟨none, none, .st 1 (.t 30) (.t 27)⟩,
 ⟨some 31, none, .sh 13 (.t 7)⟩,
 ⟨none, none, .st 1 (.t 31) (.t 29)⟩,
 ⟨some 32, none, .sh 12 (.t 7)⟩,
 ⟨none, none, .st 1 (.t 32) (.k (.sc (.bool true)))⟩])
 (.seq (.drw [0, 1, 3, 0, 8, 24, 7, 71, 255, 511] [⟨some 33, none, .sh 10 (.t 2)⟩,
 ⟨some 34, none, .ld none (.t 33)⟩,
 ⟨some 35, none, .call 20 [(.t 34)]⟩,
 ⟨some 36, none, .sh 11 (.t 2)⟩,
 ⟨some 37, none, .ld none (.t 36)⟩,
 ⟨some 38, none, .un .neg (.t 37) (pu (.unOp .neg 3 (.tmp 37)) 3)⟩,
 ⟨some 39, none, .sh 10 (.t 7)⟩,
 ⟨none, none, .st 1 (.t 39) (.t 35)⟩,
 ⟨some 40, none, .sh 11 (.t 7)⟩,
 ⟨none, none, .st 1 (.t 40) (.t 38)⟩])
 (.seq (.reg [⟨some 41, none, .ld (some 14) (.t 7)⟩,
 ⟨none, none, .st 14 (.t 4) (.t 41)⟩,
 ⟨some 5, none, .mv (.k (.sc (.int .i64 0)))⟩])
 .ret)))))))))
def k7 : List Nat := [0, 1, 2, 4, 5, 6, 7, 11, 15, 19, 24]
theorem ic7 : factsI Try.prog 7 = some (42, [.cell 4 39, .tmp 5], c7) := by kernel_rfl
def c8 : IC :=
 (.seq (.reg [⟨some 2, none, .bx (.t 0)⟩,
 ⟨some 3, none, .bx (.t 1)⟩,
 ⟨some 4, none, .al (.agg [.sc (.string ⟨#[]⟩), .sc (.string ⟨#[]⟩), .sc (.slice none 0 0), .sc (.slice none 0 0), .sc (.int .i64 0), .sc (.slice none 0 0), .sc (.slice none 0 0)]) 7⟩,
 ⟨some 5, none, .al (.agg [.sc (.string ⟨#[]⟩), .sc (.string ⟨#[]⟩), .sc (.slice none 0 0), .sc (.slice none 0 0), .sc (.int .i64 0), .sc (.slice none 0 0), .sc (.slice none 0 0)]) 7⟩,
 ⟨some 6, none, .mv (.k (.sc (.int .i64 0)))⟩])
 (.seq (.seq (.reg [⟨some 13, none, .ld (some 7) (.t 2)⟩,
 ⟨some 14, none, .call 14 [(.t 13)]⟩,
 ⟨some 7, none, .mv (.t 14)⟩])
 (.seq (.reg [⟨some 15, none, .mv (.t 7)⟩,
 ⟨some 16, none, .bin .neq false (.t 15) (.k (.sc (.int .i64 0))) (pu (.binOp .neq 31 (.tmp 15) (.const (.int .i64 0)) 31) 4)⟩])
 (.cond (.t 16) (.seq (.drw [0, 0, 0, 1, 11, 31] [⟨some 17, none, .ld (some 7) (.t 2)⟩,
 ⟨some 18, none, .ld (some 7) (.t 3)⟩,
 ⟨some 19, none, .mv (.t 7)⟩,
 ⟨none, none, .st 7 (.t 4) (.t 17)⟩,
 ⟨none, none, .st 7 (.t 5) (.t 18)⟩,
 ⟨some 6, none, .mv (.t 19)⟩])
 .ret)
 .skip)))
 (.seq (.seq (.reg [⟨some 20, none, .ld (some 7) (.t 3)⟩,
 ⟨some 21, none, .call 14 [(.t 20)]⟩,
 ⟨some 8, none, .mv (.t 21)⟩])
 (.seq (.reg [⟨some 22, none, .mv (.t 8)⟩,
 ⟨some 23, none, .bin .neq false (.t 22) (.k (.sc (.int .i64 0))) (pu (.binOp .neq 31 (.tmp 22) (.const (.int .i64 0)) 31) 4)⟩])
 (.cond (.t 23) (.seq (.drw [0, 0, 0, 1, 11, 31] [⟨some 24, none, .ld (some 7) (.t 2)⟩,
 ⟨some 25, none, .ld (some 7) (.t 3)⟩,
 ⟨some 26, none, .mv (.t 8)⟩,
 ⟨none, none, .st 7 (.t 4) (.t 24)⟩,
 ⟨none, none, .st 7 (.t 5) (.t 25)⟩,
 ⟨some 6, none, .mv (.t 26)⟩])
 .ret)
 .skip)))
 (.seq (.seq (.reg [⟨some 27, none, .sh 0 (.t 2)⟩,
 ⟨some 28, none, .ld none (.t 27)⟩,
 ⟨some 29, none, .sh 0 (.t 3)⟩,
 ⟨some 30, none, .ld none (.t 29)⟩,
 ⟨some 31, none, .bin .eql false (.t 28) (.t 30) (pu (.binOp .eql 9 (.tmp 28) (.tmp 30) 9) 4)⟩])
 (.cond (.t 31) (.seq (.drw [0, 0, 1, 7, 15] [⟨some 32, none, .ld (some 7) (.t 2)⟩,
 ⟨some 33, none, .ld (some 7) (.t 3)⟩,
 ⟨none, none, .st 7 (.t 4) (.t 32)⟩,
 ⟨none, none, .st 7 (.t 5) (.t 33)⟩,
 ⟨some 6, none, .mv (.k (.sc (.int .i64 1)))⟩])
 .ret)
 .skip))
 (.seq (.any [0, 1, 0, 7, 15, 0, 63] [⟨some 34, none, .ld (some 7) (.t 2)⟩,
 ⟨some 35, none, .call 18 [(.t 34)]⟩,
 ⟨some 36, none, .ld (some 7) (.t 3)⟩,
 ⟨some 37, none, .call 18 [(.t 36)]⟩,
 ⟨some 38, none, .bld [.sc (.string ⟨#[]⟩), .sc (.string ⟨#[]⟩), .sc (.slice none 0 0), .sc (.slice none 0 0), .sc (.int .i64 0), .sc (.slice none 0 0), .sc (.slice none 0 0), .sc (.string ⟨#[]⟩), .sc (.string ⟨#[]⟩), .sc (.slice none 0 0), .sc (.slice none 0 0), .sc (.int .i64 0), .sc (.slice none 0 0), .sc (.slice none 0 0)] [(0, 7, (.t 35)), (7, 7, (.t 37))]⟩,
 ⟨some 9, none, .al (.agg [.sc (.string ⟨#[]⟩), .sc (.string ⟨#[]⟩), .sc (.slice none 0 0), .sc (.slice none 0 0), .sc (.int .i64 0), .sc (.slice none 0 0), .sc (.slice none 0 0), .sc (.string ⟨#[]⟩), .sc (.string ⟨#[]⟩), .sc (.slice none 0 0), .sc (.slice none 0 0), .sc (.int .i64 0), .sc (.slice none 0 0), .sc (.slice none 0 0)]) 14⟩,
 ⟨none, none, .st 14 (.t 9) (.t 38)⟩])
 (.seq (.seq (.reg [⟨some 39, none, .mkf (.func 21) [(.t 9)] []⟩,
 ⟨some 40, none, .mkf (.func 22) [(.t 9)] []⟩,
 ⟨some 41, none, .mkf (.func 23) [(.t 9)] []⟩,
 ⟨some 42, none, .mkf (.func 24) [(.t 9)] []⟩,
 ⟨some 43, none, .bsl 1 4 false [(.sc .nilFunc), (.sc .nilFunc), (.sc .nilFunc), (.sc .nilFunc)] [(0, 1, (.t 39)), (1, 1, (.t 40)), (2, 1, (.t 41)), (3, 1, (.t 42))]⟩,
 ⟨some 44, none, .len (.t 43) (pu (.call ⟨.builtin .len, #[(.tmp 43)], #[67]⟩) 3)⟩,
 ⟨some 45, none, .mv (.k (.sc (.int .i64 0)))⟩])
 (.block 0 (.loop (.seq (.reg [⟨some 46, none, .bin .lss false (.t 45) (.t 44) (pu (.binOp .lss 3 (.tmp 45) (.tmp 44) 3) 0)⟩])
 (.seq (.cond (.t 46) .skip
 (.exit 0))
 (.seq (.block 1 (.seq (.reg [⟨some 47, none, .ixs 1 (.t 43) (.t 45)⟩,
 ⟨some 48, none, .ld none (.t 47)⟩,
 ⟨some 11, none, .mv (.t 48)⟩])
 (.seq (.reg [⟨some 49, none, .mv (.t 11)⟩,
 ⟨some 50, none, .callv (.t 49) []⟩,
 ⟨some 12, none, .mv (.t 50)⟩])
 (.seq (.reg [⟨some 51, none, .mv (.t 12)⟩,
 ⟨some 52, none, .bin .neq false (.t 51) (.k (.sc (.int .i64 0))) (pu (.binOp .neq 31 (.tmp 51) (.const (.int .i64 0)) 31) 4)⟩])
 (.cond (.t 52) (.seq (.drw [0, 0, 0, 1, 11, 31] [⟨some 53, none, .ld (some 7) (.t 2)⟩,
 ⟨some 54, none, .ld (some 7) (.t 3)⟩,
 ⟨some 55, none, .mv (.t 12)⟩,
 ⟨none, none, .st 7 (.t 4) (.t 53)⟩,
 ⟨none, none, .st 7 (.t 5) (.t 54)⟩,
 ⟨some 6, none, .mv (.t 55)⟩])
 .ret)
 .skip)))))
 (.reg [⟨some 56, none, .bin .add false (.t 45) (.k (.sc (.int .i64 1))) (pu (.binOp .add 3 (.tmp 45) (.const (.int .i64 1)) 3) 3)⟩,
 ⟨some 45, none, .mv (.t 56)⟩])))))))
 (.seq (.drw [0, 1, 0, 4, 3, 31, 63] [⟨some 57, none, .sh 0 (.t 9)⟩,
 ⟨some 58, none, .ld (some 7) (.t 57)⟩,
 ⟨some 59, none, .sh 7 (.t 9)⟩,
 ⟨some 60, none, .ld (some 7) (.t 59)⟩,
 ⟨none, none, .st 7 (.t 4) (.t 58)⟩,
 ⟨none, none, .st 7 (.t 5) (.t 60)⟩,
 ⟨some 6, none, .mv (.k (.sc (.int .i64 0)))⟩])
 .ret)))))))
def k8 : List Nat := [0, 1, 2, 3, 4, 5, 6, 7, 8, 9, 11, 12, 16, 23, 31, 43, 44, 45, 46, 52]
theorem ic8 : factsI Try.prog 8 = some (61, [.cell 4 30, .cell 5 30, .tmp 6], c8) := by kernel_rfl
def c9 : IC :=
 (.seq (.reg [⟨some 3, none, .bx (.t 0)⟩,
 ⟨some 4, none, .bx (.t 1)⟩,
 ⟨some 6, none, .al (.agg [.sc (.string ⟨#[]⟩), .sc (.string ⟨#[]⟩), .sc (.slice none 0 0), .sc (.slice none 0 0), .sc (.int .i64 0), .sc (.slice none 0 0), .sc (.slice none 0 0)]) 7⟩,
 ⟨some 7, none, .al (.agg [.sc (.string ⟨#[]⟩), .sc (.string ⟨#[]⟩), .sc (.slice none 0 0), .sc (.slice none 0 0), .sc (.int .i64 0), .sc (.slice none 0 0), .sc (.slice none 0 0)]) 7⟩,
 ⟨some 8, none, .mv (.k (.sc (.int .i64 0)))⟩,
 ⟨some 9, none, .mv (.k (.sc (.bool false)))⟩])
 (.seq (.reg [⟨some 10, none, .mv (.k (.sc (.int .i64 0)))⟩])
 (.seq (.seq (.reg [⟨some 17, none, .mv (.t 2)⟩,
 ⟨some 18, none, .len (.t 17) (pu (.call ⟨.builtin .len, #[(.tmp 17)], #[22]⟩) 3)⟩,
 ⟨some 19, none, .mv (.k (.sc (.int .i64 0)))⟩])
 (.block 0 (.loop (.seq (.reg [⟨some 20, none, .bin .lss false (.t 19) (.t 18) (pu (.binOp .lss 3 (.tmp 19) (.tmp 18) 3) 0)⟩])
 (.seq (.cond (.t 20) .skip
 (.exit 0))
 (.seq (.block 1 (.seq (.reg [⟨some 21, none, .mv (.t 19)⟩,
 ⟨some 22, none, .ixs 5 (.t 17) (.t 19)⟩,
 ⟨some 23, none, .ld (some 5) (.t 22)⟩,
 ⟨some 12, none, .al (.agg [.sc (.bool false), .sc (.int .u16 0), .sc (.int .u16 0), .sc (.int .u16 0), .sc (.bool false)]) 5⟩,
 ⟨some 11, none, .mv (.t 21)⟩,
 ⟨none, none, .st 5 (.t 12) (.t 23)⟩])
 (.seq (.seq (.reg [⟨some 24, none, .sh 4 (.t 12)⟩,
 ⟨some 25, none, .ld none (.t 24)⟩,
 ⟨some 26, none, .mv (.t 25)⟩,
 ⟨some 27, (some ((some 26), false)), .sh 2 (.t 12)⟩,
 ⟨some 28, (some ((some 26), false)), .ld none (.t 27)⟩,
 ⟨some 29, (some ((some 26), false)), .bin .lss false (.t 28) (.k (.sc (.int .u16 1))) (pu (.binOp .lss 34 (.tmp 28) (.const (.int .u16 1)) 34) 4)⟩,
 ⟨some 30, none, .pick (.t 26) (.k (.sc (.bool true))) (.t 29)⟩,
 ⟨some 31, none, .mv (.t 30)⟩,
 ⟨some 32, (some ((some 31), false)), .sh 2 (.t 12)⟩,
 ⟨some 33, (some ((some 31), false)), .ld none (.t 32)⟩,
 ⟨some 34, (some ((some 31), false)), .sh 1 (.t 12)⟩,
 ⟨some 35, (some ((some 31), false)), .ld none (.t 34)⟩,
 ⟨some 36, (some ((some 31), false)), .bin .gtr false (.t 33) (.t 35) (pu (.binOp .gtr 34 (.tmp 33) (.tmp 35) 34) 4)⟩,
 ⟨some 37, none, .pick (.t 31) (.k (.sc (.bool true))) (.t 36)⟩])
 (.cond (.t 37) (.exit 1)
 .skip))
 (.seq (.seq (.reg [⟨some 38, none, .sh 0 (.t 12)⟩,
 ⟨some 39, none, .ld none (.t 38)⟩])
 (.cond (.t 39) (.drw [0, 0, 0, 6, 14, 0, 32, 96, 255, 511, 1023, 1023, 2047, 8191] [⟨some 41, none, .ld (some 7) (.t 3)⟩,
 ⟨some 42, none, .mv (.t 11)⟩,
 ⟨some 43, none, .ld (some 5) (.t 12)⟩,
 ⟨some 44, none, .call 5 [(.t 42), (.t 43)]⟩,
 ⟨some 45, none, .fld none 0 (.t 44)⟩,
 ⟨some 46, none, .sh 2 (.t 12)⟩,
 ⟨some 47, none, .ld none (.t 46)⟩,
 ⟨some 48, none, .pur (pu (.convert 34 3 (.tmp 47)) 3)⟩,
 ⟨some 49, none, .call 25 [(.t 41), (.t 45), (.t 48), (.k (.sc (.int .i64 1000)))]⟩,
 ⟨some 40, none, .mv (.t 49)⟩,
 ⟨some 50, none, .ext (.t 40) 0⟩,
 ⟨some 51, none, .ext (.t 40) 1⟩,
 ⟨none, none, .st 7 (.t 3) (.t 50)⟩,
 ⟨some 10, none, .mv (.t 51)⟩])
 (.drw [0, 0, 0, 6, 14, 0, 32, 96, 255, 511, 1023, 1023, 2047, 8191] [⟨some 53, none, .ld (some 7) (.t 4)⟩,
 ⟨some 54, none, .mv (.t 11)⟩,
 ⟨some 55, none, .ld (some 5) (.t 12)⟩,
 ⟨some 56, none, .call 5 [(.t 54), (.t 55)]⟩,
 ⟨some 57, none, .fld none 0 (.t 56)⟩,
 ⟨some 58, none, .sh 2 (.t 12)⟩,
 ⟨some 59, none, .ld none (.t 58)⟩,
 ⟨some 60, none, .pur (pu (.convert 34 3 (.tmp 59)) 3)⟩,
 ⟨some 61, none, .call 25 [(.t 53), (.t 57), (.t 60), (.k (.sc (.int .i64 1000)))]⟩,
 ⟨some 52, none, .mv (.t 61)⟩,
 ⟨some 62, none, .ext (.t 52) 0⟩,
 ⟨some 63, none, .ext (.t 52) 1⟩,
 ⟨none, none, .st 7 (.t 4) (.t 62)⟩,
 ⟨some 10, none, .mv (.t 63)⟩])))
 (.seq (.reg [⟨some 64, none, .mv (.t 10)⟩,
 ⟨some 65, none, .bin .neq false (.t 64) (.k (.sc (.int .i64 0))) (pu (.binOp .neq 31 (.tmp 64) (.const (.int .i64 0)) 31) 4)⟩])
 (.cond (.t 65) (.seq (.drw [0, 0, 1, 7, 15, 31] [⟨some 66, none, .ld (some 7) (.t 3)⟩,
 ⟨some 67, none, .ld (some 7) (.t 4)⟩,
 ⟨none, none, .st 7 (.t 6) (.t 66)⟩,
 ⟨none, none, .st 7 (.t 7) (.t 67)⟩,
 ⟨some 8, none, .mv (.k (.sc (.int .i64 0)))⟩,
 ⟨some 9, none, .mv (.k (.sc (.bool false)))⟩])
 .ret)
 .skip))))))
 (.reg [⟨some 68, none, .bin .add false (.t 19) (.k (.sc (.int .i64 1))) (pu (.binOp .add 3 (.tmp 19) (.const (.int .i64 1)) 3) 3)⟩,
 ⟨some 19, none, .mv (.t 68)⟩])))))))
 (.seq (.seq (.reg [⟨some 70, none, .ld (some 7) (.t 3)⟩,
 ⟨some 71, none, .ld (some 7) (.t 4)⟩,
 ⟨some 72, none, .call 8 [(.t 70), (.t 71)]⟩,
 ⟨some 69, none, .mv (.t 72)⟩,
 ⟨some 73, none, .ext (.t 69) 0⟩,
 ⟨some 74, none, .ext (.t 69) 1⟩,
 ⟨some 75, none, .ext (.t 69) 2⟩,
 ⟨none, none, .st 7 (.t 3) (.t 73)⟩,
 ⟨none, none, .st 7 (.t 4) (.t 74)⟩,
 ⟨some 10, none, .mv (.t 75)⟩])
 (.seq (.reg [⟨some 76, none, .mv (.t 10)⟩,
 ⟨some 77, none, .bin .neq false (.t 76) (.k (.sc (.int .i64 0))) (pu (.binOp .neq 31 (.tmp 76) (.const (.int .i64 0)) 31) 4)⟩])
 (.cond (.t 77) (.seq (.drw [0, 0, 1, 7, 15, 31] [⟨some 78, none, .ld (some 7) (.t 3)⟩,
 ⟨some 79, none, .ld (some 7) (.t 4)⟩,
 ⟨none, none, .st 7 (.t 6) (.t 78)⟩,
 ⟨none, none, .st 7 (.t 7) (.t 79)⟩,
 ⟨some 8, none, .mv (.k (.sc (.int .i64 0)))⟩,
 ⟨some 9, none, .mv (.k (.sc (.bool false)))⟩])
 .ret)
 .skip)))
 (.seq (.reg [⟨some 13, none, .mv (.k (.sc (.int .i64 0)))⟩])
 (.seq (.seq (.reg [⟨some 80, none, .mv (.t 2)⟩,
 ⟨some 81, none, .len (.t 80) (pu (.call ⟨.builtin .len, #[(.tmp 80)], #[22]⟩) 3)⟩,
 ⟨some 82, none, .mv (.k (.sc (.int .i64 0)))⟩])
 (.block 2 (.loop (.seq (.reg [⟨some 83, none, .bin .lss false (.t 82) (.t 81) (pu (.binOp .lss 3 (.tmp 82) (.tmp 81) 3) 0)⟩])
 (.seq (.cond (.t 83) .skip
 (.exit 2))
 (.seq (.block 3 (.seq (.reg [⟨some 84, none, .mv (.t 82)⟩,
 ⟨some 85, none, .ixs 5 (.t 80) (.t 82)⟩,
 ⟨some 86, none, .ld (some 5) (.t 85)⟩,
 ⟨some 15, none, .al (.agg [.sc (.bool false), .sc (.int .u16 0), .sc (.int .u16 0), .sc (.int .u16 0), .sc (.bool false)]) 5⟩,
 ⟨some 14, none, .mv (.t 84)⟩,
 ⟨none, none, .st 5 (.t 15) (.t 86)⟩])
 (.seq (.seq (.reg [⟨some 87, none, .sh 4 (.t 15)⟩,
 ⟨some 88, none, .ld none (.t 87)⟩,
 ⟨some 89, none, .mv (.t 88)⟩,
 ⟨some 90, (some ((some 89), false)), .sh 2 (.t 15)⟩,
 ⟨some 91, (some ((some 89), false)), .ld none (.t 90)⟩,
 ⟨some 92, (some ((some 89), false)), .bin .lss false (.t 91) (.k (.sc (.int .u16 1))) (pu (.binOp .lss 34 (.tmp 91) (.const (.int .u16 1)) 34) 4)⟩,
 ⟨some 93, none, .pick (.t 89) (.k (.sc (.bool true))) (.t 92)⟩,
 ⟨some 94, none, .mv (.t 93)⟩,
 ⟨some 95, (some ((some 94), false)), .sh 2 (.t 15)⟩,
 ⟨some 96, (some ((some 94), false)), .ld none (.t 95)⟩,
 ⟨some 97, (some ((some 94), false)), .sh 1 (.t 15)⟩,
 ⟨some 98, (some ((some 94), false)), .ld none (.t 97)⟩,
 ⟨some 99, (some ((some 94), false)), .bin .gtr false (.t 96) (.t 98) (pu (.binOp .gtr 34 (.tmp 96) (.tmp 98) 34) 4)⟩,
 ⟨some 100, none, .pick (.t 94) (.k (.sc (.bool true))) (.t 99)⟩,
 ⟨some 101, none, .mv (.t 100)⟩,
 ⟨some 102, (some ((some 101), false)), .sh 3 (.t 15)⟩,
 ⟨some 103, (some ((some 101), false)), .ld none (.t 102)⟩,
 ⟨some 104, (some ((some 101), false)), .bin .lss false (.t 103) (.k (.sc (.int .u16 1))) (pu (.binOp .lss 34 (.tmp 103) (.const (.int .u16 1)) 34) 4)⟩,
 ⟨some 105, none, .pick (.t 101) (.k (.sc (.bool true))) (.t 104)⟩,
 ⟨some 106, none, .mv (.t 105)⟩,
 ⟨some 107, (some ((some 106), false)), .sh 3 (.t 15)⟩,
 ⟨some 108, (some ((some 106), false)), .ld none (.t 107)⟩,
 ⟨some 109, (some ((some 106), false)), .sh 2 (.t 15)⟩,
 ⟨some 110, (some ((some 106), false)), .ld none (.t 109)⟩,
 ⟨some 111, (some ((some 106), false)), .bin .gtr false (.t 108) (.t 110) (pu (.binOp .gtr 34 (.tmp 108) (.tmp 110) 34) 4)⟩,
 ⟨some 112, none, .pick (.t 106) (.k (.sc (.bool true))) (.t 111)⟩])
 (.cond (.t 112) (.exit 3)
 .skip))
 (.seq (.reg [⟨some 113, none, .sh 3 (.t 15)⟩,
 ⟨some 114, none, .ld none (.t 113)⟩,
 ⟨some 115, none, .pur (pu (.convert 34 3 (.tmp 114)) 3)⟩,
 ⟨some 16, none, .mv (.t 115)⟩])
 (.seq (.seq (.reg [⟨some 116, none, .sh 0 (.t 15)⟩,
 ⟨some 117, none, .ld none (.t 116)⟩])
 (.cond (.t 117) (.seq (.drw [0, 0, 0, 6, 14, 0, 63, 127, 255, 255, 511, 2047] [⟨some 119, none, .ld (some 7) (.t 4)⟩,
 ⟨some 120, none, .mv (.t 14)⟩,
 ⟨some 121, none, .ld (some 5) (.t 15)⟩,
 ⟨some 122, none, .call 5 [(.t 120), (.t 121)]⟩,
 ⟨some 123, none, .fld none 0 (.t 122)⟩,
 ⟨some 124, none, .mv (.t 16)⟩,
 ⟨some 125, none, .call 26 [(.t 119), (.t 123), (.k (.sc (.int .i64 3))), (.t 124), (.k (.sc (.int .i64 2000)))]⟩,
 ⟨some 118, none, .mv (.t 125)⟩,
 ⟨some 126, none, .ext (.t 118) 0⟩,
 ⟨some 127, none, .ext (.t 118) 1⟩,
 ⟨none, none, .st 7 (.t 4) (.t 126)⟩,
 ⟨some 10, none, .mv (.t 127)⟩])
 (.reg [⟨some 128, none, .mv (.t 16)⟩,
 ⟨some 129, none, .un .neg (.t 128) (pu (.unOp .neg 3 (.tmp 128)) 3)⟩,
 ⟨some 16, none, .mv (.t 129)⟩]))
 (.drw [0, 0, 0, 6, 14, 0, 63, 127, 255, 255, 511, 2047] [⟨some 131, none, .ld (some 7) (.t 3)⟩,
 ⟨some 132, none, .mv (.t 14)⟩,
 ⟨some 133, none, .ld (some 5) (.t 15)⟩,
 ⟨some 134, none, .call 5 [(.t 132), (.t 133)]⟩,
 ⟨some 135, none, .fld none 0 (.t 134)⟩,
 ⟨some 136, none, .mv (.t 16)⟩,
 ⟨some 137, none, .call 26 [(.t 131), (.t 135), (.k (.sc (.int .i64 3))), (.t 136), (.k (.sc (.int .i64 2000)))]⟩,
 ⟨some 130, none, .mv (.t 137)⟩,
 ⟨some 138, none, .ext (.t 130) 0⟩,
 ⟨some 139, none, .ext (.t 130) 1⟩,
 ⟨none, none, .st 7 (.t 3) (.t 138)⟩,
 ⟨some 10, none, .mv (.t 139)⟩])))
 (.seq (.seq (.reg [⟨some 140, none, .mv (.t 10)⟩,
 ⟨some 141, none, .bin .neq false (.t 140) (.k (.sc (.int .i64 0))) (pu (.binOp .neq 31 (.tmp 140) (.const (.int .i64 0)) 31) 4)⟩])
 (.cond (.t 141) (.seq (.drw [0, 0, 1, 7, 15, 31] [⟨some 142, none, .ld (some 7) (.t 3)⟩,
 ⟨some 143, none, .ld (some 7) (.t 4)⟩,
 ⟨none, none, .st 7 (.t 6) (.t 142)⟩,
 ⟨none, none, .st 7 (.t 7) (.t 143)⟩,
 ⟨some 8, none, .mv (.k (.sc (.int .i64 0)))⟩,
 ⟨some 9, none, .mv (.k (.sc (.bool false)))⟩])
 .ret)
 .skip))
 (.reg [⟨some 144, none, .mv (.t 13)⟩,
 ⟨some 145, none, .mv (.t 16)⟩,
 ⟨some 146, none, .bin .add false (.t 144) (.t 145) (pu (.binOp .add 3 (.tmp 144) (.tmp 145) 3) 3)⟩,
 ⟨some 13, none, .mv (.t 146)⟩])))))))
 (.reg [⟨some 147, none, .bin .add false (.t 82) (.k (.sc (.int .i64 1))) (pu (.binOp .add 3 (.tmp 82) (.const (.int .i64 1)) 3) 3)⟩,
 ⟨some 82, none, .mv (.t 147)⟩])))))))
 (.seq (.reg [⟨some 149, none, .ld (some 7) (.t 3)⟩,
 ⟨some 150, none, .ld (some 7) (.t 4)⟩,
 ⟨some 151, none, .call 8 [(.t 149), (.t 150)]⟩,
 ⟨some 148, none, .mv (.t 151)⟩,
 ⟨some 152, none, .ext (.t 148) 0⟩,
 ⟨some 153, none, .ext (.t 148) 1⟩,
 ⟨some 154, none, .ext (.t 148) 2⟩,
 ⟨none, none, .st 7 (.t 3) (.t 152)⟩,
 ⟨none, none, .st 7 (.t 4) (.t 153)⟩,
 ⟨some 10, none, .mv (.t 154)⟩])
 (.seq (.drw [0, 0, 0, 0, 8, 1, 35, 103, 255] [⟨some 155, none, .ld (some 7) (.t 3)⟩,
 ⟨some 156, none, .ld (some 7) (.t 4)⟩,
 ⟨some 157, none, .mv (.t 13)⟩,
 ⟨some 158, none, .mv (.t 10)⟩,
 ⟨some 159, none, .bin .eql false (.t 158) (.k (.sc (.int .i64 0))) (pu (.binOp .eql 31 (.tmp 158) (.const (.int .i64 0)) 31) 4)⟩,
 ⟨none, none, .st 7 (.t 6) (.t 155)⟩,
 ⟨none, none, .st 7 (.t 7) (.t 156)⟩,
 ⟨some 8, none, .mv (.t 157)⟩,
 ⟨some 9, none, .mv (.t 159)⟩])
 .ret))))))))
def k9 : List Nat := [0, 1, 2, 3, 4, 6, 7, 8, 9, 10, 11, 12, 13, 14, 15, 16, 17, 18, 19, 20, 37, 39, 65, 77, 80, 81, 82, 83, 112, 117, 141]
theorem ic9 : factsI Try.prog 9 = some (160, [.cell 6 30, .cell 7 30, .tmp 8, .tmp 9], c9) := by kernel_rfl
def c10 : IC :=
 (.seq (.reg [⟨some 2, none, .bx (.t 0)⟩,
 ⟨some 3, none, .bx (.t 1)⟩,
 ⟨some 4, none, .mv (.k (.sc (.bool false)))⟩])
 (.seq (.reg [⟨some 23, none, .ld (some 7) (.t 2)⟩,
 ⟨some 24, none, .sh 0 (.t 2)⟩,
 ⟨some 25, none, .ld none (.t 24)⟩,
 ⟨some 26, none, .sh 0 (.t 3)⟩,
 ⟨some 27, none, .ld none (.t 26)⟩,
 ⟨some 28, none, .call 27 [(.t 23), (.t 25), (.t 27)]⟩,
 ⟨some 22, none, .mv (.t 28)⟩,
 ⟨some 29, none, .ext (.t 22) 0⟩,
 ⟨some 30, none, .ext (.t 22) 1⟩,
 ⟨some 5, none, .mv (.t 29)⟩,
 ⟨some 6, none, .mv (.t 30)⟩])
 (.seq (.reg [⟨some 32, none, .ld (some 7) (.t 3)⟩,
 ⟨some 33, none, .sh 0 (.t 2)⟩,
 ⟨some 34, none, .ld none (.t 33)⟩,
 ⟨some 35, none, .sh 0 (.t 3)⟩,
 ⟨some 36, none, .ld none (.t 35)⟩,
 ⟨some 37, none, .call 27 [(.t 32), (.t 34), (.t 36)]⟩,
 ⟨some 31, none, .mv (.t 37)⟩,
 ⟨some 38, none, .ext (.t 31) 0⟩,
 ⟨some 39, none, .ext (.t 31) 1⟩,
 ⟨some 7, none, .mv (.t 38)⟩,
 ⟨some 8, none, .mv (.t 39)⟩])
 (.seq (.seq (.reg [⟨some 40, none, .mv (.t 6)⟩,
 ⟨some 41, none, .mv (.t 8)⟩,
 ⟨some 42, none, .bin .neq false (.t 40) (.t 41) (pu (.binOp .neq 3 (.tmp 40) (.tmp 41) 3) 4)⟩])
 (.cond (.t 42) (.seq (.reg [⟨some 4, none, .mv (.k (.sc (.bool false)))⟩])
 .ret)
 .skip))
 (.seq (.seq (.reg [⟨some 43, none, .mv (.t 5)⟩,
 ⟨some 44, none, .opx (pu (.range 70 (.tmp 43)) 0)⟩])
 (.block 0 (.loop (.seq (.reg [⟨some 45, none, .opx (pu (.next (.tmp 44) false) 0)⟩,
 ⟨some 46, none, .ext (.t 45) 0⟩])
 (.seq (.cond (.t 46) .skip
 (.exit 0))
 (.block 1 (.seq (.reg [⟨some 47, none, .pur (pu (.entry (.tmp 44)) 0)⟩,
 ⟨some 48, none, .ext (.t 47) 0⟩,
 ⟨some 49, none, .ext (.t 47) 1⟩,
 ⟨some 10, none, .al (.agg [.sc (.string ⟨#[]⟩), .sc (.string ⟨#[]⟩), .sc (.string ⟨#[]⟩), .sc (.string ⟨#[]⟩), .sc (.int .i64 0), .sc (.int .i64 0), .sc (.int .i64 0), .sc (.int .i64 0), .sc (.string ⟨#[]⟩), .sc (.string ⟨#[]⟩), .sc (.slice none 0 0), .sc (.int .i64 0), .sc (.bool false), .sc (.string ⟨#[]⟩)]) 14⟩,
 ⟨some 9, none, .mv (.t 48)⟩,
 ⟨none, none, .st 14 (.t 10) (.t 49)⟩])
 (.seq (.reg [⟨some 51, none, .mv (.t 7)⟩,
 ⟨some 52, none, .mv (.t 9)⟩,
 ⟨some 53, none, .mlk false [.s] (.agg [.sc (.string ⟨#[]⟩), .sc (.string ⟨#[]⟩), .sc (.string ⟨#[]⟩), .sc (.string ⟨#[]⟩), .sc (.int .i64 0), .sc (.int .i64 0), .sc (.int .i64 0), .sc (.int .i64 0), .sc (.string ⟨#[]⟩), .sc (.string ⟨#[]⟩), .sc (.slice none 0 0), .sc (.int .i64 0), .sc (.bool false), .sc (.string ⟨#[]⟩)]) true (.t 51) (.t 52) (pu (.lookup 70 (.tmp 51) (.tmp 52) true) 73)⟩,
 ⟨some 50, none, .mv (.t 53)⟩,
 ⟨some 54, none, .ext (.t 50) 0⟩,
 ⟨some 55, none, .ext (.t 50) 1⟩,
 ⟨some 11, none, .al (.agg [.sc (.string ⟨#[]⟩), .sc (.string ⟨#[]⟩), .sc (.string ⟨#[]⟩), .sc (.string ⟨#[]⟩), .sc (.int .i64 0), .sc (.int .i64 0), .sc (.int .i64 0), .sc (.int .i64 0), .sc (.string ⟨#[]⟩), .sc (.string ⟨#[]⟩), .sc (.slice none 0 0), .sc (.int .i64 0), .sc (.bool false), .sc (.string ⟨#[]⟩)]) 14⟩,
 ⟨none, none, .st 14 (.t 11) (.t 54)⟩,
 ⟨some 12, none, .mv (.t 55)⟩])
 (.seq (.reg [⟨some 56, none, .mv (.t 12)⟩,
 ⟨some 57, none, .un .not (.t 56) (pu (.unOp .not 4 (.tmp 56)) 4)⟩,
 ⟨some 58, none, .mv (.t 57)⟩,
 ⟨some 59, (some ((some 58), false)), .ld (some 14) (.t 10)⟩,
 ⟨some 60, (some ((some 58), false)), .ld (some 14) (.t 11)⟩,
 ⟨some 61, (some ((some 58), false)), .call 28 [(.t 59), (.t 60)]⟩,
 ⟨some 62, (some ((some 58), false)), .un .not (.t 61) (pu (.unOp .not 4 (.tmp 61)) 4)⟩,
 ⟨some 63, none, .pick (.t 58) (.k (.sc (.bool true))) (.t 62)⟩])
 (.cond (.t 63) (.seq (.reg [⟨some 4, none, .mv (.k (.sc (.bool false)))⟩])
 .ret)
 .skip))))))))))
 (.seq (.any [0, 0, 2, 0, 8, 31, 0, 0, 128, 0, 512, 2047, 4095, 8191] [⟨some 64, none, .ld (some 7) (.t 2)⟩,
 ⟨some 65, none, .sh 0 (.t 2)⟩,
 ⟨some 66, none, .ld none (.t 65)⟩,
 ⟨some 67, none, .sh 0 (.t 3)⟩,
 ⟨some 68, none, .ld none (.t 67)⟩,
 ⟨some 69, none, .call 29 [(.t 64), (.t 66), (.t 68)]⟩,
 ⟨some 70, none, .ld (some 7) (.t 3)⟩,
 ⟨some 71, none, .sh 0 (.t 2)⟩,
 ⟨some 72, none, .ld none (.t 71)⟩,
 ⟨some 73, none, .sh 0 (.t 3)⟩,
 ⟨some 74, none, .ld none (.t 73)⟩,
 ⟨some 75, none, .call 29 [(.t 70), (.t 72), (.t 74)]⟩,
 ⟨some 13, none, .mv (.t 69)⟩,
 ⟨some 14, none, .mv (.t 75)⟩])
 (.seq (.seq (.reg [⟨some 76, none, .mv (.t 13)⟩,
 ⟨some 77, none, .len (.t 76) (pu (.call ⟨.builtin .len, #[(.tmp 76)], #[28]⟩) 3)⟩,
 ⟨some 78, none, .mv (.t 14)⟩,
 ⟨some 79, none, .len (.t 78) (pu (.call ⟨.builtin .len, #[(.tmp 78)], #[28]⟩) 3)⟩,
 ⟨some 80, none, .bin .neq false (.t 77) (.t 79) (pu (.binOp .neq 3 (.tmp 77) (.tmp 79) 3) 4)⟩])
 (.cond (.t 80) (.seq (.reg [⟨some 4, none, .mv (.k (.sc (.bool false)))⟩])
 .ret)
 .skip))
 (.seq (.reg [⟨some 81, none, .mv (.t 14)⟩,
 ⟨some 82, none, .len (.t 81) (pu (.call ⟨.builtin .len, #[(.tmp 81)], #[28]⟩) 3)⟩,
 ⟨some 83, none, .mmk (some (.t 82))⟩,
 ⟨some 15, none, .mv (.t 83)⟩])
 (.seq (.seq (.reg [⟨some 84, none, .mv (.t 14)⟩,
 ⟨some 85, none, .len (.t 84) (pu (.call ⟨.builtin .len, #[(.tmp 84)], #[28]⟩) 3)⟩,
 ⟨some 86, none, .mv (.k (.sc (.int .i64 0)))⟩])
 (.block 2 (.loop (.seq (.reg [⟨some 87, none, .bin .lss false (.t 86) (.t 85) (pu (.binOp .lss 3 (.tmp 86) (.tmp 85) 3) 0)⟩])
 (.seq (.cond (.t 87) .skip
 (.exit 2))
 (.seq (.block 3 (.seq (.reg [⟨some 88, none, .ixs 6 (.t 84) (.t 86)⟩,
 ⟨some 89, none, .ld (some 6) (.t 88)⟩,
 ⟨some 17, none, .al (.agg [.sc (.string ⟨#[]⟩), .sc (.string ⟨#[]⟩), .sc (.int .i64 0), .sc (.int .i64 0), .sc (.int .i64 0), .sc (.int .i64 0)]) 6⟩,
 ⟨none, none, .st 6 (.t 17) (.t 89)⟩])
 (.reg [⟨some 90, none, .mv (.t 15)⟩,
 ⟨some 91, none, .sh 0 (.t 17)⟩,
 ⟨some 92, none, .ld none (.t 91)⟩,
 ⟨some 93, none, .ld (some 6) (.t 17)⟩,
 ⟨none, none, .mpt false [.s] (.t 90) (.t 92) (.t 93)⟩])))
 (.reg [⟨some 94, none, .bin .add false (.t 86) (.k (.sc (.int .i64 1))) (pu (.binOp .add 3 (.tmp 86) (.const (.int .i64 1)) 3) 3)⟩,
 ⟨some 86, none, .mv (.t 94)⟩])))))))
 (.seq (.seq (.reg [⟨some 95, none, .mv (.t 13)⟩,
 ⟨some 96, none, .len (.t 95) (pu (.call ⟨.builtin .len, #[(.tmp 95)], #[28]⟩) 3)⟩,
 ⟨some 97, none, .mv (.k (.sc (.int .i64 0)))⟩])
 (.block 4 (.loop (.seq (.reg [⟨some 98, none, .bin .lss false (.t 97) (.t 96) (pu (.binOp .lss 3 (.tmp 97) (.tmp 96) 3) 0)⟩])
 (.seq (.cond (.t 98) .skip
 (.exit 4))
 (.seq (.block 5 (.seq (.reg [⟨some 99, none, .ixs 6 (.t 95) (.t 97)⟩,
 ⟨some 100, none, .ld (some 6) (.t 99)⟩,
 ⟨some 19, none, .al (.agg [.sc (.string ⟨#[]⟩), .sc (.string ⟨#[]⟩), .sc (.int .i64 0), .sc (.int .i64 0), .sc (.int .i64 0), .sc (.int .i64 0)]) 6⟩,
 ⟨none, none, .st 6 (.t 19) (.t 100)⟩])
 (.seq (.reg [⟨some 102, none, .mv (.t 15)⟩,
 ⟨some 103, none, .sh 0 (.t 19)⟩,
 ⟨some 104, none, .ld none (.t 103)⟩,
 ⟨some 105, none, .mlk false [.s] (.agg [.sc (.string ⟨#[]⟩), .sc (.string ⟨#[]⟩), .sc (.int .i64 0), .sc (.int .i64 0), .sc (.int .i64 0), .sc (.int .i64 0)]) true (.t 102) (.t 104) (pu (.lookup 76 (.tmp 102) (.tmp 104) true) 79)⟩,
 ⟨some 101, none, .mv (.t 105)⟩,
 ⟨some 106, none, .ext (.t 101) 0⟩,
 ⟨some 107, none, .ext (.t 101) 1⟩,
 ⟨some 20, none, .al (.agg [.sc (.string ⟨#[]⟩), .sc (.string ⟨#[]⟩), .sc (.int .i64 0), .sc (.int .i64 0), .sc (.int .i64 0), .sc (.int .i64 0)]) 6⟩,
 ⟨none, none, .st 6 (.t 20) (.t 106)⟩,
 ⟨some 21, none, .mv (.t 107)⟩])
 (.seq (.reg [⟨some 108, none, .mv (.t 21)⟩,
 ⟨some 109, none, .un .not (.t 108) (pu (.unOp .not 4 (.tmp 108)) 4)⟩,
 ⟨some 110, none, .mv (.t 109)⟩,
 ⟨some 111, (some ((some 110), false)), .ld (some 6) (.t 20)⟩,
 ⟨some 112, (some ((some 110), false)), .ld (some 6) (.t 19)⟩,
 ⟨some 113, (some ((some 110), false)), .bin .neq false (.t 111) (.t 112) (pu (.binOp .neq 78 (.tmp 111) (.tmp 112) 78) 4)⟩,
 ⟨some 114, none, .pick (.t 110) (.k (.sc (.bool true))) (.t 113)⟩])
 (.cond (.t 114) (.seq (.reg [⟨some 4, none, .mv (.k (.sc (.bool false)))⟩])
 .ret)
 .skip)))))
 (.reg [⟨some 115, none, .bin .add false (.t 97) (.k (.sc (.int .i64 1))) (pu (.binOp .add 3 (.tmp 97) (.const (.int .i64 1)) 3) 3)⟩,
 ⟨some 97, none, .mv (.t 115)⟩])))))))
 (.seq (.reg [⟨some 4, none, .mv (.k (.sc (.bool true)))⟩])
 .ret)))))))))))
def k10 : List Nat := [0, 1, 2, 3, 4, 5, 6, 7, 8, 9, 10, 11, 12, 13, 14, 15, 17, 19, 20, 21, 42, 44, 46, 63, 80, 84, 85, 86, 87, 95, 96, 97, 98, 114]
theorem ic10 : factsI Try.prog 10 = some (116, [.tmp 4], c10) := by kernel_rfl
def c11 : IC :=
 (.seq (.reg [⟨some 3, none, .bx (.t 0)⟩,
 ⟨some 4, none, .bx (.t 1)⟩,
 ⟨some 6, none, .mv (.k (.sc (.bool false)))⟩])
 (.seq (.reg [⟨some 12, none, .bld [.sc (.int .i64 0), .sc (.int .i64 0)] [(1, 1, (.k (.sc (.int .i64 268435456))))]⟩,
 ⟨some 7, none, .al (.agg [.sc (.int .i64 0), .sc (.int .i64 0)]) 2⟩,
 ⟨none, none, .st 2 (.t 7) (.t 12)⟩])
 (.seq (.reg [⟨some 14, none, .sh 5 (.t 3)⟩,
 ⟨some 15, none, .ld none (.t 14)⟩,
 ⟨some 16, none, .sh 6 (.t 3)⟩,
 ⟨some 17, none, .ld none (.t 16)⟩,
 ⟨some 18, none, .ld (some 2) (.t 7)⟩,
 ⟨some 19, none, .call 30 [(.t 15), (.t 17), (.k (.sc (.string ⟨#[65]⟩))), (.k (.sc (.string ⟨#[66]⟩))), (.k (.sc (.string ⟨#[69, 85, 82]⟩))), (.t 18)]⟩,
 ⟨some 13, none, .mv (.t 19)⟩,
 ⟨some 20, none, .ext (.t 13) 0⟩,
 ⟨some 21, none, .ext (.t 13) 1⟩,
 ⟨some 8, none, .al (.agg [.sc (.string ⟨#[]⟩), .sc (.string ⟨#[]⟩), .sc (.string ⟨#[]⟩), .sc (.int .i64 0)]) 4⟩,
 ⟨none, none, .st 4 (.t 8) (.t 20)⟩,
 ⟨some 9, none, .mv (.t 21)⟩])
 (.seq (.reg [⟨some 23, none, .sh 5 (.t 4)⟩,
 ⟨some 24, none, .ld none (.t 23)⟩,
 ⟨some 25, none, .sh 6 (.t 4)⟩,
 ⟨some 26, none, .ld none (.t 25)⟩,
 ⟨some 27, none, .ld (some 2) (.t 7)⟩,
 ⟨some 28, none, .call 30 [(.t 24), (.t 26), (.k (.sc (.string ⟨#[65]⟩))), (.k (.sc (.string ⟨#[66]⟩))), (.k (.sc (.string ⟨#[69, 85, 82]⟩))), (.t 27)]⟩,
 ⟨some 22, none, .mv (.t 28)⟩,
 ⟨some 29, none, .ext (.t 22) 0⟩,
 ⟨some 30, none, .ext (.t 22) 1⟩,
 ⟨some 10, none, .al (.agg [.sc (.string ⟨#[]⟩), .sc (.string ⟨#[]⟩), .sc (.string ⟨#[]⟩), .sc (.int .i64 0)]) 4⟩,
 ⟨none, none, .st 4 (.t 10) (.t 29)⟩,
 ⟨some 11, none, .mv (.t 30)⟩])
 (.seq (.seq (.reg [⟨some 31, none, .mv (.t 9)⟩,
 ⟨some 32, none, .bin .neq false (.t 31) (.k (.sc (.int .i64 0))) (pu (.binOp .neq 31 (.tmp 31) (.const (.int .i64 0)) 31) 4)⟩,
 ⟨some 33, none, .mv (.t 32)⟩,
 ⟨some 34, (some ((some 33), false)), .mv (.t 11)⟩,
 ⟨some 35, (some ((some 33), false)), .bin .neq false (.t 34) (.k (.sc (.int .i64 0))) (pu (.binOp .neq 31 (.tmp 34) (.const (.int .i64 0)) 31) 4)⟩,
 ⟨some 36, none, .pick (.t 33) (.k (.sc (.bool true))) (.t 35)⟩,
 ⟨some 37, none, .mv (.t 36)⟩,
 ⟨some 38, (some ((some 37), false)), .ld (some 4) (.t 8)⟩,
 ⟨some 39, (some ((some 37), false)), .ld (some 4) (.t 10)⟩,
 ⟨some 40, (some ((some 37), false)), .bin .neq false (.t 38) (.t 39) (pu (.binOp .neq 83 (.tmp 38) (.tmp 39) 83) 4)⟩,
 ⟨some 41, none, .pick (.t 37) (.k (.sc (.bool true))) (.t 40)⟩])
 (.cond (.t 41) (.seq (.reg [⟨some 6, none, .mv (.k (.sc (.bool false)))⟩])
 .ret)
 .skip))
 (.seq (.seq (.reg [⟨some 42, none, .sh 0 (.t 8)⟩,
 ⟨some 43, none, .ld none (.t 42)⟩,
 ⟨some 44, none, .bin .eql false (.t 43) (.k (.sc (.string ⟨#[66]⟩))) (pu (.binOp .eql 9 (.tmp 43) (.const (.string ⟨#[66]⟩)) 9) 4)⟩])
 (.cond (.t 44) (.reg [⟨some 45, none, .mv (.t 2)⟩,
 ⟨some 46, none, .un .neg (.t 45) (pu (.unOp .neg 3 (.tmp 45)) 3)⟩,
 ⟨some 2, none, .mv (.t 46)⟩])
 .skip))
 (.seq (.reg [⟨some 47, none, .sh 3 (.t 8)⟩,
 ⟨some 48, none, .ld none (.t 47)⟩,
 ⟨some 49, none, .mv (.t 2)⟩,
 ⟨some 50, none, .bin .eql false (.t 48) (.t 49) (pu (.binOp .eql 3 (.tmp 48) (.tmp 49) 3) 4)⟩,
 ⟨some 6, none, .mv (.t 50)⟩])
 .ret)))))))
def k11 : List Nat := [0, 1, 2, 3, 4, 6, 7, 8, 9, 10, 11, 41, 44]
theorem ic11 : factsI Try.prog 11 = some (51, [.tmp 6], c11) := by kernel_rfl
def c12 : IC :=
 (.seq (.reg [⟨some 2, none, .mv (.k (.sc (.bool false)))⟩])
 (.seq (.seq (.reg [⟨some 5, none, .mv (.t 0)⟩,
 ⟨some 6, none, .lens (.t 5) (pu (.call ⟨.builtin .len, #[(.tmp 5)], #[9]⟩) 3)⟩,
 ⟨some 7, none, .bin .lss false (.t 6) (.k (.sc (.int .i64 1))) (pu (.binOp .lss 3 (.tmp 6) (.const (.int .i64 1)) 3) 4)⟩,
 ⟨some 8, none, .mv (.t 7)⟩,
 ⟨some 9, (some ((some 8), false)), .mv (.t 0)⟩,
 ⟨some 10, (some ((some 8), false)), .lens (.t 9) (pu (.call ⟨.builtin .len, #[(.tmp 9)], #[9]⟩) 3)⟩,
 ⟨some 11, (some ((some 8), false)), .bin .gtr false (.t 10) (.k (.sc (.int .i64 36))) (pu (.binOp .gtr 3 (.tmp 10) (.const (.int .i64 36)) 3) 4)⟩,
 ⟨some 12, none, .pick (.t 8) (.k (.sc (.bool true))) (.t 11)⟩])
 (.cond (.t 12) (.seq (.reg [⟨some 2, none, .mv (.k (.sc (.bool false)))⟩])
 .ret)
 .skip))
 (.seq (.seq (.reg [⟨some 13, none, .mv (.t 0)⟩,
 ⟨some 14, none, .rng (.t 13)⟩])
 (.block 0 (.loop (.seq (.reg [⟨some 15, none, .nxt (.t 14)⟩,
 ⟨some 16, none, .ext (.t 15) 0⟩])
 (.seq (.cond (.t 16) .skip
 (.exit 0))
 (.block 1 (.seq (.reg [⟨some 17, none, .ext (.t 15) 2⟩,
 ⟨some 4, none, .mv (.t 17)⟩])
 (.seq (.seq (.reg [⟨some 18, none, .mv (.t 4)⟩])
 (.block 2 (.seq (.seq (.reg [⟨some 20, none, .bin .eql false (.t 18) (.k (.sc (.int .i32 45))) (pu (.binOp .eql 21 (.tmp 18) (.const (.int .i32 45)) 21) 4)⟩,
 ⟨some 19, none, .mv (.t 20)⟩])
 (.cond (.t 19) .skip
 (.seq (.reg [⟨some 21, none, .bin .eql false (.t 18) (.k (.sc (.int .i32 95))) (pu (.binOp .eql 21 (.tmp 18) (.const (.int .i32 95)) 21) 4)⟩,
 ⟨some 19, none, .mv (.t 21)⟩])
 (.cond (.t 19) .skip
 (.seq (.reg [⟨some 22, none, .bin .eql false (.t 18) (.k (.sc (.int .i32 46))) (pu (.binOp .eql 21 (.tmp 18) (.const (.int .i32 46)) 21) 4)⟩,
 ⟨some 19, none, .mv (.t 22)⟩])
 (.cond (.t 19) .skip
 (.seq (.reg [⟨some 23, none, .bin .eql false (.t 18) (.k (.sc (.int .i32 58))) (pu (.binOp .eql 21 (.tmp 18) (.const (.int .i32 58)) 21) 4)⟩,
 ⟨some 19, none, .mv (.t 23)⟩])
 (.cond (.t 19) .skip
 (.reg [⟨some 24, none, .bin .eql false (.t 18) (.k (.sc (.int .i32 42))) (pu (.binOp .eql 21 (.tmp 18) (.const (.int .i32 42)) 21) 4)⟩,
 ⟨some 19, none, .mv (.t 24)⟩])))))))))
 (.cond (.t 19) (.exit 1)
 .skip))))
 (.seq (.reg [⟨some 25, none, .mv (.t 4)⟩,
 ⟨some 26, none, .call 31 [(.t 25)]⟩,
 ⟨some 27, none, .bin .lss false (.t 26) (.k (.sc (.int .i64 0))) (pu (.binOp .lss 3 (.tmp 26) (.const (.int .i64 0)) 3) 4)⟩])
 (.cond (.t 27) (.seq (.reg [⟨some 2, none, .mv (.k (.sc (.bool false)))⟩])
 .ret)
 .skip))))))))))
 (.seq (.reg [⟨some 2, none, .mv (.k (.sc (.bool true)))⟩])
 .ret))))
def k12 : List Nat := [0, 2, 4, 12, 14, 15, 16, 18, 19, 27]
theorem ic12 : factsI Try.prog 12 = some (28, [.tmp 2], c12) := by kernel_rfl
def c13 : IC :=
 (.seq (.reg [⟨some 2, none, .al (.agg [.sc (.string ⟨#[]⟩), .sc (.slice none 0 0), .sc (.slice none 0 0), .sc (.int .i64 0)]) 4⟩,
 ⟨some 3, none, .mv (.k (.sc (.int .i64 0)))⟩])
 (.seq (.seq (.reg [⟨some 4, none, .mv (.t 0)⟩,
 ⟨some 5, none, .call 12 [(.t 4)]⟩,
 ⟨some 6, none, .un .not (.t 5) (pu (.unOp .not 4 (.tmp 5)) 4)⟩])
 (.cond (.t 6) (.seq (.reg [⟨some 7, none, .bld [.sc (.string ⟨#[]⟩), .sc (.slice none 0 0), .sc (.slice none 0 0), .sc (.int .i64 0)] []⟩,
 ⟨none, none, .st 4 (.t 2) (.t 7)⟩,
 ⟨some 3, none, .mv (.k (.sc (.int .i64 4)))⟩])
 .ret)
 .skip))
 (.seq (.reg [⟨some 8, none, .mv (.t 0)⟩,
 ⟨some 9, none, .bld [.sc (.string ⟨#[]⟩), .sc (.slice none 0 0), .sc (.slice none 0 0), .sc (.int .i64 0)] [(0, 1, (.t 8)), (3, 1, (.k (.sc (.int .i64 1))))]⟩,
 ⟨none, none, .st 4 (.t 2) (.t 9)⟩,
 ⟨some 3, none, .mv (.k (.sc (.int .i64 0)))⟩])
 .ret)))
def k13 : List Nat := [0, 2, 3, 6]
theorem ic13 : factsI Try.prog 13 = some (10, [.cell 2 26, .tmp 3], c13) := by kernel_rfl
def c14 : IC :=
 (.seq (.reg [⟨some 1, none, .bx (.t 0)⟩,
 ⟨some 2, none, .mv (.k (.sc (.int .i64 0)))⟩])
 (.seq (.seq (.reg [⟨some 5, none, .sh 0 (.t 1)⟩,
 ⟨some 6, none, .ld none (.t 5)⟩,
 ⟨some 7, none, .call 12 [(.t 6)]⟩,
 ⟨some 8, none, .un .not (.t 7) (pu (.unOp .not 4 (.tmp 7)) 4)⟩])
 (.cond (.t 8) (.seq (.reg [⟨some 2, none, .mv (.k (.sc (.int .i64 4)))⟩])
 .ret)
 .skip))
 (.seq (.seq (.reg [⟨some 9, none, .sh 1 (.t 1)⟩,
 ⟨some 10, none, .ld (some 4) (.t 9)⟩,
 ⟨some 11, none, .call 32 [(.t 10)]⟩,
 ⟨some 3, none, .mv (.t 11)⟩])
 (.seq (.reg [⟨some 12, none, .mv (.t 3)⟩,
 ⟨some 13, none, .bin .neq false (.t 12) (.k (.sc (.int .i64 0))) (pu (.binOp .neq 31 (.tmp 12) (.const (.int .i64 0)) 31) 4)⟩])
 (.cond (.t 13) (.seq (.reg [⟨some 14, none, .mv (.t 3)⟩,
 ⟨some 2, none, .mv (.t 14)⟩])
 .ret)
 .skip)))
 (.seq (.seq (.reg [⟨some 15, none, .sh 1 (.t 1)⟩,
 ⟨some 16, none, .sh 0 (.t 15)⟩,
 ⟨some 17, none, .ld none (.t 16)⟩,
 ⟨some 18, none, .sh 0 (.t 1)⟩,
 ⟨some 19, none, .ld none (.t 18)⟩,
 ⟨some 20, none, .bin .neq false (.t 17) (.t 19) (pu (.binOp .neq 9 (.tmp 17) (.tmp 19) 9) 4)⟩])
 (.cond (.t 20) (.seq (.reg [⟨some 2, none, .mv (.k (.sc (.int .i64 1)))⟩])
 .ret)
 .skip))
 (.seq (.seq (.reg [⟨some 21, none, .ld (some 7) (.t 1)⟩,
 ⟨some 22, none, .call 33 [(.t 21)]⟩,
 ⟨some 4, none, .mv (.t 22)⟩])
 (.seq (.reg [⟨some 23, none, .mv (.t 4)⟩,
 ⟨some 24, none, .bin .neq false (.t 23) (.k (.sc (.int .i64 0))) (pu (.binOp .neq 31 (.tmp 23) (.const (.int .i64 0)) 31) 4)⟩])
 (.cond (.t 24) (.seq (.reg [⟨some 25, none, .mv (.t 4)⟩,
 ⟨some 2, none, .mv (.t 25)⟩])
 .ret)
 .skip)))
 (.seq (.reg [⟨some 26, none, .ld (some 7) (.t 1)⟩,
 ⟨some 27, none, .call 34 [(.t 26)]⟩,
 ⟨some 2, none, .mv (.t 27)⟩])
 .ret))))))
def k14 : List Nat := [0, 1, 2, 3, 4, 8, 13, 20, 24]
theorem ic14 : factsI Try.prog 14 = some (28, [.tmp 2], c14) := by kernel_rfl
def c15 : IC :=
 (.seq (.reg [⟨some 1, none, .bx (.t 0)⟩,
 ⟨some 2, none, .mv (.k (.sc (.int .i64 0)))⟩])
 (.seq (.seq (.reg [⟨some 5, none, .sh 0 (.t 1)⟩,
 ⟨some 6, none, .ld none (.t 5)⟩,
 ⟨some 7, none, .sh 1 (.t 1)⟩,
 ⟨some 8, none, .ld none (.t 7)⟩,
 ⟨some 9, none, .sh 2 (.t 1)⟩,
 ⟨some 10, none, .ld none (.t 9)⟩,
 ⟨some 11, none, .sh 3 (.t 1)⟩,
 ⟨some 12, none, .ld none (.t 11)⟩,
 ⟨some 13, none, .sh 8 (.t 1)⟩,
 ⟨some 14, none, .ld none (.t 13)⟩,
 ⟨some 15, none, .bsl 1 5 false [.sc (.string ⟨#[]⟩), .sc (.string ⟨#[]⟩), .sc (.string ⟨#[]⟩), .sc (.string ⟨#[]⟩), .sc (.string ⟨#[]⟩)] [(0, 1, (.t 6)), (1, 1, (.t 8)), (2, 1, (.t 10)), (3, 1, (.t 12)), (4, 1, (.t 14))]⟩,
 ⟨some 16, none, .call 35 [(.t 15)]⟩,
 ⟨some 3, none, .mv (.t 16)⟩])
 (.seq (.reg [⟨some 17, none, .mv (.t 3)⟩,
 ⟨some 18, none, .bin .neq false (.t 17) (.k (.sc (.int .i64 0))) (pu (.binOp .neq 31 (.tmp 17) (.const (.int .i64 0)) 31) 4)⟩])
 (.cond (.t 18) (.seq (.reg [⟨some 19, none, .mv (.t 3)⟩,
 ⟨some 2, none, .mv (.t 19)⟩])
 .ret)
 .skip)))
 (.seq (.seq (.reg [⟨some 20, none, .sh 1 (.t 1)⟩,
 ⟨some 21, none, .ld none (.t 20)⟩,
 ⟨some 22, none, .sh 2 (.t 1)⟩,
 ⟨some 23, none, .ld none (.t 22)⟩,
 ⟨some 24, none, .bin .eql false (.t 21) (.t 23) (pu (.binOp .eql 9 (.tmp 21) (.tmp 23) 9) 4)⟩])
 (.cond (.t 24) (.seq (.reg [⟨some 2, none, .mv (.k (.sc (.int .i64 1)))⟩])
 .ret)
 .skip))
 (.seq (.seq (.reg [⟨some 25, none, .sh 4 (.t 1)⟩,
 ⟨some 26, none, .ld none (.t 25)⟩,
 ⟨some 27, none, .bsl 1 1 false [.sc (.int .i64 0)] [(0, 1, (.t 26))]⟩,
 ⟨some 28, none, .call 36 [(.k (.sc (.int .i64 1))), (.k (.sc (.int .i64 2147483647))), (.t 27)]⟩,
 ⟨some 29, none, .un .not (.t 28) (pu (.unOp .not 4 (.tmp 28)) 4)⟩,
 ⟨some 30, none, .mv (.t 29)⟩,
 ⟨some 31, (some ((some 30), false)), .sh 5 (.t 1)⟩,
 ⟨some 32, (some ((some 30), false)), .ld none (.t 31)⟩,
 ⟨some 33, (some ((some 30), false)), .sh 6 (.t 1)⟩,
 ⟨some 34, (some ((some 30), false)), .ld none (.t 33)⟩,
 ⟨some 35, (some ((some 30), false)), .bsl 1 2 false [.sc (.int .i64 0), .sc (.int .i64 0)] [(0, 1, (.t 32)), (1, 1, (.t 34))]⟩,
 ⟨some 36, (some ((some 30), false)), .call 36 [(.k (.sc (.int .i64 0))), (.k (.sc (.int .i64 268435456))), (.t 35)]⟩,
 ⟨some 37, (some ((some 30), false)), .un .not (.t 36) (pu (.unOp .not 4 (.tmp 36)) 4)⟩,
 ⟨some 38, none, .pick (.t 30) (.k (.sc (.bool true))) (.t 37)⟩,
 ⟨some 39, none, .mv (.t 38)⟩,
 ⟨some 40, (some ((some 39), false)), .sh 5 (.t 1)⟩,
 ⟨some 41, (some ((some 39), false)), .ld none (.t 40)⟩,
 ⟨some 42, (some ((some 39), false)), .sh 6 (.t 1)⟩,
 ⟨some 43, (some ((some 39), false)), .ld none (.t 42)⟩,
 ⟨some 44, (some ((some 39), false)), .bin .gtr false (.t 41) (.t 43) (pu (.binOp .gtr 3 (.tmp 41) (.tmp 43) 3) 4)⟩,
 ⟨some 45, none, .pick (.t 39) (.k (.sc (.bool true))) (.t 44)⟩,
 ⟨some 46, none, .mv (.t 45)⟩,
 ⟨some 47, (some ((some 46), false)), .sh 7 (.t 1)⟩,
 ⟨some 48, (some ((some 46), false)), .ld none (.t 47)⟩,
 ⟨some 49, (some ((some 46), false)), .bsl 1 1 false [.sc (.int .i64 0)] [(0, 1, (.t 48))]⟩,
 ⟨some 50, (some ((some 46), false)), .call 36 [(.k (.sc (.int .i64 0))), (.k (.sc (.int .i64 36028797018963968))), (.t 49)]⟩,
 ⟨some 51, (some ((some 46), false)), .un .not (.t 50) (pu (.unOp .not 4 (.tmp 50)) 4)⟩,
 ⟨some 52, none, .pick (.t 46) (.k (.sc (.bool true))) (.t 51)⟩])
 (.cond (.t 52) (.seq (.reg [⟨some 2, none, .mv (.k (.sc (.int .i64 2)))⟩])
 .ret)
 .skip))
 (.seq (.seq (.reg [⟨some 53, none, .sh 9 (.t 1)⟩,
 ⟨some 54, none, .ld none (.t 53)⟩,
 ⟨some 55, none, .call 37 [(.t 54)]⟩,
 ⟨some 56, none, .un .not (.t 55) (pu (.unOp .not 4 (.tmp 55)) 4)⟩])
 (.cond (.t 56) (.seq (.reg [⟨some 2, none, .mv (.k (.sc (.int .i64 21)))⟩])
 .ret)
 .skip))
 (.seq (.seq (.reg [⟨some 57, none, .ld (some 14) (.t 1)⟩,
 ⟨some 58, none, .call 38 [(.t 57)]⟩,
 ⟨some 4, none, .mv (.t 58)⟩])
 (.seq (.reg [⟨some 59, none, .mv (.t 4)⟩,
 ⟨some 60, none, .bin .neq false (.t 59) (.k (.sc (.int .i64 0))) (pu (.binOp .neq 31 (.tmp 59) (.const (.int .i64 0)) 31) 4)⟩])
 (.cond (.t 60) (.seq (.reg [⟨some 61, none, .mv (.t 4)⟩,
 ⟨some 2, none, .mv (.t 61)⟩])
 .ret)
 .skip)))
 (.seq (.reg [⟨some 62, none, .ld (some 14) (.t 1)⟩,
 ⟨some 63, none, .call 39 [(.t 62)]⟩,
 ⟨some 2, none, .mv (.t 63)⟩])
 .ret)))))))
def k15 : List Nat := [0, 1, 2, 3, 4, 18, 24, 52, 56, 60]
theorem ic15 : factsI Try.prog 15 = some (64, [.tmp 2], c15) := by kernel_rfl
def c16 : IC :=
 (.seq (.reg [⟨some 2, none, .bx (.t 0)⟩,
 ⟨some 4, none, .mv (.k (.sc (.int .i64 0)))⟩])
 (.seq (.seq (.reg [⟨some 7, none, .sh 5 (.t 2)⟩,
 ⟨some 8, none, .ld none (.t 7)⟩,
 ⟨some 9, none, .len (.t 8) (pu (.call ⟨.builtin .len, #[(.tmp 8)], #[27]⟩) 3)⟩,
 ⟨some 10, none, .mv (.k (.sc (.int .i64 0)))⟩])
 (.block 0 (.loop (.seq (.reg [⟨some 11, none, .bin .lss false (.t 10) (.t 9) (pu (.binOp .lss 3 (.tmp 10) (.tmp 9) 3) 0)⟩])
 (.seq (.cond (.t 11) .skip
 (.exit 0))
 (.seq (.block 1 (.seq (.reg [⟨some 12, none, .mv (.t 10)⟩,
 ⟨some 13, none, .ixs 14 (.t 8) (.t 10)⟩,
 ⟨some 14, none, .ld (some 14) (.t 13)⟩,
 ⟨some 6, none, .al (.agg [.sc (.string ⟨#[]⟩), .sc (.string ⟨#[]⟩), .sc (.string ⟨#[]⟩), .sc (.string ⟨#[]⟩), .sc (.int .i64 0), .sc (.int .i64 0), .sc (.int .i64 0), .sc (.int .i64 0), .sc (.string ⟨#[]⟩), .sc (.string ⟨#[]⟩), .sc (.slice none 0 0), .sc (.int .i64 0), .sc (.bool false), .sc (.string ⟨#[]⟩)]) 14⟩,
 ⟨some 5, none, .mv (.t 12)⟩,
 ⟨none, none, .st 14 (.t 6) (.t 14)⟩])
 (.seq (.reg [⟨some 15, none, .sh 0 (.t 6)⟩,
 ⟨some 16, none, .ld none (.t 15)⟩,
 ⟨some 17, none, .mv (.t 1)⟩,
 ⟨some 18, none, .bin .eql false (.t 16) (.t 17) (pu (.binOp .eql 9 (.tmp 16) (.tmp 17) 9) 4)⟩])
 (.cond (.t 18) (.seq (.reg [⟨some 19, none, .mv (.t 5)⟩,
 ⟨some 4, none, .mv (.t 19)⟩])
 .ret)
 .skip))))
 (.reg [⟨some 20, none, .bin .add false (.t 10) (.k (.sc (.int .i64 1))) (pu (.binOp .add 3 (.tmp 10) (.const (.int .i64 1)) 3) 3)⟩,
 ⟨some 10, none, .mv (.t 20)⟩])))))))
 (.seq (.reg [⟨some 4, none, .mv (.k (.sc (.int .i64 (-1))))⟩])
 .ret)))
def k16 : List Nat := [0, 1, 2, 4, 5, 6, 8, 9, 10, 11, 18]
theorem ic16 : factsI Try.prog 16 = some (21, [.tmp 4], c16) := by kernel_rfl
def c17 : IC :=
 (.seq (.reg [⟨some 2, none, .bx (.t 0)⟩,
 ⟨some 3, none, .bx (.t 1)⟩,
 ⟨some 4, none, .mv (.k (.sc (.int .i64 0)))⟩])
 (.seq (.reg [⟨some 9, none, .ld (some 7) (.t 2)⟩,
 ⟨some 10, none, .sh 13 (.t 3)⟩,
 ⟨some 11, none, .ld none (.t 10)⟩,
 ⟨some 12, none, .call 16 [(.t 9), (.t 11)]⟩,
 ⟨some 5, none, .mv (.t 12)⟩])
 (.seq (.seq (.reg [⟨some 13, none, .mv (.t 5)⟩,
 ⟨some 14, none, .bin .lss false (.t 13) (.k (.sc (.int .i64 0))) (pu (.binOp .lss 3 (.tmp 13) (.const (.int .i64 0)) 3) 4)⟩])
 (.cond (.t 14) (.seq (.reg [⟨some 4, none, .mv (.k (.sc (.int .i64 8)))⟩])
 .ret)
 .skip))
 (.seq (.reg [⟨some 15, none, .sh 5 (.t 2)⟩,
 ⟨some 16, none, .ld none (.t 15)⟩,
 ⟨some 17, none, .mv (.t 5)⟩,
 ⟨some 18, none, .ixs 14 (.t 16) (.t 17)⟩,
 ⟨some 19, none, .ld (some 14) (.t 18)⟩,
 ⟨some 6, none, .al (.agg [.sc (.string ⟨#[]⟩), .sc (.string ⟨#[]⟩), .sc (.string ⟨#[]⟩), .sc (.string ⟨#[]⟩), .sc (.int .i64 0), .sc (.int .i64 0), .sc (.int .i64 0), .sc (.int .i64 0), .sc (.string ⟨#[]⟩), .sc (.string ⟨#[]⟩), .sc (.slice none 0 0), .sc (.int .i64 0), .sc (.bool false), .sc (.string ⟨#[]⟩)]) 14⟩,
 ⟨none, none, .st 14 (.t 6) (.t 19)⟩])
 (.seq (.seq (.reg [⟨some 20, none, .sh 2 (.t 6)⟩,
 ⟨some 21, none, .ld none (.t 20)⟩,
 ⟨some 22, none, .sh 2 (.t 3)⟩,
 ⟨some 23, none, .ld none (.t 22)⟩,
 ⟨some 24, none, .bin .neq false (.t 21) (.t 23) (pu (.binOp .neq 9 (.tmp 21) (.tmp 23) 9) 4)⟩,
 ⟨some 25, none, .mv (.t 24)⟩,
 ⟨some 26, (some ((some 25), false)), .sh 3 (.t 6)⟩,
 ⟨some 27, (some ((some 25), false)), .ld none (.t 26)⟩,
 ⟨some 28, (some ((some 25), false)), .sh 3 (.t 3)⟩,
 ⟨some 29, (some ((some 25), false)), .ld none (.t 28)⟩,
 ⟨some 30, (some ((some 25), false)), .bin .neq false (.t 27) (.t 29) (pu (.binOp .neq 9 (.tmp 27) (.tmp 29) 9) 4)⟩,
 ⟨some 31, none, .pick (.t 25) (.k (.sc (.bool true))) (.t 30)⟩,
 ⟨some 32, none, .mv (.t 31)⟩,
 ⟨some 33, (some ((some 32), false)), .sh 9 (.t 6)⟩,
 ⟨some 34, (some ((some 32), false)), .ld none (.t 33)⟩,
 ⟨some 35, (some ((some 32), false)), .sh 9 (.t 3)⟩,
 ⟨some 36, (some ((some 32), false)), .ld none (.t 35)⟩,
 ⟨some 37, (some ((some 32), false)), .bin .neq false (.t 34) (.t 36) (pu (.binOp .neq 9 (.tmp 34) (.tmp 36) 9) 4)⟩,
 ⟨some 38, none, .pick (.t 32) (.k (.sc (.bool true))) (.t 37)⟩,
 ⟨some 39, none, .mv (.t 38)⟩,
 ⟨some 40, (some ((some 39), false)), .sh 12 (.t 6)⟩,
 ⟨some 41, (some ((some 39), false)), .ld none (.t 40)⟩,
 ⟨some 42, none, .pick (.t 39) (.k (.sc (.bool true))) (.t 41)⟩,
 ⟨some 43, none, .mv (.t 42)⟩,
 ⟨some 44, (some ((some 43), false)), .sh 11 (.t 6)⟩,
 ⟨some 45, (some ((some 43), false)), .ld none (.t 44)⟩,
 ⟨some 46, (some ((some 43), false)), .sh 11 (.t 3)⟩,
 ⟨some 47, (some ((some 43), false)), .ld none (.t 46)⟩,
 ⟨some 48, (some ((some 43), false)), .un .neg (.t 47) (pu (.unOp .neg 3 (.tmp 47)) 3)⟩,
 ⟨some 49, (some ((some 43), false)), .bin .neq false (.t 45) (.t 48) (pu (.binOp .neq 3 (.tmp 45) (.tmp 48) 3) 4)⟩,
 ⟨some 50, none, .pick (.t 43) (.k (.sc (.bool true))) (.t 49)⟩])
 (.cond (.t 50) (.seq (.reg [⟨some 4, none, .mv (.k (.sc (.int .i64 23)))⟩])
 .ret)
 .skip))
 (.seq (.seq (.reg [⟨some 51, none, .sh 5 (.t 2)⟩,
 ⟨some 52, none, .ld none (.t 51)⟩,
 ⟨some 53, none, .len (.t 52) (pu (.call ⟨.builtin .len, #[(.tmp 52)], #[27]⟩) 3)⟩,
 ⟨some 54, none, .mv (.k (.sc (.int .i64 0)))⟩])
 (.block 0 (.loop (.seq (.reg [⟨some 55, none, .bin .lss false (.t 54) (.t 53) (pu (.binOp .lss 3 (.tmp 54) (.tmp 53) 3) 0)⟩])
 (.seq (.cond (.t 55) .skip
 (.exit 0))
 (.seq (.block 1 (.seq (.reg [⟨some 56, none, .ixs 14 (.t 52) (.t 54)⟩,
 ⟨some 57, none, .ld (some 14) (.t 56)⟩,
 ⟨some 8, none, .al (.agg [.sc (.string ⟨#[]⟩), .sc (.string ⟨#[]⟩), .sc (.string ⟨#[]⟩), .sc (.string ⟨#[]⟩), .sc (.int .i64 0), .sc (.int .i64 0), .sc (.int .i64 0), .sc (.int .i64 0), .sc (.string ⟨#[]⟩), .sc (.string ⟨#[]⟩), .sc (.slice none 0 0), .sc (.int .i64 0), .sc (.bool false), .sc (.string ⟨#[]⟩)]) 14⟩,
 ⟨none, none, .st 14 (.t 8) (.t 57)⟩])
 (.seq (.reg [⟨some 58, none, .sh 12 (.t 8)⟩,
 ⟨some 59, none, .ld none (.t 58)⟩,
 ⟨some 60, none, .mv (.t 59)⟩,
 ⟨some 61, (some ((some 60), true)), .sh 13 (.t 8)⟩,
 ⟨some 62, (some ((some 60), true)), .ld none (.t 61)⟩,
 ⟨some 63, (some ((some 60), true)), .sh 13 (.t 3)⟩,
 ⟨some 64, (some ((some 60), true)), .ld none (.t 63)⟩,
 ⟨some 65, (some ((some 60), true)), .bin .eql false (.t 62) (.t 64) (pu (.binOp .eql 9 (.tmp 62) (.tmp 64) 9) 4)⟩,
 ⟨some 66, none, .pick (.t 60) (.t 65) (.k (.sc (.bool false)))⟩])
 (.cond (.t 66) (.seq (.reg [⟨some 4, none, .mv (.k (.sc (.int .i64 10)))⟩])
 .ret)
 .skip))))
 (.reg [⟨some 67, none, .bin .add false (.t 54) (.k (.sc (.int .i64 1))) (pu (.binOp .add 3 (.tmp 54) (.const (.int .i64 1)) 3) 3)⟩,
 ⟨some 54, none, .mv (.t 67)⟩])))))))
 (.seq (.reg [⟨some 4, none, .mv (.k (.sc (.int .i64 0)))⟩])
 .ret)))))))
def k17 : List Nat := [0, 1, 2, 3, 4, 5, 6, 8, 14, 50, 52, 53, 54, 55, 66]
theorem ic17 : factsI Try.prog 17 = some (68, [.tmp 4], c17) := by kernel_rfl
def c18 : IC :=
 (.seq (.reg [⟨some 1, none, .bx (.t 0)⟩,
 ⟨some 2, none, .al (.agg [.sc (.string ⟨#[]⟩), .sc (.string ⟨#[]⟩), .sc (.slice none 0 0), .sc (.slice none 0 0), .sc (.int .i64 0), .sc (.slice none 0 0), .sc (.slice none 0 0)]) 7⟩])
 (.seq (.reg [⟨some 8, none, .ld (some 7) (.t 1)⟩,
 ⟨some 3, none, .al (.agg [.sc (.string ⟨#[]⟩), .sc (.string ⟨#[]⟩), .sc (.slice none 0 0), .sc (.slice none 0 0), .sc (.int .i64 0), .sc (.slice none 0 0), .sc (.slice none 0 0)]) 7⟩,
 ⟨none, none, .st 7 (.t 3) (.t 8)⟩])
 (.seq (.reg [⟨some 9, none, .sh 1 (.t 1)⟩,
 ⟨some 10, none, .sh 2 (.t 9)⟩,
 ⟨some 11, none, .ld none (.t 10)⟩,
 ⟨some 12, none, .app 1 8 (.k (.sc (.slice none 0 0))) (.t 11)⟩,
 ⟨some 13, none, .sh 1 (.t 3)⟩,
 ⟨some 14, none, .sh 2 (.t 13)⟩,
 ⟨none, none, .st 1 (.t 14) (.t 12)⟩])
 (.seq (.reg [⟨some 15, none, .sh 1 (.t 1)⟩,
 ⟨some 16, none, .sh 1 (.t 15)⟩,
 ⟨some 17, none, .ld none (.t 16)⟩,
 ⟨some 18, none, .len (.t 17) (pu (.call ⟨.builtin .len, #[(.tmp 17)], #[23]⟩) 3)⟩,
 ⟨some 19, none, .mks 6 80 (.agg [.sc (.int .i64 0), .sc (.string ⟨#[]⟩), .sc (.string ⟨#[]⟩), .sc (.int .i64 0), .sc (.bool false), .sc (.slice none 0 0)]) (.k (.sc (.int .i64 0))) (.t 18)⟩,
 ⟨some 20, none, .sh 1 (.t 3)⟩,
 ⟨some 21, none, .sh 1 (.t 20)⟩,
 ⟨none, none, .st 1 (.t 21) (.t 19)⟩])
 (.seq (.seq (.reg [⟨some 22, none, .sh 1 (.t 1)⟩,
 ⟨some 23, none, .sh 1 (.t 22)⟩,
 ⟨some 24, none, .ld none (.t 23)⟩,
 ⟨some 25, none, .len (.t 24) (pu (.call ⟨.builtin .len, #[(.tmp 24)], #[23]⟩) 3)⟩,
 ⟨some 26, none, .mv (.k (.sc (.int .i64 0)))⟩])
 (.block 0 (.loop (.seq (.reg [⟨some 27, none, .bin .lss false (.t 26) (.t 25) (pu (.binOp .lss 3 (.tmp 26) (.tmp 25) 3) 0)⟩])
 (.seq (.cond (.t 27) .skip
 (.exit 0))
 (.seq (.block 1 (.seq (.reg [⟨some 28, none, .ixs 6 (.t 24) (.t 26)⟩,
 ⟨some 29, none, .ld (some 6) (.t 28)⟩,
 ⟨some 5, none, .al (.agg [.sc (.int .i64 0), .sc (.string ⟨#[]⟩), .sc (.string ⟨#[]⟩), .sc (.int .i64 0), .sc (.bool false), .sc (.slice none 0 0)]) 6⟩,
 ⟨none, none, .st 6 (.t 5) (.t 29)⟩])
 (.seq (.reg [⟨some 30, none, .sh 5 (.t 5)⟩,
 ⟨some 31, none, .ld none (.t 30)⟩,
 ⟨some 32, none, .app 1 1 (.k (.sc (.slice none 0 0))) (.t 31)⟩,
 ⟨some 33, none, .sh 5 (.t 5)⟩,
 ⟨none, none, .st 1 (.t 33) (.t 32)⟩])
 (.reg [⟨some 34, none, .sh 1 (.t 3)⟩,
 ⟨some 35, none, .sh 1 (.t 34)⟩,
 ⟨some 36, none, .ld none (.t 35)⟩,
 ⟨some 37, none, .ld (some 6) (.t 5)⟩,
 ⟨some 38, none, .bsl 6 1 true [.sc (.int .i64 0), .sc (.string ⟨#[]⟩), .sc (.string ⟨#[]⟩), .sc (.int .i64 0), .sc (.bool false), .sc (.slice none 0 0)] [(0, 6, (.t 37))]⟩,
 ⟨some 39, none, .app 6 80 (.t 36) (.t 38)⟩,
 ⟨some 40, none, .sh 1 (.t 3)⟩,
 ⟨some 41, none, .sh 1 (.t 40)⟩,
 ⟨none, none, .st 1 (.t 41) (.t 39)⟩]))))
 (.reg [⟨some 42, none, .bin .add false (.t 26) (.k (.sc (.int .i64 1))) (pu (.binOp .add 3 (.tmp 26) (.const (.int .i64 1)) 3) 3)⟩,
 ⟨some 26, none, .mv (.t 42)⟩])))))))
 (.seq (.reg [⟨some 43, none, .sh 5 (.t 1)⟩,
 ⟨some 44, none, .ld none (.t 43)⟩,
 ⟨some 45, none, .len (.t 44) (pu (.call ⟨.builtin .len, #[(.tmp 44)], #[27]⟩) 3)⟩,
 ⟨some 46, none, .bin .add false (.t 45) (.k (.sc (.int .i64 1))) (pu (.binOp .add 3 (.tmp 45) (.const (.int .i64 1)) 3) 3)⟩,
 ⟨some 47, none, .mks 14 184 (.agg [.sc (.string ⟨#[]⟩), .sc (.string ⟨#[]⟩), .sc (.string ⟨#[]⟩), .sc (.string ⟨#[]⟩), .sc (.int .i64 0), .sc (.int .i64 0), .sc (.int .i64 0), .sc (.int .i64 0), .sc (.string ⟨#[]⟩), .sc (.string ⟨#[]⟩), .sc (.slice none 0 0), .sc (.int .i64 0), .sc (.bool false), .sc (.string ⟨#[]⟩)]) (.k (.sc (.int .i64 0))) (.t 46)⟩,
 ⟨some 48, none, .sh 5 (.t 3)⟩,
 ⟨none, none, .st 1 (.t 48) (.t 47)⟩])
 (.seq (.seq (.reg [⟨some 49, none, .sh 5 (.t 1)⟩,
 ⟨some 50, none, .ld none (.t 49)⟩,
 ⟨some 51, none, .len (.t 50) (pu (.call ⟨.builtin .len, #[(.tmp 50)], #[27]⟩) 3)⟩,
 ⟨some 52, none, .mv (.k (.sc (.int .i64 0)))⟩])
 (.block 2 (.loop (.seq (.reg [⟨some 53, none, .bin .lss false (.t 52) (.t 51) (pu (.binOp .lss 3 (.tmp 52) (.tmp 51) 3) 0)⟩])
 (.seq (.cond (.t 53) .skip
 (.exit 2))
 (.seq (.block 3 (.seq (.reg [⟨some 54, none, .ixs 14 (.t 50) (.t 52)⟩,
 ⟨some 55, none, .ld (some 14) (.t 54)⟩,
 ⟨some 7, none, .al (.agg [.sc (.string ⟨#[]⟩), .sc (.string ⟨#[]⟩), .sc (.string ⟨#[]⟩), .sc (.string ⟨#[]⟩), .sc (.int .i64 0), .sc (.int .i64 0), .sc (.int .i64 0), .sc (.int .i64 0), .sc (.string ⟨#[]⟩), .sc (.string ⟨#[]⟩), .sc (.slice none 0 0), .sc (.int .i64 0), .sc (.bool false), .sc (.string ⟨#[]⟩)]) 14⟩,
 ⟨none, none, .st 14 (.t 7) (.t 55)⟩])
 (.drw [0, 1, 0, 4, 12, 31, 63, 127] [⟨some 56, none, .sh 5 (.t 3)⟩,
 ⟨some 57, none, .ld none (.t 56)⟩,
 ⟨some 58, none, .ld (some 14) (.t 7)⟩,
 ⟨some 59, none, .call 19 [(.t 58)]⟩,
 ⟨some 60, none, .bsl 14 1 true [.sc (.string ⟨#[]⟩), .sc (.string ⟨#[]⟩), .sc (.string ⟨#[]⟩), .sc (.string ⟨#[]⟩), .sc (.int .i64 0), .sc (.int .i64 0), .sc (.int .i64 0), .sc (.int .i64 0), .sc (.string ⟨#[]⟩), .sc (.string ⟨#[]⟩), .sc (.slice none 0 0), .sc (.int .i64 0), .sc (.bool false), .sc (.string ⟨#[]⟩)] [(0, 14, (.t 59))]⟩,
 ⟨some 61, none, .app 14 184 (.t 57) (.t 60)⟩,
 ⟨some 62, none, .sh 5 (.t 3)⟩,
 ⟨none, none, .st 1 (.t 62) (.t 61)⟩])))
 (.reg [⟨some 63, none, .bin .add false (.t 52) (.k (.sc (.int .i64 1))) (pu (.binOp .add 3 (.tmp 52) (.const (.int .i64 1)) 3) 3)⟩,
 ⟨some 52, none, .mv (.t 63)⟩])))))))
 (.seq (.reg [⟨some 64, none, .sh 6 (.t 1)⟩,
 ⟨some 65, none, .ld none (.t 64)⟩,
 ⟨some 66, none, .len (.t 65) (pu (.call ⟨.builtin .len, #[(.tmp 65)], #[28]⟩) 3)⟩,
 ⟨some 67, none, .sh 6 (.t 1)⟩,
 ⟨some 68, none, .ld none (.t 67)⟩,
 ⟨some 69, none, .len (.t 68) (pu (.call ⟨.builtin .len, #[(.tmp 68)], #[28]⟩) 3)⟩,
 ⟨some 70, none, .bin .add false (.t 69) (.k (.sc (.int .i64 1))) (pu (.binOp .add 3 (.tmp 69) (.const (.int .i64 1)) 3) 3)⟩,
 ⟨some 71, none, .mks 6 64 (.agg [.sc (.string ⟨#[]⟩), .sc (.string ⟨#[]⟩), .sc (.int .i64 0), .sc (.int .i64 0), .sc (.int .i64 0), .sc (.int .i64 0)]) (.t 66) (.t 70)⟩,
 ⟨some 72, none, .sh 6 (.t 3)⟩,
 ⟨none, none, .st 1 (.t 72) (.t 71)⟩])
 (.seq (.reg [⟨some 73, none, .sh 6 (.t 3)⟩,
 ⟨some 74, none, .ld none (.t 73)⟩,
 ⟨some 75, none, .sh 6 (.t 1)⟩,
 ⟨some 76, none, .ld none (.t 75)⟩,
 ⟨some 77, none, .pur (pu (.call ⟨.builtin .copy, #[(.tmp 74), (.tmp 76)], #[28, 28]⟩) 3)⟩])
 (.seq (.reg [⟨some 78, none, .ld (some 7) (.t 3)⟩,
 ⟨none, none, .st 7 (.t 2) (.t 78)⟩])
 .ret))))))))))
def k18 : List Nat := [0, 1, 2, 3, 5, 7, 24, 25, 26, 27, 50, 51, 52, 53]
theorem ic18 : factsI Try.prog 18 = some (79, [.cell 2 30], c18) := by kernel_rfl
def c19 : IC :=
 (.seq (.reg [⟨some 1, none, .bx (.t 0)⟩,
 ⟨some 2, none, .al (.agg [.sc (.string ⟨#[]⟩), .sc (.string ⟨#[]⟩), .sc (.string ⟨#[]⟩), .sc (.string ⟨#[]⟩), .sc (.int .i64 0), .sc (.int .i64 0), .sc (.int .i64 0), .sc (.int .i64 0), .sc (.string ⟨#[]⟩), .sc (.string ⟨#[]⟩), .sc (.slice none 0 0), .sc (.int .i64 0), .sc (.bool false), .sc (.string ⟨#[]⟩)]) 14⟩])
 (.seq (.reg [⟨some 3, none, .sh 10 (.t 1)⟩,
 ⟨some 4, none, .ld none (.t 3)⟩,
 ⟨some 5, none, .app 7 56 (.k (.sc (.slice none 0 0))) (.t 4)⟩,
 ⟨some 6, none, .sh 10 (.t 1)⟩,
 ⟨none, none, .st 1 (.t 6) (.t 5)⟩])
 (.seq (.reg [⟨some 7, none, .ld (some 14) (.t 1)⟩,
 ⟨none, none, .st 14 (.t 2) (.t 7)⟩])
 .ret)))
def k19 : List Nat := [0, 1, 2]
theorem ic19 : factsI Try.prog 19 = some (8, [.cell 2 39], c19) := by kernel_rfl
def c20 : IC :=
 (.seq (.reg [⟨some 2, none, .mv (.k (.sc (.slice none 0 0)))⟩])
 (.seq (.reg [⟨some 6, none, .mv (.t 0)⟩,
 ⟨some 7, none, .len (.t 6) (pu (.call ⟨.builtin .len, #[(.tmp 6)], #[37]⟩) 3)⟩,
 ⟨some 8, none, .mks 7 56 (.agg [.sc (.int .i64 0), .sc (.int .i64 0), .sc (.int .i64 0), .sc (.int .i64 0), .sc (.int .i64 0), .sc (.int .i64 0), .sc (.int .i64 0)]) (.t 7) (.t 7)⟩,
 ⟨some 3, none, .mv (.t 8)⟩])
 (.seq (.seq (.reg [⟨some 9, none, .mv (.t 0)⟩,
 ⟨some 10, none, .len (.t 9) (pu (.call ⟨.builtin .len, #[(.tmp 9)], #[37]⟩) 3)⟩,
 ⟨some 11, none, .mv (.k (.sc (.int .i64 0)))⟩])
 (.block 0 (.loop (.seq (.reg [⟨some 12, none, .bin .lss false (.t 11) (.t 10) (pu (.binOp .lss 3 (.tmp 11) (.tmp 10) 3) 0)⟩])
 (.seq (.cond (.t 12) .skip
 (.exit 0))
 (.seq (.block 1 (.seq (.reg [⟨some 13, none, .mv (.t 11)⟩,
 ⟨some 14, none, .ixs 7 (.t 9) (.t 11)⟩,
 ⟨some 15, none, .ld (some 7) (.t 14)⟩,
 ⟨some 5, none, .al (.agg [.sc (.int .i64 0), .sc (.int .i64 0), .sc (.int .i64 0), .sc (.int .i64 0), .sc (.int .i64 0), .sc (.int .i64 0), .sc (.int .i64 0)]) 7⟩,
 ⟨some 4, none, .mv (.t 13)⟩,
 ⟨none, none, .st 7 (.t 5) (.t 15)⟩])
 (.seq (.reg [⟨some 16, none, .sh 1 (.t 5)⟩,
 ⟨some 17, none, .ld none (.t 16)⟩,
 ⟨some 18, none, .un .neg (.t 17) (pu (.unOp .neg 3 (.tmp 17)) 3)⟩,
 ⟨some 19, none, .sh 4 (.t 5)⟩,
 ⟨some 20, none, .ld none (.t 19)⟩,
 ⟨some 21, none, .un .neg (.t 20) (pu (.unOp .neg 3 (.tmp 20)) 3)⟩,
 ⟨some 22, none, .sh 5 (.t 5)⟩,
 ⟨some 23, none, .ld none (.t 22)⟩,
 ⟨some 24, none, .un .neg (.t 23) (pu (.unOp .neg 3 (.tmp 23)) 3)⟩,
 ⟨some 25, none, .sh 6 (.t 5)⟩,
 ⟨some 26, none, .ld none (.t 25)⟩,
 ⟨some 27, none, .un .neg (.t 26) (pu (.unOp .neg 3 (.tmp 26)) 3)⟩,
 ⟨some 28, none, .sh 1 (.t 5)⟩,
 ⟨none, none, .st 1 (.t 28) (.t 18)⟩,
 ⟨some 29, none, .sh 4 (.t 5)⟩,
 ⟨none, none, .st 1 (.t 29) (.t 21)⟩,
 ⟨some 30, none, .sh 5 (.t 5)⟩,
 ⟨none, none, .st 1 (.t 30) (.t 24)⟩,
 ⟨some 31, none, .sh 6 (.t 5)⟩,
 ⟨none, none, .st 1 (.t 31) (.t 27)⟩])
 (.reg [⟨some 32, none, .mv (.t 3)⟩,
 ⟨some 33, none, .mv (.t 4)⟩,
 ⟨some 34, none, .ld (some 7) (.t 5)⟩,
 ⟨some 35, none, .ixs 7 (.t 32) (.t 33)⟩,
 ⟨none, none, .st 7 (.t 35) (.t 34)⟩]))))
 (.reg [⟨some 36, none, .bin .add false (.t 11) (.k (.sc (.int .i64 1))) (pu (.binOp .add 3 (.tmp 11) (.const (.int .i64 1)) 3) 3)⟩,
 ⟨some 11, none, .mv (.t 36)⟩])))))))
 (.seq (.reg [⟨some 37, none, .mv (.t 3)⟩,
 ⟨some 2, none, .mv (.t 37)⟩])
 .ret))))
def k20 : List Nat := [0, 2, 3, 4, 5, 9, 10, 11, 12]
theorem ic20 : factsI Try.prog 20 = some (38, [.tmp 2], c20) := by kernel_rfl
def c21 : IC :=
 (.seq (.reg [⟨some 2, none, .mv (.k (.sc (.int .i64 0)))⟩])
 (.seq (.reg [⟨some 8, none, .mv (.t 0)⟩,
 ⟨some 9, none, .nck (.t 8) (pu (.nilCheck (.tmp 8)) 0)⟩,
 ⟨some 10, none, .sh 7 (.t 9)⟩,
 ⟨some 11, none, .ld (some 7) (.t 10)⟩,
 ⟨some 12, none, .call 40 [(.t 11)]⟩,
 ⟨some 3, none, .mv (.t 12)⟩])
 (.seq (.seq (.reg [⟨some 13, none, .mv (.t 0)⟩,
 ⟨some 14, none, .nck (.t 13) (pu (.nilCheck (.tmp 13)) 0)⟩,
 ⟨some 15, none, .sh 0 (.t 14)⟩,
 ⟨some 16, none, .sh 5 (.t 15)⟩,
 ⟨some 17, none, .ld none (.t 16)⟩,
 ⟨some 18, none, .len (.t 17) (pu (.call ⟨.builtin .len, #[(.tmp 17)], #[27]⟩) 3)⟩,
 ⟨some 19, none, .mv (.k (.sc (.int .i64 0)))⟩])
 (.block 0 (.loop (.seq (.reg [⟨some 20, none, .bin .lss false (.t 19) (.t 18) (pu (.binOp .lss 3 (.tmp 19) (.tmp 18) 3) 0)⟩])
 (.seq (.cond (.t 20) .skip
 (.exit 0))
 (.seq (.block 1 (.seq (.reg [⟨some 21, none, .ixs 14 (.t 17) (.t 19)⟩,
 ⟨some 22, none, .ld (some 14) (.t 21)⟩,
 ⟨some 5, none, .al (.agg [.sc (.string ⟨#[]⟩), .sc (.string ⟨#[]⟩), .sc (.string ⟨#[]⟩), .sc (.string ⟨#[]⟩), .sc (.int .i64 0), .sc (.int .i64 0), .sc (.int .i64 0), .sc (.int .i64 0), .sc (.string ⟨#[]⟩), .sc (.string ⟨#[]⟩), .sc (.slice none 0 0), .sc (.int .i64 0), .sc (.bool false), .sc (.string ⟨#[]⟩)]) 14⟩,
 ⟨none, none, .st 14 (.t 5) (.t 22)⟩])
 (.seq (.reg [⟨some 24, none, .mv (.t 3)⟩,
 ⟨some 25, none, .sh 0 (.t 5)⟩,
 ⟨some 26, none, .ld none (.t 25)⟩,
 ⟨some 27, none, .mlk false [.s] (.agg [.sc (.string ⟨#[]⟩), .sc (.string ⟨#[]⟩), .sc (.string ⟨#[]⟩), .sc (.string ⟨#[]⟩), .sc (.int .i64 0), .sc (.int .i64 0), .sc (.int .i64 0), .sc (.int .i64 0), .sc (.string ⟨#[]⟩), .sc (.string ⟨#[]⟩), .sc (.slice none 0 0), .sc (.int .i64 0), .sc (.bool false), .sc (.string ⟨#[]⟩)]) true (.t 24) (.t 26) (pu (.lookup 70 (.tmp 24) (.tmp 26) true) 73)⟩,
 ⟨some 23, none, .mv (.t 27)⟩,
 ⟨some 28, none, .ext (.t 23) 0⟩,
 ⟨some 29, none, .ext (.t 23) 1⟩,
 ⟨some 6, none, .al (.agg [.sc (.string ⟨#[]⟩), .sc (.string ⟨#[]⟩), .sc (.string ⟨#[]⟩), .sc (.string ⟨#[]⟩), .sc (.int .i64 0), .sc (.int .i64 0), .sc (.int .i64 0), .sc (.int .i64 0), .sc (.string ⟨#[]⟩), .sc (.string ⟨#[]⟩), .sc (.slice none 0 0), .sc (.int .i64 0), .sc (.bool false), .sc (.string ⟨#[]⟩)]) 14⟩,
 ⟨none, none, .st 14 (.t 6) (.t 28)⟩,
 ⟨some 7, none, .mv (.t 29)⟩])
 (.seq (.reg [⟨some 30, none, .mv (.t 7)⟩,
 ⟨some 31, none, .mv (.t 30)⟩,
 ⟨some 32, (some ((some 31), true)), .ld (some 14) (.t 5)⟩,
 ⟨some 33, (some ((some 31), true)), .ld (some 14) (.t 6)⟩,
 ⟨some 34, (some ((some 31), true)), .call 28 [(.t 32), (.t 33)]⟩,
 ⟨some 35, (some ((some 31), true)), .un .not (.t 34) (pu (.unOp .not 4 (.tmp 34)) 4)⟩,
 ⟨some 36, none, .pick (.t 31) (.t 35) (.k (.sc (.bool false)))⟩])
 (.cond (.t 36) (.seq (.reg [⟨some 2, none, .mv (.k (.sc (.int .i64 23)))⟩])
 .ret)
 .skip)))))
 (.reg [⟨some 37, none, .bin .add false (.t 19) (.k (.sc (.int .i64 1))) (pu (.binOp .add 3 (.tmp 19) (.const (.int .i64 1)) 3) 3)⟩,
 ⟨some 19, none, .mv (.t 37)⟩])))))))
 (.seq (.reg [⟨some 2, none, .mv (.k (.sc (.int .i64 0)))⟩])
 .ret))))
def k21 : List Nat := [0, 2, 3, 5, 6, 7, 17, 18, 19, 20, 36]
theorem ic21 : factsI Try.prog 21 = some (38, [.tmp 2], c21) := by kernel_rfl
def c22 : IC :=
 (.seq (.reg [⟨some 2, none, .mv (.k (.sc (.int .i64 0)))⟩])
 (.seq (.reg [⟨some 8, none, .mv (.t 0)⟩,
 ⟨some 9, none, .nck (.t 8) (pu (.nilCheck (.tmp 8)) 0)⟩,
 ⟨some 10, none, .sh 0 (.t 9)⟩,
 ⟨some 11, none, .sh 1 (.t 10)⟩,
 ⟨some 12, none, .ld (some 4) (.t 11)⟩,
 ⟨some 13, none, .call 41 [(.t 12), (.k (.sc (.int .i64 0)))]⟩,
 ⟨some 7, none, .mv (.t 13)⟩,
 ⟨some 14, none, .ext (.t 7) 0⟩,
 ⟨some 15, none, .ext (.t 7) 1⟩,
 ⟨some 3, none, .mv (.t 14)⟩,
 ⟨some 4, none, .mv (.t 15)⟩])
 (.seq (.reg [⟨some 17, none, .mv (.t 0)⟩,
 ⟨some 18, none, .nck (.t 17) (pu (.nilCheck (.tmp 17)) 0)⟩,
 ⟨some 19, none, .sh 7 (.t 18)⟩,
 ⟨some 20, none, .sh 1 (.t 19)⟩,
 ⟨some 21, none, .ld (some 4) (.t 20)⟩,
 ⟨some 22, none, .call 41 [(.t 21), (.k (.sc (.int .i64 0)))]⟩,
 ⟨some 16, none, .mv (.t 22)⟩,
 ⟨some 23, none, .ext (.t 16) 0⟩,
 ⟨some 24, none, .ext (.t 16) 1⟩,
 ⟨some 5, none, .mv (.t 23)⟩,
 ⟨some 6, none, .mv (.t 24)⟩])
 (.seq (.reg [⟨some 26, none, .mv (.t 0)⟩,
 ⟨some 27, none, .mv (.t 0)⟩,
 ⟨some 28, none, .nck (.t 27) (pu (.nilCheck (.tmp 27)) 0)⟩,
 ⟨some 29, none, .sh 0 (.t 28)⟩,
 ⟨some 30, none, .sh 1 (.t 29)⟩,
 ⟨some 31, none, .ld (some 4) (.t 30)⟩,
 ⟨some 32, none, .mv (.t 5)⟩,
 ⟨some 33, none, .call 42 [(.t 31), (.t 32)]⟩,
 ⟨some 25, none, .mv (.t 33)⟩,
 ⟨some 34, none, .ext (.t 25) 0⟩,
 ⟨some 35, none, .ext (.t 25) 1⟩,
 ⟨some 36, none, .nck (.t 26) (pu (.nilCheck (.tmp 26)) 0)⟩,
 ⟨some 37, none, .sh 0 (.t 36)⟩,
 ⟨some 38, none, .sh 1 (.t 37)⟩,
 ⟨none, none, .st 4 (.t 38) (.t 34)⟩])
 (.seq (.reg [⟨some 40, none, .mv (.t 0)⟩,
 ⟨some 41, none, .mv (.t 0)⟩,
 ⟨some 42, none, .nck (.t 41) (pu (.nilCheck (.tmp 41)) 0)⟩,
 ⟨some 43, none, .sh 7 (.t 42)⟩,
 ⟨some 44, none, .sh 1 (.t 43)⟩,
 ⟨some 45, none, .ld (some 4) (.t 44)⟩,
 ⟨some 46, none, .mv (.t 3)⟩,
 ⟨some 47, none, .call 42 [(.t 45), (.t 46)]⟩,
 ⟨some 39, none, .mv (.t 47)⟩,
 ⟨some 48, none, .ext (.t 39) 0⟩,
 ⟨some 49, none, .ext (.t 39) 1⟩,
 ⟨some 50, none, .nck (.t 40) (pu (.nilCheck (.tmp 40)) 0)⟩,
 ⟨some 51, none, .sh 7 (.t 50)⟩,
 ⟨some 52, none, .sh 1 (.t 51)⟩,
 ⟨none, none, .st 4 (.t 52) (.t 48)⟩])
 (.seq (.reg [⟨some 2, none, .mv (.k (.sc (.int .i64 0)))⟩])
 .ret))))))
def k22 : List Nat := [0, 2, 3, 5]
theorem ic22 : factsI Try.prog 22 = some (53, [.tmp 2], c22) := by kernel_rfl
def c23 : IC :=
 (.seq (.reg [⟨some 2, none, .mv (.k (.sc (.int .i64 0)))⟩])
 (.seq (.any [0, 0, 2, 6, 14, 0, 32, 96, 224, 511, 0, 0, 2048, 6144, 14336, 0, 32768, 98304, 229376, 524287, 1048575, 2097151] [⟨some 5, none, .mv (.t 0)⟩,
 ⟨some 6, none, .mv (.t 0)⟩,
 ⟨some 7, none, .nck (.t 6) (pu (.nilCheck (.tmp 6)) 0)⟩,
 ⟨some 8, none, .sh 7 (.t 7)⟩,
 ⟨some 9, none, .ld (some 7) (.t 8)⟩,
 ⟨some 10, none, .mv (.t 0)⟩,
 ⟨some 11, none, .nck (.t 10) (pu (.nilCheck (.tmp 10)) 0)⟩,
 ⟨some 12, none, .sh 0 (.t 11)⟩,
 ⟨some 13, none, .ld (some 7) (.t 12)⟩,
 ⟨some 14, none, .call 43 [(.t 5), (.t 9), (.t 13)]⟩,
 ⟨some 15, none, .mv (.t 0)⟩,
 ⟨some 16, none, .mv (.t 0)⟩,
 ⟨some 17, none, .nck (.t 16) (pu (.nilCheck (.tmp 16)) 0)⟩,
 ⟨some 18, none, .sh 0 (.t 17)⟩,
 ⟨some 19, none, .ld (some 7) (.t 18)⟩,
 ⟨some 20, none, .mv (.t 0)⟩,
 ⟨some 21, none, .nck (.t 20) (pu (.nilCheck (.tmp 20)) 0)⟩,
 ⟨some 22, none, .sh 7 (.t 21)⟩,
 ⟨some 23, none, .ld (some 7) (.t 22)⟩,
 ⟨some 24, none, .call 43 [(.t 15), (.t 19), (.t 23)]⟩,
 ⟨some 3, none, .mv (.t 14)⟩,
 ⟨some 4, none, .mv (.t 24)⟩])
 (.seq (.seq (.reg [⟨some 25, none, .mv (.t 0)⟩,
 ⟨some 26, none, .nck (.t 25) (pu (.nilCheck (.tmp 25)) 0)⟩,
 ⟨some 27, none, .sh 0 (.t 26)⟩,
 ⟨some 28, none, .sh 5 (.t 27)⟩,
 ⟨some 29, none, .ld none (.t 28)⟩,
 ⟨some 30, none, .len (.t 29) (pu (.call ⟨.builtin .len, #[(.tmp 29)], #[27]⟩) 3)⟩,
 ⟨some 31, none, .mv (.t 3)⟩,
 ⟨some 32, none, .len (.t 31) (pu (.call ⟨.builtin .len, #[(.tmp 31)], #[27]⟩) 3)⟩,
 ⟨some 33, none, .bin .add false (.t 30) (.t 32) (pu (.binOp .add 3 (.tmp 30) (.tmp 32) 3) 3)⟩,
 ⟨some 34, none, .bin .gtr false (.t 33) (.k (.sc (.int .i64 256))) (pu (.binOp .gtr 3 (.tmp 33) (.const (.int .i64 256)) 3) 4)⟩,
 ⟨some 35, none, .mv (.t 34)⟩,
 ⟨some 36, (some ((some 35), false)), .mv (.t 0)⟩,
 ⟨some 37, (some ((some 35), false)), .nck (.t 36) (pu (.nilCheck (.tmp 36)) 0)⟩,
 ⟨some 38, (some ((some 35), false)), .sh 7 (.t 37)⟩,
 ⟨some 39, (some ((some 35), false)), .sh 5 (.t 38)⟩,
 ⟨some 40, (some ((some 35), false)), .ld none (.t 39)⟩,
 ⟨some 41, (some ((some 35), false)), .len (.t 40) (pu (.call ⟨.builtin .len, #[(.tmp 40)], #[27]⟩) 3)⟩,
 ⟨some 42, (some ((some 35), false)), .mv (.t 4)⟩,
 ⟨some 43, (some ((some 35), false)), .len (.t 42) (pu (.call ⟨.builtin .len, #[(.tmp 42)], #[27]⟩) 3)⟩,
 ⟨some 44, (some ((some 35), false)), .bin .add false (.t 41) (.t 43) (pu (.binOp .add 3 (.tmp 41) (.tmp 43) 3) 3)⟩,
 ⟨some 45, (some ((some 35), false)), .bin .gtr false (.t 44) (.k (.sc (.int .i64 256))) (pu (.binOp .gtr 3 (.tmp 44) (.const (.int .i64 256)) 3) 4)⟩,
 ⟨some 46, none, .pick (.t 35) (.k (.sc (.bool true))) (.t 45)⟩])
 (.cond (.t 46) (.seq (.reg [⟨some 2, none, .mv (.k (.sc (.int .i64 3)))⟩])
 .ret)
 .skip))
 (.seq (.reg [⟨some 47, none, .mv (.t 0)⟩,
 ⟨some 48, none, .mv (.t 0)⟩,
 ⟨some 49, none, .nck (.t 48) (pu (.nilCheck (.tmp 48)) 0)⟩,
 ⟨some 50, none, .sh 0 (.t 49)⟩,
 ⟨some 51, none, .sh 5 (.t 50)⟩,
 ⟨some 52, none, .ld none (.t 51)⟩,
 ⟨some 53, none, .mv (.t 3)⟩,
 ⟨some 54, none, .app 14 184 (.t 52) (.t 53)⟩,
 ⟨some 55, none, .nck (.t 47) (pu (.nilCheck (.tmp 47)) 0)⟩,
 ⟨some 56, none, .sh 0 (.t 55)⟩,
 ⟨some 57, none, .sh 5 (.t 56)⟩,
 ⟨none, none, .st 1 (.t 57) (.t 54)⟩])
 (.seq (.reg [⟨some 58, none, .mv (.t 0)⟩,
 ⟨some 59, none, .mv (.t 0)⟩,
 ⟨some 60, none, .nck (.t 59) (pu (.nilCheck (.tmp 59)) 0)⟩,
 ⟨some 61, none, .sh 7 (.t 60)⟩,
 ⟨some 62, none, .sh 5 (.t 61)⟩,
 ⟨some 63, none, .ld none (.t 62)⟩,
 ⟨some 64, none, .mv (.t 4)⟩,
 ⟨some 65, none, .app 14 184 (.t 63) (.t 64)⟩,
 ⟨some 66, none, .nck (.t 58) (pu (.nilCheck (.tmp 58)) 0)⟩,
 ⟨some 67, none, .sh 7 (.t 66)⟩,
 ⟨some 68, none, .sh 5 (.t 67)⟩,
 ⟨none, none, .st 1 (.t 68) (.t 65)⟩])
 (.seq (.reg [⟨some 2, none, .mv (.k (.sc (.int .i64 0)))⟩])
 .ret))))))
def k23 : List Nat := [0, 2, 3, 4, 46]
theorem ic23 : factsI Try.prog 23 = some (69, [.tmp 2], c23) := by kernel_rfl
def c24 : IC :=
 (.seq (.reg [⟨some 2, none, .mv (.k (.sc (.int .i64 0)))⟩])
 (.seq (.drw [0, 1, 3, 7, 0, 16, 48, 112, 240, 0, 512, 1536, 3584, 7680, 16383, 32767] [⟨some 5, none, .mv (.t 0)⟩,
 ⟨some 6, none, .nck (.t 5) (pu (.nilCheck (.tmp 5)) 0)⟩,
 ⟨some 7, none, .sh 0 (.t 6)⟩,
 ⟨some 8, none, .ld (some 7) (.t 7)⟩,
 ⟨some 9, none, .mv (.t 0)⟩,
 ⟨some 10, none, .nck (.t 9) (pu (.nilCheck (.tmp 9)) 0)⟩,
 ⟨some 11, none, .sh 0 (.t 10)⟩,
 ⟨some 12, none, .sh 0 (.t 11)⟩,
 ⟨some 13, none, .ld none (.t 12)⟩,
 ⟨some 14, none, .mv (.t 0)⟩,
 ⟨some 15, none, .nck (.t 14) (pu (.nilCheck (.tmp 14)) 0)⟩,
 ⟨some 16, none, .sh 7 (.t 15)⟩,
 ⟨some 17, none, .sh 0 (.t 16)⟩,
 ⟨some 18, none, .ld none (.t 17)⟩,
 ⟨some 19, none, .call 29 [(.t 8), (.t 13), (.t 18)]⟩,
 ⟨some 3, none, .mv (.t 19)⟩])
 (.seq (.drw [0, 1, 3, 7, 0, 16, 48, 112, 240, 0, 512, 1536, 3584, 7680, 16383, 32767] [⟨some 20, none, .mv (.t 0)⟩,
 ⟨some 21, none, .nck (.t 20) (pu (.nilCheck (.tmp 20)) 0)⟩,
 ⟨some 22, none, .sh 7 (.t 21)⟩,
 ⟨some 23, none, .ld (some 7) (.t 22)⟩,
 ⟨some 24, none, .mv (.t 0)⟩,
 ⟨some 25, none, .nck (.t 24) (pu (.nilCheck (.tmp 24)) 0)⟩,
 ⟨some 26, none, .sh 0 (.t 25)⟩,
 ⟨some 27, none, .sh 0 (.t 26)⟩,
 ⟨some 28, none, .ld none (.t 27)⟩,
 ⟨some 29, none, .mv (.t 0)⟩,
 ⟨some 30, none, .nck (.t 29) (pu (.nilCheck (.tmp 29)) 0)⟩,
 ⟨some 31, none, .sh 7 (.t 30)⟩,
 ⟨some 32, none, .sh 0 (.t 31)⟩,
 ⟨some 33, none, .ld none (.t 32)⟩,
 ⟨some 34, none, .call 29 [(.t 23), (.t 28), (.t 33)]⟩,
 ⟨some 4, none, .mv (.t 34)⟩])
 (.seq (.reg [⟨some 35, none, .mv (.t 0)⟩,
 ⟨some 36, none, .mv (.t 0)⟩,
 ⟨some 37, none, .nck (.t 36) (pu (.nilCheck (.tmp 36)) 0)⟩,
 ⟨some 38, none, .sh 0 (.t 37)⟩,
 ⟨some 39, none, .sh 6 (.t 38)⟩,
 ⟨some 40, none, .ld none (.t 39)⟩,
 ⟨some 41, none, .mv (.t 4)⟩,
 ⟨some 42, none, .call 44 [(.t 40), (.t 41)]⟩,
 ⟨some 43, none, .nck (.t 35) (pu (.nilCheck (.tmp 35)) 0)⟩,
 ⟨some 44, none, .sh 0 (.t 43)⟩,
 ⟨some 45, none, .sh 6 (.t 44)⟩,
 ⟨none, none, .st 1 (.t 45) (.t 42)⟩])
 (.seq (.reg [⟨some 46, none, .mv (.t 0)⟩,
 ⟨some 47, none, .mv (.t 0)⟩,
 ⟨some 48, none, .nck (.t 47) (pu (.nilCheck (.tmp 47)) 0)⟩,
 ⟨some 49, none, .sh 7 (.t 48)⟩,
 ⟨some 50, none, .sh 6 (.t 49)⟩,
 ⟨some 51, none, .ld none (.t 50)⟩,
 ⟨some 52, none, .mv (.t 3)⟩,
 ⟨some 53, none, .call 44 [(.t 51), (.t 52)]⟩,
 ⟨some 54, none, .nck (.t 46) (pu (.nilCheck (.tmp 46)) 0)⟩,
 ⟨some 55, none, .sh 7 (.t 54)⟩,
 ⟨some 56, none, .sh 6 (.t 55)⟩,
 ⟨none, none, .st 1 (.t 56) (.t 53)⟩])
 (.seq (.seq (.reg [⟨some 57, none, .mv (.t 0)⟩,
 ⟨some 58, none, .nck (.t 57) (pu (.nilCheck (.tmp 57)) 0)⟩,
 ⟨some 59, none, .sh 0 (.t 58)⟩,
 ⟨some 60, none, .sh 6 (.t 59)⟩,
 ⟨some 61, none, .ld none (.t 60)⟩,
 ⟨some 62, none, .len (.t 61) (pu (.call ⟨.builtin .len, #[(.tmp 61)], #[28]⟩) 3)⟩,
 ⟨some 63, none, .bin .gtr false (.t 62) (.k (.sc (.int .i64 256))) (pu (.binOp .gtr 3 (.tmp 62) (.const (.int .i64 256)) 3) 4)⟩,
 ⟨some 64, none, .mv (.t 63)⟩,
 ⟨some 65, (some ((some 64), false)), .mv (.t 0)⟩,
 ⟨some 66, (some ((some 64), false)), .nck (.t 65) (pu (.nilCheck (.tmp 65)) 0)⟩,
 ⟨some 67, (some ((some 64), false)), .sh 7 (.t 66)⟩,
 ⟨some 68, (some ((some 64), false)), .sh 6 (.t 67)⟩,
 ⟨some 69, (some ((some 64), false)), .ld none (.t 68)⟩,
 ⟨some 70, (some ((some 64), false)), .len (.t 69) (pu (.call ⟨.builtin .len, #[(.tmp 69)], #[28]⟩) 3)⟩,
 ⟨some 71, (some ((some 64), false)), .bin .gtr false (.t 70) (.k (.sc (.int .i64 256))) (pu (.binOp .gtr 3 (.tmp 70) (.const (.int .i64 256)) 3) 4)⟩,
 ⟨some 72, none, .pick (.t 64) (.k (.sc (.bool true))) (.t 71)⟩])
 (.cond (.t 72) (.seq (.reg [⟨some 2, none, .mv (.k (.sc (.int .i64 3)))⟩])
 .ret)
 .skip))
 (.seq (.reg [⟨some 2, none, .mv (.k (.sc (.int .i64 0)))⟩])
 .ret)))))))
def k24 : List Nat := [0, 2, 3, 4, 72]
theorem ic24 : factsI Try.prog 24 = some (73, [.tmp 2], c24) := by kernel_rfl
def c25 : IC :=
 (.seq (.reg [⟨some 4, none, .bx (.t 0)⟩,
 ⟨some 8, none, .al (.agg [.sc (.string ⟨#[]⟩), .sc (.string ⟨#[]⟩), .sc (.slice none 0 0), .sc (.slice none 0 0), .sc (.int .i64 0), .sc (.slice none 0 0), .sc (.slice none 0 0)]) 7⟩,
 ⟨some 9, none, .mv (.k (.sc (.int .i64 0)))⟩])
 (.seq (.seq (.reg [⟨some 15, none, .ld (some 7) (.t 4)⟩,
 ⟨some 16, none, .call 14 [(.t 15)]⟩,
 ⟨some 10, none, .mv (.t 16)⟩])
 (.seq (.reg [⟨some 17, none, .mv (.t 10)⟩,
 ⟨some 18, none, .bin .neq false (.t 17) (.k (.sc (.int .i64 0))) (pu (.binOp .neq 31 (.tmp 17) (.const (.int .i64 0)) 31) 4)⟩])
 (.cond (.t 18) (.seq (.reg [⟨some 19, none, .ld (some 7) (.t 4)⟩,
 ⟨some 20, none, .mv (.t 10)⟩,
 ⟨none, none, .st 7 (.t 8) (.t 19)⟩,
 ⟨some 9, none, .mv (.t 20)⟩])
 .ret)
 .skip)))
 (.seq (.reg [⟨some 21, none, .ld (some 7) (.t 4)⟩,
 ⟨some 22, none, .mv (.t 1)⟩,
 ⟨some 23, none, .call 16 [(.t 21), (.t 22)]⟩,
 ⟨some 11, none, .mv (.t 23)⟩])
 (.seq (.seq (.reg [⟨some 24, none, .mv (.t 11)⟩,
 ⟨some 25, none, .bin .lss false (.t 24) (.k (.sc (.int .i64 0))) (pu (.binOp .lss 3 (.tmp 24) (.const (.int .i64 0)) 3) 4)⟩])
 (.cond (.t 25) (.seq (.reg [⟨some 26, none, .ld (some 7) (.t 4)⟩,
 ⟨none, none, .st 7 (.t 8) (.t 26)⟩,
 ⟨some 9, none, .mv (.k (.sc (.int .i64 8)))⟩])
 .ret)
 .skip))
 (.seq (.seq (.drw [0, 1, 0, 7, 15, 31, 0, 64, 255] [⟨some 27, none, .sh 5 (.t 4)⟩,
 ⟨some 28, none, .ld none (.t 27)⟩,
 ⟨some 29, none, .mv (.t 11)⟩,
 ⟨some 30, none, .ixs 14 (.t 28) (.t 29)⟩,
 ⟨some 31, none, .sh 2 (.t 30)⟩,
 ⟨some 32, none, .ld none (.t 31)⟩,
 ⟨some 33, none, .sh 0 (.t 4)⟩,
 ⟨some 34, none, .ld none (.t 33)⟩,
 ⟨some 35, none, .bin .neq false (.t 32) (.t 34) (pu (.binOp .neq 9 (.tmp 32) (.tmp 34) 9) 4)⟩])
 (.cond (.t 35) (.seq (.reg [⟨some 36, none, .ld (some 7) (.t 4)⟩,
 ⟨none, none, .st 7 (.t 8) (.t 36)⟩,
 ⟨some 9, none, .mv (.k (.sc (.int .i64 15)))⟩])
 .ret)
 .skip))
 (.seq (.drw [0, 1, 0, 7, 15, 0, 32, 0, 0, 511, 1023, 2047, 2047, 0, 12287, 32767] [⟨some 38, none, .sh 5 (.t 4)⟩,
 ⟨some 39, none, .ld none (.t 38)⟩,
 ⟨some 40, none, .mv (.t 11)⟩,
 ⟨some 41, none, .ixs 14 (.t 39) (.t 40)⟩,
 ⟨some 42, none, .ld (some 14) (.t 41)⟩,
 ⟨some 43, none, .sh 0 (.t 4)⟩,
 ⟨some 44, none, .ld none (.t 43)⟩,
 ⟨some 45, none, .mv (.t 2)⟩,
 ⟨some 46, none, .mv (.t 3)⟩,
 ⟨some 47, none, .call 45 [(.t 42), (.t 44), (.t 45), (.t 46)]⟩,
 ⟨some 37, none, .mv (.t 47)⟩,
 ⟨some 48, none, .ext (.t 37) 0⟩,
 ⟨some 49, none, .ext (.t 37) 1⟩,
 ⟨some 12, none, .al (.agg [.sc (.string ⟨#[]⟩), .sc (.string ⟨#[]⟩), .sc (.int .i64 0), .sc (.int .i64 0), .sc (.int .i64 0), .sc (.int .i64 0)]) 6⟩,
 ⟨none, none, .st 6 (.t 12) (.t 48)⟩,
 ⟨some 13, none, .mv (.t 49)⟩])
 (.seq (.seq (.reg [⟨some 50, none, .mv (.t 13)⟩,
 ⟨some 51, none, .bin .neq false (.t 50) (.k (.sc (.int .i64 0))) (pu (.binOp .neq 31 (.tmp 50) (.const (.int .i64 0)) 31) 4)⟩])
 (.cond (.t 51) (.seq (.reg [⟨some 52, none, .ld (some 7) (.t 4)⟩,
 ⟨some 53, none, .mv (.t 13)⟩,
 ⟨none, none, .st 7 (.t 8) (.t 52)⟩,
 ⟨some 9, none, .mv (.t 53)⟩])
 .ret)
 .skip))
 (.seq (.seq (.reg [⟨some 54, none, .ld (some 7) (.t 4)⟩,
 ⟨some 55, none, .mv (.t 1)⟩,
 ⟨some 56, none, .call 46 [(.t 54), (.t 55)]⟩,
 ⟨some 57, none, .bin .geq false (.t 56) (.k (.sc (.int .i64 0))) (pu (.binOp .geq 3 (.tmp 56) (.const (.int .i64 0)) 3) 4)⟩])
 (.cond (.t 57) (.seq (.reg [⟨some 58, none, .ld (some 7) (.t 4)⟩,
 ⟨none, none, .st 7 (.t 8) (.t 58)⟩,
 ⟨some 9, none, .mv (.k (.sc (.int .i64 9)))⟩])
 .ret)
 .skip))
 (.seq (.seq (.reg [⟨some 59, none, .sh 6 (.t 4)⟩,
 ⟨some 60, none, .ld none (.t 59)⟩,
 ⟨some 61, none, .len (.t 60) (pu (.call ⟨.builtin .len, #[(.tmp 60)], #[28]⟩) 3)⟩,
 ⟨some 62, none, .bin .geq false (.t 61) (.k (.sc (.int .i64 256))) (pu (.binOp .geq 3 (.tmp 61) (.const (.int .i64 256)) 3) 4)⟩])
 (.cond (.t 62) (.seq (.reg [⟨some 63, none, .ld (some 7) (.t 4)⟩,
 ⟨none, none, .st 7 (.t 8) (.t 63)⟩,
 ⟨some 9, none, .mv (.k (.sc (.int .i64 3)))⟩])
 .ret)
 .skip))
 (.seq (.reg [⟨some 64, none, .ld (some 7) (.t 4)⟩,
 ⟨some 65, none, .call 18 [(.t 64)]⟩,
 ⟨some 14, none, .al (.agg [.sc (.string ⟨#[]⟩), .sc (.string ⟨#[]⟩), .sc (.slice none 0 0), .sc (.slice none 0 0), .sc (.int .i64 0), .sc (.slice none 0 0), .sc (.slice none 0 0)]) 7⟩,
 ⟨none, none, .st 7 (.t 14) (.t 65)⟩])
 (.seq (.reg [⟨some 66, none, .sh 6 (.t 14)⟩,
 ⟨some 67, none, .ld none (.t 66)⟩,
 ⟨some 68, none, .ld (some 6) (.t 12)⟩,
 ⟨some 69, none, .bsl 6 1 true [.sc (.string ⟨#[]⟩), .sc (.string ⟨#[]⟩), .sc (.int .i64 0), .sc (.int .i64 0), .sc (.int .i64 0), .sc (.int .i64 0)] [(0, 6, (.t 68))]⟩,
 ⟨some 70, none, .app 6 64 (.t 67) (.t 69)⟩,
 ⟨some 71, none, .sh 6 (.t 14)⟩,
 ⟨none, none, .st 1 (.t 71) (.t 70)⟩])
 (.seq (.reg [⟨some 72, none, .ld (some 7) (.t 14)⟩,
 ⟨none, none, .st 7 (.t 8) (.t 72)⟩,
 ⟨some 9, none, .mv (.k (.sc (.int .i64 0)))⟩])
 .ret))))))))))))
def k25 : List Nat := [0, 1, 2, 3, 4, 8, 9, 10, 11, 12, 13, 14, 18, 25, 35, 51, 57, 62]
theorem ic25 : factsI Try.prog 25 = some (73, [.cell 8 30, .tmp 9], c25) := by kernel_rfl
def c26 : IC :=
 (.seq (.reg [⟨some 5, none, .bx (.t 0)⟩,
 ⟨some 10, none, .al (.agg [.sc (.string ⟨#[]⟩), .sc (.string ⟨#[]⟩), .sc (.slice none 0 0), .sc (.slice none 0 0), .sc (.int .i64 0), .sc (.slice none 0 0), .sc (.slice none 0 0)]) 7⟩,
 ⟨some 11, none, .mv (.k (.sc (.int .i64 0)))⟩])
 (.seq (.seq (.reg [⟨some 17, none, .ld (some 7) (.t 5)⟩,
 ⟨some 18, none, .call 14 [(.t 17)]⟩,
 ⟨some 12, none, .mv (.t 18)⟩])
 (.seq (.reg [⟨some 19, none, .mv (.t 12)⟩,
 ⟨some 20, none, .bin .neq false (.t 19) (.k (.sc (.int .i64 0))) (pu (.binOp .neq 31 (.tmp 19) (.const (.int .i64 0)) 31) 4)⟩])
 (.cond (.t 20) (.seq (.reg [⟨some 21, none, .ld (some 7) (.t 5)⟩,
 ⟨some 22, none, .mv (.t 12)⟩,
 ⟨none, none, .st 7 (.t 10) (.t 21)⟩,
 ⟨some 11, none, .mv (.t 22)⟩])
 .ret)
 .skip)))
 (.seq (.reg [⟨some 23, none, .ld (some 7) (.t 5)⟩,
 ⟨some 24, none, .mv (.t 1)⟩,
 ⟨some 25, none, .call 46 [(.t 23), (.t 24)]⟩,
 ⟨some 13, none, .mv (.t 25)⟩])
 (.seq (.seq (.reg [⟨some 26, none, .mv (.t 13)⟩,
 ⟨some 27, none, .bin .lss false (.t 26) (.k (.sc (.int .i64 0))) (pu (.binOp .lss 3 (.tmp 26) (.const (.int .i64 0)) 3) 4)⟩])
 (.cond (.t 27) (.seq (.reg [⟨some 28, none, .ld (some 7) (.t 5)⟩,
 ⟨none, none, .st 7 (.t 10) (.t 28)⟩,
 ⟨some 11, none, .mv (.k (.sc (.int .i64 8)))⟩])
 .ret)
 .skip))
 (.seq (.drw [0, 1, 0, 7, 15, 0, 32, 0, 0, 0, 1023, 2047, 4095, 4095, 0, 24575, 65535] [⟨some 30, none, .sh 6 (.t 5)⟩,
 ⟨some 31, none, .ld none (.t 30)⟩,
 ⟨some 32, none, .mv (.t 13)⟩,
 ⟨some 33, none, .ixs 6 (.t 31) (.t 32)⟩,
 ⟨some 34, none, .ld (some 6) (.t 33)⟩,
 ⟨some 35, none, .sh 0 (.t 5)⟩,
 ⟨some 36, none, .ld none (.t 35)⟩,
 ⟨some 37, none, .mv (.t 2)⟩,
 ⟨some 38, none, .mv (.t 3)⟩,
 ⟨some 39, none, .mv (.t 4)⟩,
 ⟨some 40, none, .call 47 [(.t 34), (.t 36), (.t 37), (.t 38), (.t 39)]⟩,
 ⟨some 29, none, .mv (.t 40)⟩,
 ⟨some 41, none, .ext (.t 29) 0⟩,
 ⟨some 42, none, .ext (.t 29) 1⟩,
 ⟨some 14, none, .al (.agg [.sc (.string ⟨#[]⟩), .sc (.string ⟨#[]⟩), .sc (.int .i64 0), .sc (.int .i64 0), .sc (.int .i64 0), .sc (.int .i64 0)]) 6⟩,
 ⟨none, none, .st 6 (.t 14) (.t 41)⟩,
 ⟨some 15, none, .mv (.t 42)⟩])
 (.seq (.seq (.reg [⟨some 43, none, .mv (.t 15)⟩,
 ⟨some 44, none, .bin .neq false (.t 43) (.k (.sc (.int .i64 0))) (pu (.binOp .neq 31 (.tmp 43) (.const (.int .i64 0)) 31) 4)⟩])
 (.cond (.t 44) (.seq (.reg [⟨some 45, none, .ld (some 7) (.t 5)⟩,
 ⟨some 46, none, .mv (.t 15)⟩,
 ⟨none, none, .st 7 (.t 10) (.t 45)⟩,
 ⟨some 11, none, .mv (.t 46)⟩])
 .ret)
 .skip))
 (.seq (.reg [⟨some 47, none, .ld (some 7) (.t 5)⟩,
 ⟨some 48, none, .call 18 [(.t 47)]⟩,
 ⟨some 16, none, .al (.agg [.sc (.string ⟨#[]⟩), .sc (.string ⟨#[]⟩), .sc (.slice none 0 0), .sc (.slice none 0 0), .sc (.int .i64 0), .sc (.slice none 0 0), .sc (.slice none 0 0)]) 7⟩,
 ⟨none, none, .st 7 (.t 16) (.t 48)⟩])
 (.seq (.reg [⟨some 49, none, .sh 6 (.t 16)⟩,
 ⟨some 50, none, .ld none (.t 49)⟩,
 ⟨some 51, none, .mv (.t 13)⟩,
 ⟨some 52, none, .ld (some 6) (.t 14)⟩,
 ⟨some 53, none, .ixs 6 (.t 50) (.t 51)⟩,
 ⟨none, none, .st 6 (.t 53) (.t 52)⟩])
 (.seq (.reg [⟨some 54, none, .ld (some 7) (.t 16)⟩,
 ⟨none, none, .st 7 (.t 10) (.t 54)⟩,
 ⟨some 11, none, .mv (.k (.sc (.int .i64 0)))⟩])
 .ret)))))))))
def k26 : List Nat := [0, 1, 2, 3, 4, 5, 10, 11, 12, 13, 14, 15, 16, 20, 27, 44]
theorem ic26 : factsI Try.prog 26 = some (55, [.cell 10 30, .tmp 11], c26) := by kernel_rfl
def c27 : IC :=
 (.seq (.reg [⟨some 3, none, .bx (.t 0)⟩,
 ⟨some 6, none, .mv (.k (.sc (.map none)))⟩,
 ⟨some 7, none, .mv (.k (.sc (.int .i64 0)))⟩])
 (.seq (.reg [⟨some 12, none, .mmk none⟩,
 ⟨some 8, none, .mv (.t 12)⟩,
 ⟨some 9, none, .mv (.k (.sc (.int .i64 0)))⟩])
 (.seq (.seq (.reg [⟨some 13, none, .sh 5 (.t 3)⟩,
 ⟨some 14, none, .ld none (.t 13)⟩,
 ⟨some 15, none, .len (.t 14) (pu (.call ⟨.builtin .len, #[(.tmp 14)], #[27]⟩) 3)⟩,
 ⟨some 16, none, .mv (.k (.sc (.int .i64 0)))⟩])
 (.block 0 (.loop (.seq (.reg [⟨some 17, none, .bin .lss false (.t 16) (.t 15) (pu (.binOp .lss 3 (.tmp 16) (.tmp 15) 3) 0)⟩])
 (.seq (.cond (.t 17) .skip
 (.exit 0))
 (.seq (.block 1 (.seq (.reg [⟨some 18, none, .ixs 14 (.t 14) (.t 16)⟩,
 ⟨some 19, none, .ld (some 14) (.t 18)⟩,
 ⟨some 11, none, .al (.agg [.sc (.string ⟨#[]⟩), .sc (.string ⟨#[]⟩), .sc (.string ⟨#[]⟩), .sc (.string ⟨#[]⟩), .sc (.int .i64 0), .sc (.int .i64 0), .sc (.int .i64 0), .sc (.int .i64 0), .sc (.string ⟨#[]⟩), .sc (.string ⟨#[]⟩), .sc (.slice none 0 0), .sc (.int .i64 0), .sc (.bool false), .sc (.string ⟨#[]⟩)]) 14⟩,
 ⟨none, none, .st 14 (.t 11) (.t 19)⟩])
 (.seq (.reg [⟨some 20, none, .ld (some 14) (.t 11)⟩,
 ⟨some 21, none, .mv (.t 1)⟩,
 ⟨some 22, none, .mv (.t 2)⟩,
 ⟨some 23, none, .call 48 [(.t 20), (.t 21), (.t 22)]⟩])
 (.cond (.t 23) (.seq (.reg [⟨some 24, none, .mv (.t 8)⟩,
 ⟨some 25, none, .sh 0 (.t 11)⟩,
 ⟨some 26, none, .ld none (.t 25)⟩,
 ⟨some 27, none, .ld (some 14) (.t 11)⟩,
 ⟨none, none, .mpt false [.s] (.t 24) (.t 26) (.t 27)⟩])
 (.reg [⟨some 28, none, .mv (.t 9)⟩,
 ⟨some 29, none, .bin .add false (.t 28) (.k (.sc (.int .i64 1))) (pu (.binOp .add 3 (.tmp 28) (.const (.int .i64 1)) 3) 3)⟩,
 ⟨some 9, none, .mv (.t 29)⟩]))
 .skip))))
 (.reg [⟨some 30, none, .bin .add false (.t 16) (.k (.sc (.int .i64 1))) (pu (.binOp .add 3 (.tmp 16) (.const (.int .i64 1)) 3) 3)⟩,
 ⟨some 16, none, .mv (.t 30)⟩])))))))
 (.seq (.reg [⟨some 31, none, .mv (.t 8)⟩,
 ⟨some 32, none, .mv (.t 9)⟩,
 ⟨some 6, none, .mv (.t 31)⟩,
 ⟨some 7, none, .mv (.t 32)⟩])
 .ret))))
def k27 : List Nat := [0, 1, 2, 3, 6, 7, 8, 9, 11, 14, 15, 16, 17, 23]
theorem ic27 : factsI Try.prog 27 = some (33, [.tmp 6, .tmp 7], c27) := by kernel_rfl
def c28 : IC :=
 (.seq (.reg [⟨some 2, none, .bx (.t 0)⟩,
 ⟨some 3, none, .bx (.t 1)⟩,
 ⟨some 4, none, .mv (.k (.sc (.bool false)))⟩])
 (.seq (.reg [⟨some 5, none, .sh 0 (.t 2)⟩,
 ⟨some 6, none, .ld none (.t 5)⟩,
 ⟨some 7, none, .sh 0 (.t 3)⟩,
 ⟨some 8, none, .ld none (.t 7)⟩,
 ⟨some 9, none, .bin .eql false (.t 6) (.t 8) (pu (.binOp .eql 9 (.tmp 6) (.tmp 8) 9) 4)⟩,
 ⟨some 10, none, .mv (.t 9)⟩,
 ⟨some 11, (some ((some 10), true)), .sh 1 (.t 2)⟩,
 ⟨some 12, (some ((some 10), true)), .ld none (.t 11)⟩,
 ⟨some 13, (some ((some 10), true)), .sh 1 (.t 3)⟩,
 ⟨some 14, (some ((some 10), true)), .ld none (.t 13)⟩,
 ⟨some 15, (some ((some 10), true)), .bin .eql false (.t 12) (.t 14) (pu (.binOp .eql 9 (.tmp 12) (.tmp 14) 9) 4)⟩,
 ⟨some 16, none, .pick (.t 10) (.t 15) (.k (.sc (.bool false)))⟩,
 ⟨some 17, none, .mv (.t 16)⟩,
 ⟨some 18, (some ((some 17), true)), .sh 2 (.t 2)⟩,
 ⟨some 19, (some ((some 17), true)), .ld none (.t 18)⟩,
 ⟨some 20, (some ((some 17), true)), .sh 2 (.t 3)⟩,
 ⟨some 21, (some ((some 17), true)), .ld none (.t 20)⟩,
 ⟨some 22, (some ((some 17), true)), .bin .eql false (.t 19) (.t 21) (pu (.binOp .eql 9 (.tmp 19) (.tmp 21) 9) 4)⟩,
 ⟨some 23, none, .pick (.t 17) (.t 22) (.k (.sc (.bool false)))⟩,
 ⟨some 24, none, .mv (.t 23)⟩,
 ⟨some 25, (some ((some 24), true)), .sh 3 (.t 2)⟩,
 ⟨some 26, (some ((some 24), true)), .ld none (.t 25)⟩,
 ⟨some 27, (some ((some 24), true)), .sh 3 (.t 3)⟩,
 ⟨some 28, (some ((some 24), true)), .ld none (.t 27)⟩,
 ⟨some 29, (some ((some 24), true)), .bin .eql false (.t 26) (.t 28) (pu (.binOp .eql 9 (.tmp 26) (.tmp 28) 9) 4)⟩,
 ⟨some 30, none, .pick (.t 24) (.t 29) (.k (.sc (.bool false)))⟩,
 ⟨some 31, none, .mv (.t 30)⟩,
 ⟨some 32, (some ((some 31), true)), .sh 4 (.t 2)⟩,
 ⟨some 33, (some ((some 31), true)), .ld none (.t 32)⟩,
 ⟨some 34, (some ((some 31), true)), .sh 4 (.t 3)⟩,
 ⟨some 35, (some ((some 31), true)), .ld none (.t 34)⟩,
 ⟨some 36, (some ((some 31), true)), .bin .eql false (.t 33) (.t 35) (pu (.binOp .eql 3 (.tmp 33) (.tmp 35) 3) 4)⟩,
 ⟨some 37, none, .pick (.t 31) (.t 36) (.k (.sc (.bool false)))⟩,
 ⟨some 38, none, .mv (.t 37)⟩,
 ⟨some 39, (some ((some 38), true)), .sh 5 (.t 2)⟩,
 ⟨some 40, (some ((some 38), true)), .ld none (.t 39)⟩,
 ⟨some 41, (some ((some 38), true)), .sh 5 (.t 3)⟩,
 ⟨some 42, (some ((some 38), true)), .ld none (.t 41)⟩,
 ⟨some 43, (some ((some 38), true)), .bin .eql false (.t 40) (.t 42) (pu (.binOp .eql 3 (.tmp 40) (.tmp 42) 3) 4)⟩,
 ⟨some 44, none, .pick (.t 38) (.t 43) (.k (.sc (.bool false)))⟩,
 ⟨some 45, none, .mv (.t 44)⟩,
 ⟨some 46, (some ((some 45), true)), .sh 6 (.t 2)⟩,
 ⟨some 47, (some ((some 45), true)), .ld none (.t 46)⟩,
 ⟨some 48, (some ((some 45), true)), .sh 6 (.t 3)⟩,
 ⟨some 49, (some ((some 45), true)), .ld none (.t 48)⟩,
 ⟨some 50, (some ((some 45), true)), .bin .eql false (.t 47) (.t 49) (pu (.binOp .eql 3 (.tmp 47) (.tmp 49) 3) 4)⟩,
 ⟨some 51, none, .pick (.t 45) (.t 50) (.k (.sc (.bool false)))⟩,
 ⟨some 52, none, .mv (.t 51)⟩,
 ⟨some 53, (some ((some 52), true)), .sh 7 (.t 2)⟩,
 ⟨some 54, (some ((some 52), true)), .ld none (.t 53)⟩,
 ⟨some 55, (some ((some 52), true)), .sh 7 (.t 3)⟩,
 ⟨some 56, (some ((some 52), true)), .ld none (.t 55)⟩,
 ⟨some 57, (some ((some 52), true)), .bin .eql false (.t 54) (.t 56) (pu (.binOp .eql 3 (.tmp 54) (.tmp 56) 3) 4)⟩,
 ⟨some 58, none, .pick (.t 52) (.t 57) (.k (.sc (.bool false)))⟩,
 ⟨some 59, none, .mv (.t 58)⟩,
 ⟨some 60, (some ((some 59), true)), .sh 8 (.t 2)⟩,
 ⟨some 61, (some ((some 59), true)), .ld none (.t 60)⟩,
 ⟨some 62, (some ((some 59), true)), .sh 8 (.t 3)⟩,
 ⟨some 63, (some ((some 59), true)), .ld none (.t 62)⟩,
 ⟨some 64, (some ((some 59), true)), .bin .eql false (.t 61) (.t 63) (pu (.binOp .eql 9 (.tmp 61) (.tmp 63) 9) 4)⟩,
 ⟨some 65, none, .pick (.t 59) (.t 64) (.k (.sc (.bool false)))⟩,
 ⟨some 66, none, .mv (.t 65)⟩,
 ⟨some 67, (some ((some 66), true)), .sh 9 (.t 2)⟩,
 ⟨some 68, (some ((some 66), true)), .ld none (.t 67)⟩,
 ⟨some 69, (some ((some 66), true)), .sh 9 (.t 3)⟩,
 ⟨some 70, (some ((some 66), true)), .ld none (.t 69)⟩,
 ⟨some 71, (some ((some 66), true)), .bin .eql false (.t 68) (.t 70) (pu (.binOp .eql 9 (.tmp 68) (.tmp 70) 9) 4)⟩,
 ⟨some 72, none, .pick (.t 66) (.t 71) (.k (.sc (.bool false)))⟩,
 ⟨some 73, none, .mv (.t 72)⟩,
 ⟨some 74, (some ((some 73), true)), .sh 10 (.t 2)⟩,
 ⟨some 75, (some ((some 73), true)), .ld none (.t 74)⟩,
 ⟨some 76, (some ((some 73), true)), .sh 10 (.t 3)⟩,
 ⟨some 77, (some ((some 73), true)), .ld none (.t 76)⟩,
 ⟨some 78, (some ((some 73), true)), .call 49 [(.t 75), (.t 77)]⟩,
 ⟨some 79, none, .pick (.t 73) (.t 78) (.k (.sc (.bool false)))⟩,
 ⟨some 80, none, .mv (.t 79)⟩,
 ⟨some 81, (some ((some 80), true)), .sh 11 (.t 2)⟩,
 ⟨some 82, (some ((some 80), true)), .ld none (.t 81)⟩,
 ⟨some 83, (some ((some 80), true)), .sh 11 (.t 3)⟩,
 ⟨some 84, (some ((some 80), true)), .ld none (.t 83)⟩,
 ⟨some 85, (some ((some 80), true)), .bin .eql false (.t 82) (.t 84) (pu (.binOp .eql 3 (.tmp 82) (.tmp 84) 3) 4)⟩,
 ⟨some 86, none, .pick (.t 80) (.t 85) (.k (.sc (.bool false)))⟩,
 ⟨some 87, none, .mv (.t 86)⟩,
 ⟨some 88, (some ((some 87), true)), .sh 12 (.t 2)⟩,
 ⟨some 89, (some ((some 87), true)), .ld none (.t 88)⟩,
 ⟨some 90, (some ((some 87), true)), .sh 12 (.t 3)⟩,
 ⟨some 91, (some ((some 87), true)), .ld none (.t 90)⟩,
 ⟨some 92, (some ((some 87), true)), .bin .eql true (.t 89) (.t 91) (pu (.binOp .eql 4 (.tmp 89) (.tmp 91) 4) 4)⟩,
 ⟨some 93, none, .pick (.t 87) (.t 92) (.k (.sc (.bool false)))⟩,
 ⟨some 94, none, .mv (.t 93)⟩,
 ⟨some 95, (some ((some 94), true)), .sh 13 (.t 2)⟩,
 ⟨some 96, (some ((some 94), true)), .ld none (.t 95)⟩,
 ⟨some 97, (some ((some 94), true)), .sh 13 (.t 3)⟩,
 ⟨some 98, (some ((some 94), true)), .ld none (.t 97)⟩,
 ⟨some 99, (some ((some 94), true)), .bin .eql false (.t 96) (.t 98) (pu (.binOp .eql 9 (.tmp 96) (.tmp 98) 9) 4)⟩,
 ⟨some 100, none, .pick (.t 94) (.t 99) (.k (.sc (.bool false)))⟩,
 ⟨some 4, none, .mv (.t 100)⟩])
 .ret))
def k28 : List Nat := [0, 1, 2, 3, 4]
theorem ic28 : factsI Try.prog 28 = some (101, [.tmp 4], c28) := by kernel_rfl
def c29 : IC :=
 (.seq (.reg [⟨some 3, none, .bx (.t 0)⟩,
 ⟨some 6, none, .mv (.k (.sc (.slice none 0 0)))⟩])
 (.seq (.reg [⟨some 13, none, .mmk none⟩,
 ⟨some 7, none, .mv (.t 13)⟩])
 (.seq (.seq (.reg [⟨some 14, none, .sh 5 (.t 3)⟩,
 ⟨some 15, none, .ld none (.t 14)⟩,
 ⟨some 16, none, .len (.t 15) (pu (.call ⟨.builtin .len, #[(.tmp 15)], #[27]⟩) 3)⟩,
 ⟨some 17, none, .mv (.k (.sc (.int .i64 0)))⟩])
 (.block 0 (.loop (.seq (.reg [⟨some 18, none, .bin .lss false (.t 17) (.t 16) (pu (.binOp .lss 3 (.tmp 17) (.tmp 16) 3) 0)⟩])
 (.seq (.cond (.t 18) .skip
 (.exit 0))
 (.seq (.block 1 (.seq (.reg [⟨some 19, none, .ixs 14 (.t 15) (.t 17)⟩,
 ⟨some 20, none, .ld (some 14) (.t 19)⟩,
 ⟨some 9, none, .al (.agg [.sc (.string ⟨#[]⟩), .sc (.string ⟨#[]⟩), .sc (.string ⟨#[]⟩), .sc (.string ⟨#[]⟩), .sc (.int .i64 0), .sc (.int .i64 0), .sc (.int .i64 0), .sc (.int .i64 0), .sc (.string ⟨#[]⟩), .sc (.string ⟨#[]⟩), .sc (.slice none 0 0), .sc (.int .i64 0), .sc (.bool false), .sc (.string ⟨#[]⟩)]) 14⟩,
 ⟨none, none, .st 14 (.t 9) (.t 20)⟩])
 (.seq (.reg [⟨some 21, none, .ld (some 14) (.t 9)⟩,
 ⟨some 22, none, .mv (.t 1)⟩,
 ⟨some 23, none, .mv (.t 2)⟩,
 ⟨some 24, none, .call 48 [(.t 21), (.t 22), (.t 23)]⟩])
 (.cond (.t 24) (.reg [⟨some 25, none, .mv (.t 7)⟩,
 ⟨some 26, none, .sh 0 (.t 9)⟩,
 ⟨some 27, none, .ld none (.t 26)⟩,
 ⟨none, none, .mpt false [.s] (.t 25) (.t 27) (.k (.sc (.bool true)))⟩])
 .skip))))
 (.reg [⟨some 28, none, .bin .add false (.t 17) (.k (.sc (.int .i64 1))) (pu (.binOp .add 3 (.tmp 17) (.const (.int .i64 1)) 3) 3)⟩,
 ⟨some 17, none, .mv (.t 28)⟩])))))))
 (.seq (.reg [⟨some 10, none, .mv (.k (.sc (.slice none 0 0)))⟩])
 (.seq (.seq (.reg [⟨some 29, none, .sh 6 (.t 3)⟩,
 ⟨some 30, none, .ld none (.t 29)⟩,
 ⟨some 31, none, .len (.t 30) (pu (.call ⟨.builtin .len, #[(.tmp 30)], #[28]⟩) 3)⟩,
 ⟨some 32, none, .mv (.k (.sc (.int .i64 0)))⟩])
 (.block 2 (.loop (.seq (.reg [⟨some 33, none, .bin .lss false (.t 32) (.t 31) (pu (.binOp .lss 3 (.tmp 32) (.tmp 31) 3) 0)⟩])
 (.seq (.cond (.t 33) .skip
 (.exit 2))
 (.seq (.block 3 (.seq (.reg [⟨some 34, none, .ixs 6 (.t 30) (.t 32)⟩,
 ⟨some 35, none, .ld (some 6) (.t 34)⟩,
 ⟨some 12, none, .al (.agg [.sc (.string ⟨#[]⟩), .sc (.string ⟨#[]⟩), .sc (.int .i64 0), .sc (.int .i64 0), .sc (.int .i64 0), .sc (.int .i64 0)]) 6⟩,
 ⟨none, none, .st 6 (.t 12) (.t 35)⟩])
 (.seq (.reg [⟨some 36, none, .mv (.t 7)⟩,
 ⟨some 37, none, .sh 0 (.t 12)⟩,
 ⟨some 38, none, .ld none (.t 37)⟩,
 ⟨some 39, none, .mlk false [.s] (.sc (.bool false)) false (.t 36) (.t 38) (pu (.lookup 105 (.tmp 36) (.tmp 38) false) 4)⟩])
 (.cond (.t 39) (.reg [⟨some 40, none, .mv (.t 10)⟩,
 ⟨some 41, none, .ld (some 6) (.t 12)⟩,
 ⟨some 42, none, .bsl 6 1 true [.sc (.string ⟨#[]⟩), .sc (.string ⟨#[]⟩), .sc (.int .i64 0), .sc (.int .i64 0), .sc (.int .i64 0), .sc (.int .i64 0)] [(0, 6, (.t 41))]⟩,
 ⟨some 43, none, .app 6 64 (.t 40) (.t 42)⟩,
 ⟨some 10, none, .mv (.t 43)⟩])
 .skip))))
 (.reg [⟨some 44, none, .bin .add false (.t 32) (.k (.sc (.int .i64 1))) (pu (.binOp .add 3 (.tmp 32) (.const (.int .i64 1)) 3) 3)⟩,
 ⟨some 32, none, .mv (.t 44)⟩])))))))
 (.seq (.reg [⟨some 45, none, .mv (.t 10)⟩,
 ⟨some 6, none, .mv (.t 45)⟩])
 .ret))))))
def k29 : List Nat := [0, 1, 2, 3, 6, 7, 9, 10, 12, 15, 16, 17, 18, 24, 30, 31, 32, 33, 39]
theorem ic29 : factsI Try.prog 29 = some (46, [.tmp 6], c29) := by kernel_rfl
def c30 : IC :=
 (.seq (.reg [⟨some 11, none, .bx (.t 5)⟩,
 ⟨some 12, none, .al (.agg [.sc (.string ⟨#[]⟩), .sc (.string ⟨#[]⟩), .sc (.string ⟨#[]⟩), .sc (.int .i64 0)]) 4⟩,
 ⟨some 13, none, .mv (.k (.sc (.int .i64 0)))⟩])
 (.seq (.reg [⟨some 19, none, .mv (.t 0)⟩,
 ⟨some 20, none, .mv (.t 1)⟩,
 ⟨some 21, none, .mv (.t 2)⟩,
 ⟨some 22, none, .mv (.t 3)⟩,
 ⟨some 23, none, .mv (.t 4)⟩,
 ⟨some 24, none, .ld (some 2) (.t 11)⟩,
 ⟨some 25, none, .call 50 [(.t 19), (.t 20), (.t 21), (.t 22), (.t 23), (.t 24)]⟩,
 ⟨some 18, none, .mv (.t 25)⟩,
 ⟨some 26, none, .ext (.t 18) 0⟩,
 ⟨some 27, none, .ext (.t 18) 1⟩,
 ⟨some 14, none, .mv (.t 26)⟩,
 ⟨some 15, none, .mv (.t 27)⟩])
 (.seq (.seq (.reg [⟨some 28, none, .mv (.t 15)⟩,
 ⟨some 29, none, .bin .neq false (.t 28) (.k (.sc (.int .i64 0))) (pu (.binOp .neq 31 (.tmp 28) (.const (.int .i64 0)) 31) 4)⟩])
 (.cond (.t 29) (.seq (.reg [⟨some 30, none, .bld [.sc (.string ⟨#[]⟩), .sc (.string ⟨#[]⟩), .sc (.string ⟨#[]⟩), .sc (.int .i64 0)] []⟩,
 ⟨some 31, none, .mv (.t 15)⟩,
 ⟨none, none, .st 4 (.t 12) (.t 30)⟩,
 ⟨some 13, none, .mv (.t 31)⟩])
 .ret)
 .skip))
 (.seq (.reg [⟨some 33, none, .mv (.t 0)⟩,
 ⟨some 34, none, .mv (.t 1)⟩,
 ⟨some 35, none, .mv (.t 3)⟩,
 ⟨some 36, none, .mv (.t 2)⟩,
 ⟨some 37, none, .mv (.t 4)⟩,
 ⟨some 38, none, .ld (some 2) (.t 11)⟩,
 ⟨some 39, none, .call 50 [(.t 33), (.t 34), (.t 35), (.t 36), (.t 37), (.t 38)]⟩,
 ⟨some 32, none, .mv (.t 39)⟩,
 ⟨some 40, none, .ext (.t 32) 0⟩,
 ⟨some 41, none, .ext (.t 32) 1⟩,
 ⟨some 16, none, .mv (.t 40)⟩,
 ⟨some 15, none, .mv (.t 41)⟩])
 (.seq (.seq (.reg [⟨some 42, none, .mv (.t 15)⟩,
 ⟨some 43, none, .bin .neq false (.t 42) (.k (.sc (.int .i64 0))) (pu (.binOp .neq 31 (.tmp 42) (.const (.int .i64 0)) 31) 4)⟩])
 (.cond (.t 43) (.seq (.reg [⟨some 44, none, .bld [.sc (.string ⟨#[]⟩), .sc (.string ⟨#[]⟩), .sc (.string ⟨#[]⟩), .sc (.int .i64 0)] []⟩,
 ⟨some 45, none, .mv (.t 15)⟩,
 ⟨none, none, .st 4 (.t 12) (.t 44)⟩,
 ⟨some 13, none, .mv (.t 45)⟩])
 .ret)
 .skip))
 (.seq (.seq (.reg [⟨some 46, none, .mv (.t 14)⟩,
 ⟨some 47, none, .mv (.t 16)⟩,
 ⟨some 48, none, .bin .lss false (.t 46) (.t 47) (pu (.binOp .lss 3 (.tmp 46) (.tmp 47) 3) 4)⟩,
 ⟨some 49, none, .mv (.t 48)⟩,
 ⟨some 50, (some ((some 49), false)), .mv (.t 14)⟩,
 ⟨some 51, (some ((some 49), false)), .mv (.t 16)⟩,
 ⟨some 52, (some ((some 49), false)), .bin .eql false (.t 50) (.t 51) (pu (.binOp .eql 3 (.tmp 50) (.tmp 51) 3) 4)⟩,
 ⟨some 53, (some ((some 49), false)), .mv (.t 52)⟩,
 ⟨some 54, (some ((some 53), true)), .mv (.t 3)⟩,
 ⟨some 55, (some ((some 53), true)), .mv (.t 2)⟩,
 ⟨some 56, (some ((some 53), true)), .bin .lss false (.t 54) (.t 55) (pu (.binOp .lss 9 (.tmp 54) (.tmp 55) 9) 4)⟩,
 ⟨some 57, (some ((some 49), false)), .pick (.t 53) (.t 56) (.k (.sc (.bool false)))⟩,
 ⟨some 58, none, .pick (.t 49) (.k (.sc (.bool true))) (.t 57)⟩])
 (.cond (.t 58) (.reg [⟨some 59, none, .mv (.t 3)⟩,
 ⟨some 60, none, .mv (.t 2)⟩,
 ⟨some 61, none, .mv (.t 16)⟩,
 ⟨some 62, none, .mv (.t 14)⟩,
 ⟨some 2, none, .mv (.t 59)⟩,
 ⟨some 3, none, .mv (.t 60)⟩,
 ⟨some 14, none, .mv (.t 61)⟩,
 ⟨some 16, none, .mv (.t 62)⟩])
 .skip))
 (.seq (.reg [⟨some 63, none, .mv (.t 14)⟩,
 ⟨some 64, none, .mv (.t 16)⟩,
 ⟨some 65, none, .bin .sub false (.t 63) (.t 64) (pu (.binOp .sub 3 (.tmp 63) (.tmp 64) 3) 3)⟩,
 ⟨some 17, none, .mv (.t 65)⟩])
 (.seq (.seq (.reg [⟨some 66, none, .mv (.t 17)⟩,
 ⟨some 67, none, .bin .lss false (.t 66) (.k (.sc (.int .i64 0))) (pu (.binOp .lss 3 (.tmp 66) (.const (.int .i64 0)) 3) 4)⟩])
 (.cond (.t 67) (.seq (.reg [⟨some 68, none, .bld [.sc (.string ⟨#[]⟩), .sc (.string ⟨#[]⟩), .sc (.string ⟨#[]⟩), .sc (.int .i64 0)] []⟩,
 ⟨none, none, .st 4 (.t 12) (.t 68)⟩,
 ⟨some 13, none, .mv (.k (.sc (.int .i64 20)))⟩])
 .ret)
 .skip))
 (.seq (.reg [⟨some 69, none, .mv (.t 2)⟩,
 ⟨some 70, none, .mv (.t 3)⟩,
 ⟨some 71, none, .mv (.t 4)⟩,
 ⟨some 72, none, .mv (.t 17)⟩,
 ⟨some 73, none, .bld [.sc (.string ⟨#[]⟩), .sc (.string ⟨#[]⟩), .sc (.string ⟨#[]⟩), .sc (.int .i64 0)] [(0, 1, (.t 69)), (1, 1, (.t 70)), (2, 1, (.t 71)), (3, 1, (.t 72))]⟩,
 ⟨none, none, .st 4 (.t 12) (.t 73)⟩,
 ⟨some 13, none, .mv (.k (.sc (.int .i64 0)))⟩])
 .ret)))))))))
def k30 : List Nat := [0, 1, 2, 3, 4, 5, 11, 12, 13, 14, 15, 16, 17, 29, 43, 58, 67]
theorem ic30 : factsI Try.prog 30 = some (74, [.cell 12 83, .tmp 13], c30) := by kernel_rfl
def c31 : IC :=
 (.seq (.reg [⟨some 2, none, .mv (.k (.sc (.int .i64 0)))⟩])
 (.seq (.block 0 (.seq (.reg [⟨some 4, none, .mv (.t 0)⟩,
 ⟨some 5, none, .bin .geq false (.t 4) (.k (.sc (.int .i32 48))) (pu (.binOp .geq 21 (.tmp 4) (.const (.int .i32 48)) 21) 4)⟩,
 ⟨some 6, none, .mv (.t 5)⟩,
 ⟨some 7, (some ((some 6), true)), .mv (.t 0)⟩,
 ⟨some 8, (some ((some 6), true)), .bin .leq false (.t 7) (.k (.sc (.int .i32 57))) (pu (.binOp .leq 21 (.tmp 7) (.const (.int .i32 57)) 21) 4)⟩,
 ⟨some 9, none, .pick (.t 6) (.t 8) (.k (.sc (.bool false)))⟩,
 ⟨some 3, none, .mv (.t 9)⟩])
 (.cond (.t 3) (.seq (.reg [⟨some 10, none, .mv (.t 0)⟩,
 ⟨some 11, none, .bin .sub false (.t 10) (.k (.sc (.int .i32 48))) (pu (.binOp .sub 21 (.tmp 10) (.const (.int .i32 48)) 21) 21)⟩,
 ⟨some 12, none, .pur (pu (.convert 21 3 (.tmp 11)) 3)⟩,
 ⟨some 2, none, .mv (.t 12)⟩])
 .ret)
 (.seq (.reg [⟨some 14, none, .mv (.t 0)⟩,
 ⟨some 15, none, .bin .geq false (.t 14) (.k (.sc (.int .i32 65))) (pu (.binOp .geq 21 (.tmp 14) (.const (.int .i32 65)) 21) 4)⟩,
 ⟨some 16, none, .mv (.t 15)⟩,
 ⟨some 17, (some ((some 16), true)), .mv (.t 0)⟩,
 ⟨some 18, (some ((some 16), true)), .bin .leq false (.t 17) (.k (.sc (.int .i32 90))) (pu (.binOp .leq 21 (.tmp 17) (.const (.int .i32 90)) 21) 4)⟩,
 ⟨some 19, none, .pick (.t 16) (.t 18) (.k (.sc (.bool false)))⟩,
 ⟨some 13, none, .mv (.t 19)⟩])
 (.cond (.t 13) (.seq (.reg [⟨some 20, none, .mv (.t 0)⟩,
 ⟨some 21, none, .bin .sub false (.t 20) (.k (.sc (.int .i32 65))) (pu (.binOp .sub 21 (.tmp 20) (.const (.int .i32 65)) 21) 21)⟩,
 ⟨some 22, none, .pur (pu (.convert 21 3 (.tmp 21)) 3)⟩,
 ⟨some 23, none, .bin .add false (.t 22) (.k (.sc (.int .i64 10))) (pu (.binOp .add 3 (.tmp 22) (.const (.int .i64 10)) 3) 3)⟩,
 ⟨some 2, none, .mv (.t 23)⟩])
 .ret)
 (.seq (.reg [⟨some 25, none, .mv (.t 0)⟩,
 ⟨some 26, none, .bin .geq false (.t 25) (.k (.sc (.int .i32 97))) (pu (.binOp .geq 21 (.tmp 25) (.const (.int .i32 97)) 21) 4)⟩,
 ⟨some 27, none, .mv (.t 26)⟩,
 ⟨some 28, (some ((some 27), true)), .mv (.t 0)⟩,
 ⟨some 29, (some ((some 27), true)), .bin .leq false (.t 28) (.k (.sc (.int .i32 122))) (pu (.binOp .leq 21 (.tmp 28) (.const (.int .i32 122)) 21) 4)⟩,
 ⟨some 30, none, .pick (.t 27) (.t 29) (.k (.sc (.bool false)))⟩,
 ⟨some 24, none, .mv (.t 30)⟩])
 (.cond (.t 24) (.seq (.reg [⟨some 31, none, .mv (.t 0)⟩,
 ⟨some 32, none, .bin .sub false (.t 31) (.k (.sc (.int .i32 97))) (pu (.binOp .sub 21 (.tmp 31) (.const (.int .i32 97)) 21) 21)⟩,
 ⟨some 33, none, .pur (pu (.convert 21 3 (.tmp 32)) 3)⟩,
 ⟨some 34, none, .bin .add false (.t 33) (.k (.sc (.int .i64 10))) (pu (.binOp .add 3 (.tmp 33) (.const (.int .i64 10)) 3) 3)⟩,
 ⟨some 2, none, .mv (.t 34)⟩])
 .ret)
 .skip)))))))
 (.seq (.reg [⟨some 2, none, .mv (.k (.sc (.int .i64 (-1))))⟩])
 .ret)))
def k31 : List Nat := [0, 2, 3, 13, 24]
theorem ic31 : factsI Try.prog 31 = some (35, [.tmp 2], c31) := by kernel_rfl
def c32 : IC :=
 (.seq (.reg [⟨some 1, none, .bx (.t 0)⟩,
 ⟨some 2, none, .mv (.k (.sc (.int .i64 0)))⟩])
 (.seq (.seq (.reg [⟨some 8, none, .sh 0 (.t 1)⟩,
 ⟨some 9, none, .ld none (.t 8)⟩,
 ⟨some 10, none, .call 12 [(.t 9)]⟩,
 ⟨some 11, none, .un .not (.t 10) (pu (.unOp .not 4 (.tmp 10)) 4)⟩])
 (.cond (.t 11) (.seq (.reg [⟨some 2, none, .mv (.k (.sc (.int .i64 4)))⟩])
 .ret)
 .skip))
 (.seq (.seq (.reg [⟨some 12, none, .sh 2 (.t 1)⟩,
 ⟨some 13, none, .ld none (.t 12)⟩,
 ⟨some 14, none, .len (.t 13) (pu (.call ⟨.builtin .len, #[(.tmp 13)], #[24]⟩) 3)⟩,
 ⟨some 15, none, .sh 1 (.t 1)⟩,
 ⟨some 16, none, .ld none (.t 15)⟩,
 ⟨some 17, none, .len (.t 16) (pu (.call ⟨.builtin .len, #[(.tmp 16)], #[23]⟩) 3)⟩,
 ⟨some 18, none, .bin .neq false (.t 14) (.t 17) (pu (.binOp .neq 3 (.tmp 14) (.tmp 17) 3) 4)⟩])
 (.cond (.t 18) (.seq (.reg [⟨some 2, none, .mv (.k (.sc (.int .i64 1)))⟩])
 .ret)
 .skip))
 (.seq (.seq (.reg [⟨some 19, none, .sh 1 (.t 1)⟩,
 ⟨some 20, none, .ld none (.t 19)⟩,
 ⟨some 21, none, .len (.t 20) (pu (.call ⟨.builtin .len, #[(.tmp 20)], #[23]⟩) 3)⟩,
 ⟨some 22, none, .bin .gtr false (.t 21) (.k (.sc (.int .i64 256))) (pu (.binOp .gtr 3 (.tmp 21) (.const (.int .i64 256)) 3) 4)⟩])
 (.cond (.t 22) (.seq (.reg [⟨some 2, none, .mv (.k (.sc (.int .i64 3)))⟩])
 .ret)
 .skip))
 (.seq (.reg [⟨some 23, none, .sh 1 (.t 1)⟩,
 ⟨some 24, none, .ld none (.t 23)⟩,
 ⟨some 25, none, .len (.t 24) (pu (.call ⟨.builtin .len, #[(.tmp 24)], #[23]⟩) 3)⟩,
 ⟨some 26, none, .mmk (some (.t 25))⟩,
 ⟨some 3, none, .mv (.t 26)⟩])
 (.seq (.reg [⟨some 4, none, .mv (.k (.sc (.int .i64 0)))⟩])
 (.seq (.seq (.reg [⟨some 27, none, .sh 1 (.t 1)⟩,
 ⟨some 28, none, .ld none (.t 27)⟩,
 ⟨some 29, none, .len (.t 28) (pu (.call ⟨.builtin .len, #[(.tmp 28)], #[23]⟩) 3)⟩,
 ⟨some 30, none, .mv (.k (.sc (.int .i64 0)))⟩])
 (.block 0 (.loop (.seq (.reg [⟨some 31, none, .bin .lss false (.t 30) (.t 29) (pu (.binOp .lss 3 (.tmp 30) (.tmp 29) 3) 0)⟩])
 (.seq (.cond (.t 31) .skip
 (.exit 0))
 (.seq (.block 1 (.seq (.reg [⟨some 32, none, .mv (.t 30)⟩,
 ⟨some 33, none, .ixs 6 (.t 28) (.t 30)⟩,
 ⟨some 34, none, .ld (some 6) (.t 33)⟩,
 ⟨some 6, none, .al (.agg [.sc (.int .i64 0), .sc (.string ⟨#[]⟩), .sc (.string ⟨#[]⟩), .sc (.int .i64 0), .sc (.bool false), .sc (.slice none 0 0)]) 6⟩,
 ⟨some 5, none, .mv (.t 32)⟩,
 ⟨none, none, .st 6 (.t 6) (.t 34)⟩])
 (.seq (.seq (.reg [⟨some 35, none, .ld (some 6) (.t 6)⟩,
 ⟨some 36, none, .call 51 [(.t 35)]⟩,
 ⟨some 7, none, .mv (.t 36)⟩])
 (.seq (.reg [⟨some 37, none, .mv (.t 7)⟩,
 ⟨some 38, none, .bin .neq false (.t 37) (.k (.sc (.int .i64 0))) (pu (.binOp .neq 31 (.tmp 37) (.const (.int .i64 0)) 31) 4)⟩])
 (.cond (.t 38) (.seq (.reg [⟨some 39, none, .mv (.t 7)⟩,
 ⟨some 2, none, .mv (.t 39)⟩])
 .ret)
 .skip)))
 (.seq (.seq (.reg [⟨some 40, none, .mv (.t 3)⟩,
 ⟨some 41, none, .ld (some 6) (.t 6)⟩,
 ⟨some 42, none, .call 52 [(.t 41)]⟩,
 ⟨some 43, none, .mlk true [(.i .i64), .s, .s] (.sc (.bool false)) false (.t 40) (.t 42) (pu (.lookup 108 (.tmp 40) (.tmp 42) false) 4)⟩])
 (.cond (.t 43) (.seq (.reg [⟨some 2, none, .mv (.k (.sc (.int .i64 9)))⟩])
 .ret)
 .skip))
 (.seq (.reg [⟨some 44, none, .mv (.t 3)⟩,
 ⟨some 45, none, .ld (some 6) (.t 6)⟩,
 ⟨some 46, none, .call 52 [(.t 45)]⟩,
 ⟨none, none, .mpt true [(.i .i64), .s, .s] (.t 44) (.t 46) (.k (.sc (.bool true)))⟩])
 (.seq (.seq (.drw [0, 1, 0, 7, 15, 31, 63, 127, 255, 127, 1023, 2047, 127, 8191, 16383, 32767, 65535, 131071, 65535, 524287, 1048575, 65535, 2162687, 8388607, 16777215] [⟨some 47, none, .sh 2 (.t 1)⟩,
 ⟨some 48, none, .ld none (.t 47)⟩,
 ⟨some 49, none, .mv (.t 5)⟩,
 ⟨some 50, none, .ixs 1 (.t 48) (.t 49)⟩,
 ⟨some 51, none, .ld none (.t 50)⟩,
 ⟨some 52, none, .bin .lss false (.t 51) (.k (.sc (.int .i64 1))) (pu (.binOp .lss 3 (.tmp 51) (.const (.int .i64 1)) 3) 4)⟩,
 ⟨some 53, none, .mv (.t 52)⟩,
 ⟨some 54, (some ((some 53), false)), .sh 2 (.t 1)⟩,
 ⟨some 55, (some ((some 53), false)), .ld none (.t 54)⟩,
 ⟨some 56, (some ((some 53), false)), .mv (.t 5)⟩,
 ⟨some 57, (some ((some 53), false)), .ixs 1 (.t 55) (.t 56)⟩,
 ⟨some 58, (some ((some 53), false)), .ld none (.t 57)⟩,
 ⟨some 59, (some ((some 53), false)), .mv (.t 4)⟩,
 ⟨some 60, (some ((some 53), false)), .bin .leq false (.t 58) (.t 59) (pu (.binOp .leq 3 (.tmp 58) (.tmp 59) 3) 4)⟩,
 ⟨some 61, none, .pick (.t 53) (.k (.sc (.bool true))) (.t 60)⟩,
 ⟨some 62, none, .mv (.t 61)⟩,
 ⟨some 63, (some ((some 62), false)), .sh 2 (.t 1)⟩,
 ⟨some 64, (some ((some 62), false)), .ld none (.t 63)⟩,
 ⟨some 65, (some ((some 62), false)), .mv (.t 5)⟩,
 ⟨some 66, (some ((some 62), false)), .ixs 1 (.t 64) (.t 65)⟩,
 ⟨some 67, (some ((some 62), false)), .ld none (.t 66)⟩,
 ⟨some 68, (some ((some 62), false)), .sh 3 (.t 1)⟩,
 ⟨some 69, (some ((some 62), false)), .ld none (.t 68)⟩,
 ⟨some 70, (some ((some 62), false)), .bin .geq false (.t 67) (.t 69) (pu (.binOp .geq 3 (.tmp 67) (.tmp 69) 3) 4)⟩,
 ⟨some 71, none, .pick (.t 62) (.k (.sc (.bool true))) (.t 70)⟩])
 (.cond (.t 71) (.seq (.reg [⟨some 2, none, .mv (.k (.sc (.int .i64 1)))⟩])
 .ret)
 .skip))
 (.reg [⟨some 72, none, .sh 2 (.t 1)⟩,
 ⟨some 73, none, .ld none (.t 72)⟩,
 ⟨some 74, none, .mv (.t 5)⟩,
 ⟨some 75, none, .ixs 1 (.t 73) (.t 74)⟩,
 ⟨some 76, none, .ld none (.t 75)⟩,
 ⟨some 4, none, .mv (.t 76)⟩])))))))
 (.reg [⟨some 77, none, .bin .add false (.t 30) (.k (.sc (.int .i64 1))) (pu (.binOp .add 3 (.tmp 30) (.const (.int .i64 1)) 3) 3)⟩,
 ⟨some 30, none, .mv (.t 77)⟩])))))))
 (.seq (.seq (.reg [⟨some 78, none, .sh 3 (.t 1)⟩,
 ⟨some 79, none, .ld none (.t 78)⟩,
 ⟨some 80, none, .bin .lss false (.t 79) (.k (.sc (.int .i64 1))) (pu (.binOp .lss 3 (.tmp 79) (.const (.int .i64 1)) 3) 4)⟩,
 ⟨some 81, none, .mv (.t 80)⟩,
 ⟨some 82, (some ((some 81), false)), .sh 3 (.t 1)⟩,
 ⟨some 83, (some ((some 81), false)), .ld none (.t 82)⟩,
 ⟨some 84, (some ((some 81), false)), .bin .gtr false (.t 83) (.k (.sc (.int .i64 4611686018427387904))) (pu (.binOp .gtr 3 (.tmp 83) (.const (.int .i64 4611686018427387904)) 3) 4)⟩,
 ⟨some 85, none, .pick (.t 81) (.k (.sc (.bool true))) (.t 84)⟩])
 (.cond (.t 85) (.seq (.reg [⟨some 2, none, .mv (.k (.sc (.int .i64 2)))⟩])
 .ret)
 .skip))
 (.seq (.reg [⟨some 2, none, .mv (.k (.sc (.int .i64 0)))⟩])
 .ret)))))))))
def k32 : List Nat := [0, 1, 2, 3, 4, 5, 6, 7, 11, 18, 22, 28, 29, 30, 31, 38, 43, 71, 85]
theorem ic32 : factsI Try.prog 32 = some (86, [.tmp 2], c32) := by kernel_rfl
def c33 : IC :=
 (.seq (.reg [⟨some 1, none, .bx (.t 0)⟩,
 ⟨some 2, none, .mv (.k (.sc (.int .i64 0)))⟩])
 (.seq (.seq (.reg [⟨some 7, none, .sh 5 (.t 1)⟩,
 ⟨some 8, none, .ld none (.t 7)⟩,
 ⟨some 9, none, .len (.t 8) (pu (.call ⟨.builtin .len, #[(.tmp 8)], #[27]⟩) 3)⟩,
 ⟨some 10, none, .bin .gtr false (.t 9) (.k (.sc (.int .i64 256))) (pu (.binOp .gtr 3 (.tmp 9) (.const (.int .i64 256)) 3) 4)⟩])
 (.cond (.t 10) (.seq (.reg [⟨some 2, none, .mv (.k (.sc (.int .i64 3)))⟩])
 .ret)
 .skip))
 (.seq (.reg [⟨some 11, none, .sh 5 (.t 1)⟩,
 ⟨some 12, none, .ld none (.t 11)⟩,
 ⟨some 13, none, .len (.t 12) (pu (.call ⟨.builtin .len, #[(.tmp 12)], #[27]⟩) 3)⟩,
 ⟨some 14, none, .mmk (some (.t 13))⟩,
 ⟨some 3, none, .mv (.t 14)⟩])
 (.seq (.seq (.reg [⟨some 15, none, .sh 5 (.t 1)⟩,
 ⟨some 16, none, .ld none (.t 15)⟩,
 ⟨some 17, none, .len (.t 16) (pu (.call ⟨.builtin .len, #[(.tmp 16)], #[27]⟩) 3)⟩,
 ⟨some 18, none, .mv (.k (.sc (.int .i64 0)))⟩])
 (.block 0 (.loop (.seq (.reg [⟨some 19, none, .bin .lss false (.t 18) (.t 17) (pu (.binOp .lss 3 (.tmp 18) (.tmp 17) 3) 0)⟩])
 (.seq (.cond (.t 19) .skip
 (.exit 0))
 (.seq (.block 1 (.seq (.reg [⟨some 20, none, .ixs 14 (.t 16) (.t 18)⟩,
 ⟨some 21, none, .ld (some 14) (.t 20)⟩,
 ⟨some 5, none, .al (.agg [.sc (.string ⟨#[]⟩), .sc (.string ⟨#[]⟩), .sc (.string ⟨#[]⟩), .sc (.string ⟨#[]⟩), .sc (.int .i64 0), .sc (.int .i64 0), .sc (.int .i64 0), .sc (.int .i64 0), .sc (.string ⟨#[]⟩), .sc (.string ⟨#[]⟩), .sc (.slice none 0 0), .sc (.int .i64 0), .sc (.bool false), .sc (.string ⟨#[]⟩)]) 14⟩,
 ⟨none, none, .st 14 (.t 5) (.t 21)⟩])
 (.seq (.seq (.reg [⟨some 22, none, .ld (some 14) (.t 5)⟩,
 ⟨some 23, none, .call 15 [(.t 22)]⟩,
 ⟨some 6, none, .mv (.t 23)⟩])
 (.seq (.reg [⟨some 24, none, .mv (.t 6)⟩,
 ⟨some 25, none, .bin .neq false (.t 24) (.k (.sc (.int .i64 0))) (pu (.binOp .neq 31 (.tmp 24) (.const (.int .i64 0)) 31) 4)⟩])
 (.cond (.t 25) (.seq (.reg [⟨some 26, none, .mv (.t 6)⟩,
 ⟨some 2, none, .mv (.t 26)⟩])
 .ret)
 .skip)))
 (.seq (.seq (.reg [⟨some 27, none, .sh 1 (.t 5)⟩,
 ⟨some 28, none, .ld none (.t 27)⟩,
 ⟨some 29, none, .sh 0 (.t 1)⟩,
 ⟨some 30, none, .ld none (.t 29)⟩,
 ⟨some 31, none, .bin .neq false (.t 28) (.t 30) (pu (.binOp .neq 9 (.tmp 28) (.tmp 30) 9) 4)⟩,
 ⟨some 32, none, .mv (.t 31)⟩,
 ⟨some 33, (some ((some 32), true)), .sh 2 (.t 5)⟩,
 ⟨some 34, (some ((some 32), true)), .ld none (.t 33)⟩,
 ⟨some 35, (some ((some 32), true)), .sh 0 (.t 1)⟩,
 ⟨some 36, (some ((some 32), true)), .ld none (.t 35)⟩,
 ⟨some 37, (some ((some 32), true)), .bin .neq false (.t 34) (.t 36) (pu (.binOp .neq 9 (.tmp 34) (.tmp 36) 9) 4)⟩,
 ⟨some 38, none, .pick (.t 32) (.t 37) (.k (.sc (.bool false)))⟩])
 (.cond (.t 38) (.seq (.reg [⟨some 2, none, .mv (.k (.sc (.int .i64 1)))⟩])
 .ret)
 .skip))
 (.seq (.seq (.reg [⟨some 39, none, .mv (.t 3)⟩,
 ⟨some 40, none, .sh 0 (.t 5)⟩,
 ⟨some 41, none, .ld none (.t 40)⟩,
 ⟨some 42, none, .mlk false [.s] (.sc (.bool false)) false (.t 39) (.t 41) (pu (.lookup 105 (.tmp 39) (.tmp 41) false) 4)⟩])
 (.cond (.t 42) (.seq (.reg [⟨some 2, none, .mv (.k (.sc (.int .i64 9)))⟩])
 .ret)
 .skip))
 (.reg [⟨some 43, none, .mv (.t 3)⟩,
 ⟨some 44, none, .sh 0 (.t 5)⟩,
 ⟨some 45, none, .ld none (.t 44)⟩,
 ⟨none, none, .mpt false [.s] (.t 43) (.t 45) (.k (.sc (.bool true)))⟩]))))))
 (.reg [⟨some 46, none, .bin .add false (.t 18) (.k (.sc (.int .i64 1))) (pu (.binOp .add 3 (.tmp 18) (.const (.int .i64 1)) 3) 3)⟩,
 ⟨some 18, none, .mv (.t 46)⟩])))))))
 (.seq (.reg [⟨some 2, none, .mv (.k (.sc (.int .i64 0)))⟩])
 .ret)))))
def k33 : List Nat := [0, 1, 2, 3, 5, 6, 10, 16, 17, 18, 19, 25, 38, 42]
theorem ic33 : factsI Try.prog 33 = some (47, [.tmp 2], c33) := by kernel_rfl
def c34 : IC :=
 (.seq (.reg [⟨some 1, none, .bx (.t 0)⟩,
 ⟨some 2, none, .mv (.k (.sc (.int .i64 0)))⟩])
 (.seq (.seq (.reg [⟨some 8, none, .sh 6 (.t 1)⟩,
 ⟨some 9, none, .ld none (.t 8)⟩,
 ⟨some 10, none, .len (.t 9) (pu (.call ⟨.builtin .len, #[(.tmp 9)], #[28]⟩) 3)⟩,
 ⟨some 11, none, .bin .gtr false (.t 10) (.k (.sc (.int .i64 256))) (pu (.binOp .gtr 3 (.tmp 10) (.const (.int .i64 256)) 3) 4)⟩])
 (.cond (.t 11) (.seq (.reg [⟨some 2, none, .mv (.k (.sc (.int .i64 3)))⟩])
 .ret)
 .skip))
 (.seq (.reg [⟨some 12, none, .sh 6 (.t 1)⟩,
 ⟨some 13, none, .ld none (.t 12)⟩,
 ⟨some 14, none, .len (.t 13) (pu (.call ⟨.builtin .len, #[(.tmp 13)], #[28]⟩) 3)⟩,
 ⟨some 15, none, .mmk (some (.t 14))⟩,
 ⟨some 3, none, .mv (.t 15)⟩])
 (.seq (.seq (.reg [⟨some 16, none, .sh 6 (.t 1)⟩,
 ⟨some 17, none, .ld none (.t 16)⟩,
 ⟨some 18, none, .len (.t 17) (pu (.call ⟨.builtin .len, #[(.tmp 17)], #[28]⟩) 3)⟩,
 ⟨some 19, none, .mv (.k (.sc (.int .i64 0)))⟩])
 (.block 0 (.loop (.seq (.reg [⟨some 20, none, .bin .lss false (.t 19) (.t 18) (pu (.binOp .lss 3 (.tmp 19) (.tmp 18) 3) 0)⟩])
 (.seq (.cond (.t 20) .skip
 (.exit 0))
 (.seq (.block 1 (.seq (.reg [⟨some 21, none, .ixs 6 (.t 17) (.t 19)⟩,
 ⟨some 22, none, .ld (some 6) (.t 21)⟩,
 ⟨some 5, none, .al (.agg [.sc (.string ⟨#[]⟩), .sc (.string ⟨#[]⟩), .sc (.int .i64 0), .sc (.int .i64 0), .sc (.int .i64 0), .sc (.int .i64 0)]) 6⟩,
 ⟨none, none, .st 6 (.t 5) (.t 22)⟩])
 (.seq (.seq (.reg [⟨some 23, none, .ld (some 6) (.t 5)⟩,
 ⟨some 24, none, .call 53 [(.t 23)]⟩,
 ⟨some 6, none, .mv (.t 24)⟩])
 (.seq (.reg [⟨some 25, none, .mv (.t 6)⟩,
 ⟨some 26, none, .bin .neq false (.t 25) (.k (.sc (.int .i64 0))) (pu (.binOp .neq 31 (.tmp 25) (.const (.int .i64 0)) 31) 4)⟩])
 (.cond (.t 26) (.seq (.reg [⟨some 27, none, .mv (.t 6)⟩,
 ⟨some 2, none, .mv (.t 27)⟩])
 .ret)
 .skip)))
 (.seq (.reg [⟨some 28, none, .ld (some 7) (.t 1)⟩,
 ⟨some 29, none, .sh 0 (.t 5)⟩,
 ⟨some 30, none, .ld none (.t 29)⟩,
 ⟨some 31, none, .call 16 [(.t 28), (.t 30)]⟩,
 ⟨some 7, none, .mv (.t 31)⟩])
 (.seq (.seq (.reg [⟨some 32, none, .mv (.t 7)⟩,
 ⟨some 33, none, .bin .lss false (.t 32) (.k (.sc (.int .i64 0))) (pu (.binOp .lss 3 (.tmp 32) (.const (.int .i64 0)) 3) 4)⟩])
 (.cond (.t 33) (.seq (.reg [⟨some 2, none, .mv (.k (.sc (.int .i64 8)))⟩])
 .ret)
 .skip))
 (.seq (.seq (.drw [0, 1, 0, 4, 0, 28, 60, 124, 255] [⟨some 34, none, .sh 1 (.t 5)⟩,
 ⟨some 35, none, .ld none (.t 34)⟩,
 ⟨some 36, none, .sh 5 (.t 1)⟩,
 ⟨some 37, none, .ld none (.t 36)⟩,
 ⟨some 38, none, .mv (.t 7)⟩,
 ⟨some 39, none, .ixs 14 (.t 37) (.t 38)⟩,
 ⟨some 40, none, .sh 2 (.t 39)⟩,
 ⟨some 41, none, .ld none (.t 40)⟩,
 ⟨some 42, none, .bin .neq false (.t 35) (.t 41) (pu (.binOp .neq 9 (.tmp 35) (.tmp 41) 9) 4)⟩])
 (.cond (.t 42) (.seq (.reg [⟨some 2, none, .mv (.k (.sc (.int .i64 1)))⟩])
 .ret)
 .skip))
 (.seq (.seq (.reg [⟨some 43, none, .mv (.t 3)⟩,
 ⟨some 44, none, .sh 0 (.t 5)⟩,
 ⟨some 45, none, .ld none (.t 44)⟩,
 ⟨some 46, none, .mlk false [.s] (.sc (.bool false)) false (.t 43) (.t 45) (pu (.lookup 105 (.tmp 43) (.tmp 45) false) 4)⟩])
 (.cond (.t 46) (.seq (.reg [⟨some 2, none, .mv (.k (.sc (.int .i64 9)))⟩])
 .ret)
 .skip))
 (.reg [⟨some 47, none, .mv (.t 3)⟩,
 ⟨some 48, none, .sh 0 (.t 5)⟩,
 ⟨some 49, none, .ld none (.t 48)⟩,
 ⟨none, none, .mpt false [.s] (.t 47) (.t 49) (.k (.sc (.bool true)))⟩]))))))))
 (.reg [⟨some 50, none, .bin .add false (.t 19) (.k (.sc (.int .i64 1))) (pu (.binOp .add 3 (.tmp 19) (.const (.int .i64 1)) 3) 3)⟩,
 ⟨some 19, none, .mv (.t 50)⟩])))))))
 (.seq (.reg [⟨some 2, none, .mv (.k (.sc (.int .i64 0)))⟩])
 .ret)))))
def k34 : List Nat := [0, 1, 2, 3, 5, 6, 7, 11, 17, 18, 19, 20, 26, 33, 42, 46]
theorem ic34 : factsI Try.prog 34 = some (51, [.tmp 2], c34) := by kernel_rfl
def c35 : IC :=
 (.seq (.reg [⟨some 2, none, .mv (.k (.sc (.int .i64 0)))⟩])
 (.seq (.seq (.reg [⟨some 5, none, .mv (.t 0)⟩,
 ⟨some 6, none, .len (.t 5) (pu (.call ⟨.builtin .len, #[(.tmp 5)], #[114]⟩) 3)⟩,
 ⟨some 7, none, .mv (.k (.sc (.int .i64 0)))⟩])
 (.block 0 (.loop (.seq (.reg [⟨some 8, none, .bin .lss false (.t 7) (.t 6) (pu (.binOp .lss 3 (.tmp 7) (.tmp 6) 3) 0)⟩])
 (.seq (.cond (.t 8) .skip
 (.exit 0))
 (.seq (.block 1 (.seq (.reg [⟨some 9, none, .ixs 1 (.t 5) (.t 7)⟩,
 ⟨some 10, none, .ld none (.t 9)⟩,
 ⟨some 4, none, .mv (.t 10)⟩])
 (.seq (.reg [⟨some 11, none, .mv (.t 4)⟩,
 ⟨some 12, none, .call 12 [(.t 11)]⟩,
 ⟨some 13, none, .un .not (.t 12) (pu (.unOp .not 4 (.tmp 12)) 4)⟩])
 (.cond (.t 13) (.seq (.reg [⟨some 2, none, .mv (.k (.sc (.int .i64 4)))⟩])
 .ret)
 .skip))))
 (.reg [⟨some 14, none, .bin .add false (.t 7) (.k (.sc (.int .i64 1))) (pu (.binOp .add 3 (.tmp 7) (.const (.int .i64 1)) 3) 3)⟩,
 ⟨some 7, none, .mv (.t 14)⟩])))))))
 (.seq (.reg [⟨some 2, none, .mv (.k (.sc (.int .i64 0)))⟩])
 .ret)))
def k35 : List Nat := [0, 2, 4, 5, 6, 7, 8, 13]
theorem ic35 : factsI Try.prog 35 = some (15, [.tmp 2], c35) := by kernel_rfl
def c36 : IC :=
 (.seq (.reg [⟨some 6, none, .mv (.k (.sc (.bool false)))⟩])
 (.seq (.seq (.reg [⟨some 9, none, .mv (.t 2)⟩,
 ⟨some 10, none, .len (.t 9) (pu (.call ⟨.builtin .len, #[(.tmp 9)], #[24]⟩) 3)⟩,
 ⟨some 11, none, .mv (.k (.sc (.int .i64 0)))⟩])
 (.block 0 (.loop (.seq (.reg [⟨some 12, none, .bin .lss false (.t 11) (.t 10) (pu (.binOp .lss 3 (.tmp 11) (.tmp 10) 3) 0)⟩])
 (.seq (.cond (.t 12) .skip
 (.exit 0))
 (.seq (.block 1 (.seq (.reg [⟨some 13, none, .ixs 1 (.t 9) (.t 11)⟩,
 ⟨some 14, none, .ld none (.t 13)⟩,
 ⟨some 8, none, .mv (.t 14)⟩])
 (.seq (.reg [⟨some 15, none, .mv (.t 8)⟩,
 ⟨some 16, none, .mv (.t 0)⟩,
 ⟨some 17, none, .bin .lss false (.t 15) (.t 16) (pu (.binOp .lss 3 (.tmp 15) (.tmp 16) 3) 4)⟩,
 ⟨some 18, none, .mv (.t 17)⟩,
 ⟨some 19, (some ((some 18), false)), .mv (.t 8)⟩,
 ⟨some 20, (some ((some 18), false)), .mv (.t 1)⟩,
 ⟨some 21, (some ((some 18), false)), .bin .gtr false (.t 19) (.t 20) (pu (.binOp .gtr 3 (.tmp 19) (.tmp 20) 3) 4)⟩,
 ⟨some 22, none, .pick (.t 18) (.k (.sc (.bool true))) (.t 21)⟩])
 (.cond (.t 22) (.seq (.reg [⟨some 6, none, .mv (.k (.sc (.bool false)))⟩])
 .ret)
 .skip))))
 (.reg [⟨some 23, none, .bin .add false (.t 11) (.k (.sc (.int .i64 1))) (pu (.binOp .add 3 (.tmp 11) (.const (.int .i64 1)) 3) 3)⟩,
 ⟨some 11, none, .mv (.t 23)⟩])))))))
 (.seq (.reg [⟨some 6, none, .mv (.k (.sc (.bool true)))⟩])
 .ret)))
def k36 : List Nat := [0, 1, 2, 6, 8, 9, 10, 11, 12, 22]
theorem ic36 : factsI Try.prog 36 = some (24, [.tmp 6], c36) := by kernel_rfl
def c37 : IC :=
 (.seq (.reg [⟨some 2, none, .mv (.k (.sc (.bool false)))⟩])
 (.seq (.seq (.reg [⟨some 4, none, .mv (.t 0)⟩,
 ⟨some 5, none, .lens (.t 4) (pu (.call ⟨.builtin .len, #[(.tmp 4)], #[9]⟩) 3)⟩,
 ⟨some 6, none, .bin .neq false (.t 5) (.k (.sc (.int .i64 3))) (pu (.binOp .neq 3 (.tmp 5) (.const (.int .i64 3)) 3) 4)⟩])
 (.cond (.t 6) (.seq (.reg [⟨some 2, none, .mv (.k (.sc (.bool false)))⟩])
 .ret)
 .skip))
 (.seq (.seq (.reg [⟨some 7, none, .mv (.t 0)⟩,
 ⟨some 8, none, .lens (.t 7) (pu (.call ⟨.builtin .len, #[(.tmp 7)], #[9]⟩) 3)⟩,
 ⟨some 9, none, .mv (.k (.sc (.int .i64 0)))⟩])
 (.block 0 (.loop (.seq (.reg [⟨some 10, none, .bin .lss false (.t 9) (.t 8) (pu (.binOp .lss 3 (.tmp 9) (.tmp 8) 3) 4)⟩])
 (.seq (.cond (.t 10) .skip
 (.exit 0))
 (.seq (.block 1 (.seq (.reg [⟨some 11, none, .mv (.t 9)⟩,
 ⟨some 3, none, .mv (.t 11)⟩])
 (.seq (.reg [⟨some 12, none, .mv (.t 0)⟩,
 ⟨some 13, none, .mv (.t 3)⟩,
 ⟨some 14, none, .pur (pu (.index 9 (.tmp 12) (.tmp 13)) 5)⟩,
 ⟨some 15, none, .bin .lss false (.t 14) (.k (.sc (.int .u8 65))) (pu (.binOp .lss 5 (.tmp 14) (.const (.int .u8 65)) 5) 4)⟩,
 ⟨some 16, none, .mv (.t 15)⟩,
 ⟨some 17, (some ((some 16), false)), .mv (.t 0)⟩,
 ⟨some 18, (some ((some 16), false)), .mv (.t 3)⟩,
 ⟨some 19, (some ((some 16), false)), .pur (pu (.index 9 (.tmp 17) (.tmp 18)) 5)⟩,
 ⟨some 20, (some ((some 16), false)), .bin .gtr false (.t 19) (.k (.sc (.int .u8 90))) (pu (.binOp .gtr 5 (.tmp 19) (.const (.int .u8 90)) 5) 4)⟩,
 ⟨some 21, none, .pick (.t 16) (.k (.sc (.bool true))) (.t 20)⟩])
 (.cond (.t 21) (.seq (.reg [⟨some 2, none, .mv (.k (.sc (.bool false)))⟩])
 .ret)
 .skip))))
 (.reg [⟨some 22, none, .bin .add false (.t 9) (.k (.sc (.int .i64 1))) (pu (.binOp .add 3 (.tmp 9) (.const (.int .i64 1)) 3) 3)⟩,
 ⟨some 9, none, .mv (.t 22)⟩])))))))
 (.seq (.reg [⟨some 2, none, .mv (.k (.sc (.bool true)))⟩])
 .ret))))
def k37 : List Nat := [0, 2, 3, 6, 8, 9, 10, 21]
theorem ic37 : factsI Try.prog 37 = some (23, [.tmp 2], c37) := by kernel_rfl
def c38 : IC :=
 (.seq (.reg [⟨some 1, none, .bx (.t 0)⟩,
 ⟨some 2, none, .mv (.k (.sc (.int .i64 0)))⟩])
 (.seq (.seq (.reg [⟨some 6, none, .sh 10 (.t 1)⟩,
 ⟨some 7, none, .ld none (.t 6)⟩,
 ⟨some 8, none, .len (.t 7) (pu (.call ⟨.builtin .len, #[(.tmp 7)], #[37]⟩) 3)⟩,
 ⟨some 9, none, .bin .gtr false (.t 8) (.k (.sc (.int .i64 32))) (pu (.binOp .gtr 3 (.tmp 8) (.const (.int .i64 32)) 3) 4)⟩])
 (.cond (.t 9) (.seq (.reg [⟨some 2, none, .mv (.k (.sc (.int .i64 3)))⟩])
 .ret)
 .skip))
 (.seq (.reg [⟨some 3, none, .mv (.k (.sc (.int .i64 0)))⟩])
 (.seq (.seq (.reg [⟨some 10, none, .sh 10 (.t 1)⟩,
 ⟨some 11, none, .ld none (.t 10)⟩,
 ⟨some 12, none, .len (.t 11) (pu (.call ⟨.builtin .len, #[(.tmp 11)], #[37]⟩) 3)⟩,
 ⟨some 13, none, .mv (.k (.sc (.int .i64 0)))⟩])
 (.block 0 (.loop (.seq (.reg [⟨some 14, none, .bin .lss false (.t 13) (.t 12) (pu (.binOp .lss 3 (.tmp 13) (.tmp 12) 3) 0)⟩])
 (.seq (.cond (.t 14) .skip
 (.exit 0))
 (.seq (.block 1 (.seq (.reg [⟨some 15, none, .ixs 7 (.t 11) (.t 13)⟩,
 ⟨some 16, none, .ld (some 7) (.t 15)⟩,
 ⟨some 5, none, .al (.agg [.sc (.int .i64 0), .sc (.int .i64 0), .sc (.int .i64 0), .sc (.int .i64 0), .sc (.int .i64 0), .sc (.int .i64 0), .sc (.int .i64 0)]) 7⟩,
 ⟨none, none, .st 7 (.t 5) (.t 16)⟩])
 (.seq (.seq (.reg [⟨some 17, none, .ld (some 7) (.t 5)⟩,
 ⟨some 18, none, .call 54 [(.t 17)]⟩,
 ⟨some 19, none, .un .not (.t 18) (pu (.unOp .not 4 (.tmp 18)) 4)⟩])
 (.cond (.t 19) (.seq (.reg [⟨some 2, none, .mv (.k (.sc (.int .i64 1)))⟩])
 .ret)
 .skip))
 (.reg [⟨some 20, none, .mv (.t 3)⟩,
 ⟨some 21, none, .sh 6 (.t 5)⟩,
 ⟨some 22, none, .ld none (.t 21)⟩,
 ⟨some 23, none, .bin .add false (.t 20) (.t 22) (pu (.binOp .add 3 (.tmp 20) (.tmp 22) 3) 3)⟩,
 ⟨some 3, none, .mv (.t 23)⟩]))))
 (.reg [⟨some 24, none, .bin .add false (.t 13) (.k (.sc (.int .i64 1))) (pu (.binOp .add 3 (.tmp 13) (.const (.int .i64 1)) 3) 3)⟩,
 ⟨some 13, none, .mv (.t 24)⟩])))))))
 (.seq (.seq (.reg [⟨some 25, none, .sh 11 (.t 1)⟩,
 ⟨some 26, none, .ld none (.t 25)⟩,
 ⟨some 27, none, .mv (.t 3)⟩,
 ⟨some 28, none, .bin .neq false (.t 26) (.t 27) (pu (.binOp .neq 3 (.tmp 26) (.tmp 27) 3) 4)⟩])
 (.cond (.t 28) (.seq (.reg [⟨some 2, none, .mv (.k (.sc (.int .i64 1)))⟩])
 .ret)
 .skip))
 (.seq (.reg [⟨some 2, none, .mv (.k (.sc (.int .i64 0)))⟩])
 .ret))))))
def k38 : List Nat := [0, 1, 2, 3, 5, 9, 11, 12, 13, 14, 19, 28]
theorem ic38 : factsI Try.prog 38 = some (29, [.tmp 2], c38) := by kernel_rfl
def c39 : IC :=
 (.seq (.reg [⟨some 1, none, .bx (.t 0)⟩,
 ⟨some 2, none, .mv (.k (.sc (.int .i64 0)))⟩])
 (.seq (.seq (.reg [⟨some 3, none, .sh 12 (.t 1)⟩,
 ⟨some 4, none, .ld none (.t 3)⟩,
 ⟨some 5, none, .un .not (.t 4) (pu (.unOp .not 4 (.tmp 4)) 4)⟩])
 (.cond (.t 5) (.seq (.seq (.reg [⟨some 6, none, .sh 13 (.t 1)⟩,
 ⟨some 7, none, .ld none (.t 6)⟩,
 ⟨some 8, none, .bin .neq false (.t 7) (.k (.sc (.string ⟨#[]⟩))) (pu (.binOp .neq 9 (.tmp 7) (.const (.string ⟨#[]⟩)) 9) 4)⟩])
 (.cond (.t 8) (.seq (.reg [⟨some 2, none, .mv (.k (.sc (.int .i64 1)))⟩])
 .ret)
 .skip))
 (.seq (.reg [⟨some 2, none, .mv (.k (.sc (.int .i64 0)))⟩])
 .ret))
 .skip))
 (.seq (.seq (.reg [⟨some 9, none, .sh 13 (.t 1)⟩,
 ⟨some 10, none, .ld none (.t 9)⟩,
 ⟨some 11, none, .call 12 [(.t 10)]⟩,
 ⟨some 12, none, .un .not (.t 11) (pu (.unOp .not 4 (.tmp 11)) 4)⟩])
 (.cond (.t 12) (.seq (.reg [⟨some 2, none, .mv (.k (.sc (.int .i64 4)))⟩])
 .ret)
 .skip))
 (.seq (.seq (.reg [⟨some 13, none, .sh 13 (.t 1)⟩,
 ⟨some 14, none, .ld none (.t 13)⟩,
 ⟨some 15, none, .sh 0 (.t 1)⟩,
 ⟨some 16, none, .ld none (.t 15)⟩,
 ⟨some 17, none, .bin .eql false (.t 14) (.t 16) (pu (.binOp .eql 9 (.tmp 14) (.tmp 16) 9) 4)⟩])
 (.cond (.t 17) (.seq (.reg [⟨some 2, none, .mv (.k (.sc (.int .i64 1)))⟩])
 .ret)
 .skip))
 (.seq (.reg [⟨some 2, none, .mv (.k (.sc (.int .i64 0)))⟩])
 .ret)))))
def k39 : List Nat := [0, 1, 2, 5, 8, 12, 17]
theorem ic39 : factsI Try.prog 39 = some (18, [.tmp 2], c39) := by kernel_rfl
def c40 : IC :=
 (.seq (.reg [⟨some 1, none, .bx (.t 0)⟩,
 ⟨some 2, none, .mv (.k (.sc (.map none)))⟩])
 (.seq (.reg [⟨some 6, none, .sh 5 (.t 1)⟩,
 ⟨some 7, none, .ld none (.t 6)⟩,
 ⟨some 8, none, .len (.t 7) (pu (.call ⟨.builtin .len, #[(.tmp 7)], #[27]⟩) 3)⟩,
 ⟨some 9, none, .mmk (some (.t 8))⟩,
 ⟨some 3, none, .mv (.t 9)⟩])
 (.seq (.seq (.reg [⟨some 10, none, .sh 5 (.t 1)⟩,
 ⟨some 11, none, .ld none (.t 10)⟩,
 ⟨some 12, none, .len (.t 11) (pu (.call ⟨.builtin .len, #[(.tmp 11)], #[27]⟩) 3)⟩,
 ⟨some 13, none, .mv (.k (.sc (.int .i64 0)))⟩])
 (.block 0 (.loop (.seq (.reg [⟨some 14, none, .bin .lss false (.t 13) (.t 12) (pu (.binOp .lss 3 (.tmp 13) (.tmp 12) 3) 0)⟩])
 (.seq (.cond (.t 14) .skip
 (.exit 0))
 (.seq (.block 1 (.seq (.reg [⟨some 15, none, .ixs 14 (.t 11) (.t 13)⟩,
 ⟨some 16, none, .ld (some 14) (.t 15)⟩,
 ⟨some 5, none, .al (.agg [.sc (.string ⟨#[]⟩), .sc (.string ⟨#[]⟩), .sc (.string ⟨#[]⟩), .sc (.string ⟨#[]⟩), .sc (.int .i64 0), .sc (.int .i64 0), .sc (.int .i64 0), .sc (.int .i64 0), .sc (.string ⟨#[]⟩), .sc (.string ⟨#[]⟩), .sc (.slice none 0 0), .sc (.int .i64 0), .sc (.bool false), .sc (.string ⟨#[]⟩)]) 14⟩,
 ⟨none, none, .st 14 (.t 5) (.t 16)⟩])
 (.reg [⟨some 17, none, .mv (.t 3)⟩,
 ⟨some 18, none, .sh 0 (.t 5)⟩,
 ⟨some 19, none, .ld none (.t 18)⟩,
 ⟨some 20, none, .ld (some 14) (.t 5)⟩,
 ⟨none, none, .mpt false [.s] (.t 17) (.t 19) (.t 20)⟩])))
 (.reg [⟨some 21, none, .bin .add false (.t 13) (.k (.sc (.int .i64 1))) (pu (.binOp .add 3 (.tmp 13) (.const (.int .i64 1)) 3) 3)⟩,
 ⟨some 13, none, .mv (.t 21)⟩])))))))
 (.seq (.reg [⟨some 22, none, .mv (.t 3)⟩,
 ⟨some 2, none, .mv (.t 22)⟩])
 .ret))))
def k40 : List Nat := [0, 1, 2, 3, 5, 11, 12, 13, 14]
theorem ic40 : factsI Try.prog 40 = some (23, [.tmp 2], c40) := by kernel_rfl
def c41 : IC :=
 (.seq (.reg [⟨some 2, none, .bx (.t 0)⟩,
 ⟨some 4, none, .mv (.k (.sc (.slice none 0 0)))⟩,
 ⟨some 5, none, .mv (.k (.sc (.int .i64 0)))⟩])
 (.seq (.reg [⟨some 6, none, .mv (.k (.sc (.slice none 0 0)))⟩])
 (.seq (.seq (.reg [⟨some 9, none, .sh 1 (.t 2)⟩,
 ⟨some 10, none, .ld none (.t 9)⟩,
 ⟨some 11, none, .len (.t 10) (pu (.call ⟨.builtin .len, #[(.tmp 10)], #[23]⟩) 3)⟩,
 ⟨some 12, none, .mv (.k (.sc (.int .i64 0)))⟩])
 (.block 0 (.loop (.seq (.reg [⟨some 13, none, .bin .lss false (.t 12) (.t 11) (pu (.binOp .lss 3 (.tmp 12) (.tmp 11) 3) 0)⟩])
 (.seq (.cond (.t 13) .skip
 (.exit 0))
 (.seq (.block 1 (.seq (.reg [⟨some 14, none, .mv (.t 12)⟩,
 ⟨some 15, none, .ixs 6 (.t 10) (.t 12)⟩,
 ⟨some 16, none, .ld (some 6) (.t 15)⟩,
 ⟨some 8, none, .al (.agg [.sc (.int .i64 0), .sc (.string ⟨#[]⟩), .sc (.string ⟨#[]⟩), .sc (.int .i64 0), .sc (.bool false), .sc (.slice none 0 0)]) 6⟩,
 ⟨some 7, none, .mv (.t 14)⟩,
 ⟨none, none, .st 6 (.t 8) (.t 16)⟩])
 (.seq (.reg [⟨some 17, none, .mv (.t 7)⟩,
 ⟨some 18, none, .sh 2 (.t 2)⟩,
 ⟨some 19, none, .ld none (.t 18)⟩,
 ⟨some 20, none, .len (.t 19) (pu (.call ⟨.builtin .len, #[(.tmp 19)], #[24]⟩) 3)⟩,
 ⟨some 21, none, .bin .lss false (.t 17) (.t 20) (pu (.binOp .lss 3 (.tmp 17) (.tmp 20) 3) 4)⟩,
 ⟨some 22, none, .mv (.t 21)⟩,
 ⟨some 23, (some ((some 22), true)), .sh 2 (.t 2)⟩,
 ⟨some 24, (some ((some 22), true)), .ld none (.t 23)⟩,
 ⟨some 25, (some ((some 22), true)), .mv (.t 7)⟩,
 ⟨some 26, (some ((some 22), true)), .ixs 1 (.t 24) (.t 25)⟩,
 ⟨some 27, (some ((some 22), true)), .ld none (.t 26)⟩,
 ⟨some 28, (some ((some 22), true)), .mv (.t 1)⟩,
 ⟨some 29, (some ((some 22), true)), .bin .gtr false (.t 27) (.t 28) (pu (.binOp .gtr 3 (.tmp 27) (.tmp 28) 3) 4)⟩,
 ⟨some 30, none, .pick (.t 22) (.t 29) (.k (.sc (.bool false)))⟩])
 (.cond (.t 30) (.reg [⟨some 31, none, .mv (.t 6)⟩,
 ⟨some 32, none, .ld (some 6) (.t 8)⟩,
 ⟨some 33, none, .call 55 [(.t 32)]⟩,
 ⟨some 34, none, .bsl 6 1 true [.sc (.int .i64 0), .sc (.string ⟨#[]⟩), .sc (.string ⟨#[]⟩), .sc (.int .i64 0), .sc (.bool false), .sc (.slice none 0 0)] [(0, 6, (.t 33))]⟩,
 ⟨some 35, none, .app 6 80 (.t 31) (.t 34)⟩,
 ⟨some 6, none, .mv (.t 35)⟩])
 .skip))))
 (.reg [⟨some 36, none, .bin .add false (.t 12) (.k (.sc (.int .i64 1))) (pu (.binOp .add 3 (.tmp 12) (.const (.int .i64 1)) 3) 3)⟩,
 ⟨some 12, none, .mv (.t 36)⟩])))))))
 (.seq (.drw [0, 0, 2, 6, 1, 31] [⟨some 37, none, .mv (.t 6)⟩,
 ⟨some 38, none, .sh 3 (.t 2)⟩,
 ⟨some 39, none, .ld none (.t 38)⟩,
 ⟨some 40, none, .bin .sub false (.t 39) (.k (.sc (.int .i64 1))) (pu (.binOp .sub 3 (.tmp 39) (.const (.int .i64 1)) 3) 3)⟩,
 ⟨some 4, none, .mv (.t 37)⟩,
 ⟨some 5, none, .mv (.t 40)⟩])
 .ret))))
def k41 : List Nat := [0, 1, 2, 4, 5, 6, 7, 8, 10, 11, 12, 13, 30]
theorem ic41 : factsI Try.prog 41 = some (41, [.tmp 4, .tmp 5], c41) := by kernel_rfl
def c42 : IC :=
 (.seq (.reg [⟨some 2, none, .bx (.t 0)⟩,
 ⟨some 4, none, .al (.agg [.sc (.string ⟨#[]⟩), .sc (.slice none 0 0), .sc (.slice none 0 0), .sc (.int .i64 0)]) 4⟩,
 ⟨some 5, none, .mv (.k (.sc (.int .i64 0)))⟩])
 (.seq (.reg [⟨some 12, none, .ld (some 4) (.t 2)⟩,
 ⟨some 13, none, .call 56 [(.t 12)]⟩,
 ⟨some 6, none, .al (.agg [(.sc (.map none)), .sc (.int .i64 0)]) 2⟩,
 ⟨none, none, .st 2 (.t 6) (.t 13)⟩])
 (.seq (.reg [⟨some 7, none, .mv (.k (.sc (.int .i64 0)))⟩])
 (.seq (.seq (.reg [⟨some 14, none, .mv (.t 1)⟩,
 ⟨some 15, none, .len (.t 14) (pu (.call ⟨.builtin .len, #[(.tmp 14)], #[23]⟩) 3)⟩,
 ⟨some 16, none, .mv (.k (.sc (.int .i64 0)))⟩])
 (.block 0 (.loop (.seq (.reg [⟨some 17, none, .bin .lss false (.t 16) (.t 15) (pu (.binOp .lss 3 (.tmp 16) (.tmp 15) 3) 0)⟩])
 (.seq (.cond (.t 17) .skip
 (.exit 0))
 (.seq (.block 1 (.seq (.reg [⟨some 18, none, .ixs 6 (.t 14) (.t 16)⟩,
 ⟨some 19, none, .ld (some 6) (.t 18)⟩,
 ⟨some 9, none, .al (.agg [.sc (.int .i64 0), .sc (.string ⟨#[]⟩), .sc (.string ⟨#[]⟩), .sc (.int .i64 0), .sc (.bool false), .sc (.slice none 0 0)]) 6⟩,
 ⟨none, none, .st 6 (.t 9) (.t 19)⟩])
 (.seq (.seq (.reg [⟨some 20, none, .ld (some 6) (.t 9)⟩,
 ⟨some 21, none, .call 51 [(.t 20)]⟩,
 ⟨some 22, none, .bin .neq false (.t 21) (.k (.sc (.int .i64 0))) (pu (.binOp .neq 31 (.tmp 21) (.const (.int .i64 0)) 31) 4)⟩,
 ⟨some 23, none, .mv (.t 22)⟩,
 ⟨some 24, (some ((some 23), false)), .sh 2 (.t 9)⟩,
 ⟨some 25, (some ((some 23), false)), .ld none (.t 24)⟩,
 ⟨some 26, (some ((some 23), false)), .sh 0 (.t 2)⟩,
 ⟨some 27, (some ((some 23), false)), .ld none (.t 26)⟩,
 ⟨some 28, (some ((some 23), false)), .bin .eql false (.t 25) (.t 27) (pu (.binOp .eql 9 (.tmp 25) (.tmp 27) 9) 4)⟩,
 ⟨some 29, none, .pick (.t 23) (.k (.sc (.bool true))) (.t 28)⟩])
 (.cond (.t 29) (.exit 1)
 .skip))
 (.seq (.drw [0, 1, 0, 4, 15, 31, 63, 63, 0, 383, 1023] [⟨some 31, none, .sh 0 (.t 6)⟩,
 ⟨some 32, none, .ld none (.t 31)⟩,
 ⟨some 33, none, .ld (some 6) (.t 9)⟩,
 ⟨some 34, none, .call 52 [(.t 33)]⟩,
 ⟨some 35, none, .mlk true [(.i .i64), .s, .s] (.agg [.sc (.int .i64 0), .sc (.string ⟨#[]⟩), .sc (.string ⟨#[]⟩), .sc (.int .i64 0), .sc (.bool false), .sc (.slice none 0 0), .sc (.int .i64 0)]) true (.t 32) (.t 34) (pu (.lookup 117 (.tmp 32) (.tmp 34) true) 123)⟩,
 ⟨some 30, none, .mv (.t 35)⟩,
 ⟨some 36, none, .ext (.t 30) 0⟩,
 ⟨some 37, none, .ext (.t 30) 1⟩,
 ⟨some 10, none, .al (.agg [.sc (.int .i64 0), .sc (.string ⟨#[]⟩), .sc (.string ⟨#[]⟩), .sc (.int .i64 0), .sc (.bool false), .sc (.slice none 0 0), .sc (.int .i64 0)]) 7⟩,
 ⟨none, none, .st 7 (.t 10) (.t 36)⟩,
 ⟨some 11, none, .mv (.t 37)⟩])
 (.seq (.seq (.reg [⟨some 38, none, .mv (.t 11)⟩,
 ⟨some 39, none, .mv (.t 38)⟩,
 ⟨some 40, (some ((some 39), true)), .sh 0 (.t 10)⟩,
 ⟨some 41, (some ((some 39), true)), .sh 3 (.t 40)⟩,
 ⟨some 42, (some ((some 39), true)), .ld none (.t 41)⟩,
 ⟨some 43, (some ((some 39), true)), .sh 3 (.t 9)⟩,
 ⟨some 44, (some ((some 39), true)), .ld none (.t 43)⟩,
 ⟨some 45, (some ((some 39), true)), .bin .geq false (.t 42) (.t 44) (pu (.binOp .geq 3 (.tmp 42) (.tmp 44) 3) 4)⟩,
 ⟨some 46, none, .pick (.t 39) (.t 45) (.k (.sc (.bool false)))⟩,
 ⟨some 47, none, .mv (.t 46)⟩,
 ⟨some 48, (some ((some 47), false)), .mv (.t 11)⟩,
 ⟨some 49, (some ((some 47), false)), .un .not (.t 48) (pu (.unOp .not 4 (.tmp 48)) 4)⟩,
 ⟨some 50, (some ((some 47), false)), .mv (.t 49)⟩,
 ⟨some 51, (some ((some 50), true)), .sh 0 (.t 6)⟩,
 ⟨some 52, (some ((some 50), true)), .ld none (.t 51)⟩,
 ⟨some 53, (some ((some 50), true)), .mln (.t 52) (pu (.call ⟨.builtin .len, #[(.tmp 52)], #[117]⟩) 3)⟩,
 ⟨some 54, (some ((some 50), true)), .bin .geq false (.t 53) (.k (.sc (.int .i64 256))) (pu (.binOp .geq 3 (.tmp 53) (.const (.int .i64 256)) 3) 4)⟩,
 ⟨some 55, (some ((some 47), false)), .pick (.t 50) (.t 54) (.k (.sc (.bool false)))⟩,
 ⟨some 56, none, .pick (.t 47) (.k (.sc (.bool true))) (.t 55)⟩])
 (.cond (.t 56) (.exit 1)
 .skip))
 (.seq (.reg [⟨some 57, none, .ld (some 6) (.t 9)⟩,
 ⟨some 58, none, .call 57 [(.t 6), (.t 57)]⟩])
 (.reg [⟨some 59, none, .mv (.t 7)⟩,
 ⟨some 60, none, .bin .add false (.t 59) (.k (.sc (.int .i64 1))) (pu (.binOp .add 3 (.tmp 59) (.const (.int .i64 1)) 3) 3)⟩,
 ⟨some 7, none, .mv (.t 60)⟩])))))))
 (.reg [⟨some 61, none, .bin .add false (.t 16) (.k (.sc (.int .i64 1))) (pu (.binOp .add 3 (.tmp 16) (.const (.int .i64 1)) 3) 3)⟩,
 ⟨some 16, none, .mv (.t 61)⟩])))))))
 (.seq (.reg [⟨some 62, none, .sh 0 (.t 2)⟩,
 ⟨some 63, none, .ld none (.t 62)⟩,
 ⟨some 64, none, .call 58 [(.t 6), (.t 63)]⟩,
 ⟨some 65, none, .mv (.t 7)⟩,
 ⟨none, none, .st 4 (.t 4) (.t 64)⟩,
 ⟨some 5, none, .mv (.t 65)⟩])
 .ret)))))
def k42 : List Nat := [0, 1, 2, 4, 5, 6, 7, 9, 10, 11, 14, 15, 16, 17, 29, 56]
theorem ic42 : factsI Try.prog 42 = some (66, [.cell 4 26, .tmp 5], c42) := by kernel_rfl
def c43 : IC :=
 (.seq (.reg [⟨some 4, none, .bx (.t 1)⟩,
 ⟨some 5, none, .bx (.t 2)⟩,
 ⟨some 6, none, .mv (.k (.sc (.slice none 0 0)))⟩])
 (.seq (.reg [⟨some 13, none, .ld (some 7) (.t 5)⟩,
 ⟨some 14, none, .call 40 [(.t 13)]⟩,
 ⟨some 7, none, .mv (.t 14)⟩])
 (.seq (.reg [⟨some 8, none, .mv (.k (.sc (.slice none 0 0)))⟩])
 (.seq (.seq (.reg [⟨some 15, none, .sh 5 (.t 4)⟩,
 ⟨some 16, none, .ld none (.t 15)⟩,
 ⟨some 17, none, .len (.t 16) (pu (.call ⟨.builtin .len, #[(.tmp 16)], #[27]⟩) 3)⟩,
 ⟨some 18, none, .mv (.k (.sc (.int .i64 0)))⟩])
 (.block 0 (.loop (.seq (.reg [⟨some 19, none, .bin .lss false (.t 18) (.t 17) (pu (.binOp .lss 3 (.tmp 18) (.tmp 17) 3) 0)⟩])
 (.seq (.cond (.t 19) .skip
 (.exit 0))
 (.seq (.block 1 (.seq (.reg [⟨some 20, none, .ixs 14 (.t 16) (.t 18)⟩,
 ⟨some 21, none, .ld (some 14) (.t 20)⟩,
 ⟨some 10, none, .al (.agg [.sc (.string ⟨#[]⟩), .sc (.string ⟨#[]⟩), .sc (.string ⟨#[]⟩), .sc (.string ⟨#[]⟩), .sc (.int .i64 0), .sc (.int .i64 0), .sc (.int .i64 0), .sc (.int .i64 0), .sc (.string ⟨#[]⟩), .sc (.string ⟨#[]⟩), .sc (.slice none 0 0), .sc (.int .i64 0), .sc (.bool false), .sc (.string ⟨#[]⟩)]) 14⟩,
 ⟨none, none, .st 14 (.t 10) (.t 21)⟩])
 (.seq (.reg [⟨some 23, none, .mv (.t 7)⟩,
 ⟨some 24, none, .sh 0 (.t 10)⟩,
 ⟨some 25, none, .ld none (.t 24)⟩,
 ⟨some 26, none, .mlk false [.s] (.agg [.sc (.string ⟨#[]⟩), .sc (.string ⟨#[]⟩), .sc (.string ⟨#[]⟩), .sc (.string ⟨#[]⟩), .sc (.int .i64 0), .sc (.int .i64 0), .sc (.int .i64 0), .sc (.int .i64 0), .sc (.string ⟨#[]⟩), .sc (.string ⟨#[]⟩), .sc (.slice none 0 0), .sc (.int .i64 0), .sc (.bool false), .sc (.string ⟨#[]⟩)]) true (.t 23) (.t 25) (pu (.lookup 70 (.tmp 23) (.tmp 25) true) 73)⟩,
 ⟨some 22, none, .mv (.t 26)⟩,
 ⟨some 27, none, .ext (.t 22) 0⟩,
 ⟨some 28, none, .ext (.t 22) 1⟩,
 ⟨some 11, none, .al (.agg [.sc (.string ⟨#[]⟩), .sc (.string ⟨#[]⟩), .sc (.string ⟨#[]⟩), .sc (.string ⟨#[]⟩), .sc (.int .i64 0), .sc (.int .i64 0), .sc (.int .i64 0), .sc (.int .i64 0), .sc (.string ⟨#[]⟩), .sc (.string ⟨#[]⟩), .sc (.slice none 0 0), .sc (.int .i64 0), .sc (.bool false), .sc (.string ⟨#[]⟩)]) 14⟩,
 ⟨none, none, .st 14 (.t 11) (.t 27)⟩,
 ⟨some 12, none, .mv (.t 28)⟩])
 (.seq (.reg [⟨some 29, none, .mv (.t 12)⟩,
 ⟨some 30, none, .un .not (.t 29) (pu (.unOp .not 4 (.tmp 29)) 4)⟩,
 ⟨some 31, none, .mv (.t 30)⟩,
 ⟨some 32, (some ((some 31), true)), .ld (some 14) (.t 10)⟩,
 ⟨some 33, (some ((some 31), true)), .sh 0 (.t 4)⟩,
 ⟨some 34, (some ((some 31), true)), .ld none (.t 33)⟩,
 ⟨some 35, (some ((some 31), true)), .sh 0 (.t 5)⟩,
 ⟨some 36, (some ((some 31), true)), .ld none (.t 35)⟩,
 ⟨some 37, (some ((some 31), true)), .call 48 [(.t 32), (.t 34), (.t 36)]⟩,
 ⟨some 38, none, .pick (.t 31) (.t 37) (.k (.sc (.bool false)))⟩])
 (.cond (.t 38) (.reg [⟨some 39, none, .mv (.t 8)⟩,
 ⟨some 40, none, .ld (some 14) (.t 10)⟩,
 ⟨some 41, none, .call 19 [(.t 40)]⟩,
 ⟨some 42, none, .bsl 14 1 true [.sc (.string ⟨#[]⟩), .sc (.string ⟨#[]⟩), .sc (.string ⟨#[]⟩), .sc (.string ⟨#[]⟩), .sc (.int .i64 0), .sc (.int .i64 0), .sc (.int .i64 0), .sc (.int .i64 0), .sc (.string ⟨#[]⟩), .sc (.string ⟨#[]⟩), .sc (.slice none 0 0), .sc (.int .i64 0), .sc (.bool false), .sc (.string ⟨#[]⟩)] [(0, 14, (.t 41))]⟩,
 ⟨some 43, none, .app 14 184 (.t 39) (.t 42)⟩,
 ⟨some 8, none, .mv (.t 43)⟩])
 .skip)))))
 (.reg [⟨some 44, none, .bin .add false (.t 18) (.k (.sc (.int .i64 1))) (pu (.binOp .add 3 (.tmp 18) (.const (.int .i64 1)) 3) 3)⟩,
 ⟨some 18, none, .mv (.t 44)⟩])))))))
 (.seq (.reg [⟨some 45, none, .mv (.t 8)⟩,
 ⟨some 6, none, .mv (.t 45)⟩])
 .ret)))))
def k43 : List Nat := [1, 2, 4, 5, 6, 7, 8, 10, 12, 16, 17, 18, 19, 38]
theorem ic43 : factsI Try.prog 43 = some (46, [.tmp 6], c43) := by kernel_rfl
def c44 : IC :=
 (.seq (.reg [⟨some 4, none, .mv (.k (.sc (.slice none 0 0)))⟩])
 (.seq (.reg [⟨some 13, none, .mv (.t 0)⟩,
 ⟨some 14, none, .len (.t 13) (pu (.call ⟨.builtin .len, #[(.tmp 13)], #[28]⟩) 3)⟩,
 ⟨some 15, none, .mmk (some (.t 14))⟩,
 ⟨some 5, none, .mv (.t 15)⟩])
 (.seq (.seq (.reg [⟨some 16, none, .mv (.t 0)⟩,
 ⟨some 17, none, .len (.t 16) (pu (.call ⟨.builtin .len, #[(.tmp 16)], #[28]⟩) 3)⟩,
 ⟨some 18, none, .mv (.k (.sc (.int .i64 0)))⟩])
 (.block 0 (.loop (.seq (.reg [⟨some 19, none, .bin .lss false (.t 18) (.t 17) (pu (.binOp .lss 3 (.tmp 18) (.tmp 17) 3) 0)⟩])
 (.seq (.cond (.t 19) .skip
 (.exit 0))
 (.seq (.block 1 (.seq (.reg [⟨some 20, none, .mv (.t 18)⟩,
 ⟨some 21, none, .ixs 6 (.t 16) (.t 18)⟩,
 ⟨some 22, none, .ld (some 6) (.t 21)⟩,
 ⟨some 7, none, .al (.agg [.sc (.string ⟨#[]⟩), .sc (.string ⟨#[]⟩), .sc (.int .i64 0), .sc (.int .i64 0), .sc (.int .i64 0), .sc (.int .i64 0)]) 6⟩,
 ⟨some 6, none, .mv (.t 20)⟩,
 ⟨none, none, .st 6 (.t 7) (.t 22)⟩])
 (.reg [⟨some 23, none, .mv (.t 5)⟩,
 ⟨some 24, none, .sh 0 (.t 7)⟩,
 ⟨some 25, none, .ld none (.t 24)⟩,
 ⟨some 26, none, .mv (.t 6)⟩,
 ⟨none, none, .mpt false [.s] (.t 23) (.t 25) (.t 26)⟩])))
 (.reg [⟨some 27, none, .bin .add false (.t 18) (.k (.sc (.int .i64 1))) (pu (.binOp .add 3 (.tmp 18) (.const (.int .i64 1)) 3) 3)⟩,
 ⟨some 18, none, .mv (.t 27)⟩])))))))
 (.seq (.reg [⟨some 28, none, .mv (.t 0)⟩,
 ⟨some 29, none, .app 6 64 (.k (.sc (.slice none 0 0))) (.t 28)⟩,
 ⟨some 8, none, .mv (.t 29)⟩])
 (.seq (.seq (.reg [⟨some 30, none, .mv (.t 1)⟩,
 ⟨some 31, none, .len (.t 30) (pu (.call ⟨.builtin .len, #[(.tmp 30)], #[28]⟩) 3)⟩,
 ⟨some 32, none, .mv (.k (.sc (.int .i64 0)))⟩])
 (.block 2 (.loop (.seq (.reg [⟨some 33, none, .bin .lss false (.t 32) (.t 31) (pu (.binOp .lss 3 (.tmp 32) (.tmp 31) 3) 0)⟩])
 (.seq (.cond (.t 33) .skip
 (.exit 2))
 (.seq (.block 3 (.seq (.reg [⟨some 34, none, .ixs 6 (.t 30) (.t 32)⟩,
 ⟨some 35, none, .ld (some 6) (.t 34)⟩,
 ⟨some 10, none, .al (.agg [.sc (.string ⟨#[]⟩), .sc (.string ⟨#[]⟩), .sc (.int .i64 0), .sc (.int .i64 0), .sc (.int .i64 0), .sc (.int .i64 0)]) 6⟩,
 ⟨none, none, .st 6 (.t 10) (.t 35)⟩])
 (.seq (.reg [⟨some 37, none, .mv (.t 5)⟩,
 ⟨some 38, none, .sh 0 (.t 10)⟩,
 ⟨some 39, none, .ld none (.t 38)⟩,
 ⟨some 40, none, .mlk false [.s] (.sc (.int .i64 0)) true (.t 37) (.t 39) (pu (.lookup 126 (.tmp 37) (.tmp 39) true) 127)⟩,
 ⟨some 36, none, .mv (.t 40)⟩,
 ⟨some 41, none, .ext (.t 36) 0⟩,
 ⟨some 42, none, .ext (.t 36) 1⟩,
 ⟨some 11, none, .mv (.t 41)⟩,
 ⟨some 12, none, .mv (.t 42)⟩])
 (.seq (.reg [⟨some 43, none, .mv (.t 12)⟩])
 (.cond (.t 43) (.drw [0, 0, 0, 0, 12, 28, 0, 124, 255, 511] [⟨some 44, none, .mv (.t 8)⟩,
 ⟨some 45, none, .mv (.t 11)⟩,
 ⟨some 46, none, .mv (.t 8)⟩,
 ⟨some 47, none, .mv (.t 11)⟩,
 ⟨some 48, none, .ixs 6 (.t 46) (.t 47)⟩,
 ⟨some 49, none, .ld (some 6) (.t 48)⟩,
 ⟨some 50, none, .ld (some 6) (.t 10)⟩,
 ⟨some 51, none, .call 59 [(.t 49), (.t 50)]⟩,
 ⟨some 52, none, .ixs 6 (.t 44) (.t 45)⟩,
 ⟨none, none, .st 6 (.t 52) (.t 51)⟩])
 (.reg [⟨some 53, none, .mv (.t 8)⟩,
 ⟨some 54, none, .ld (some 6) (.t 10)⟩,
 ⟨some 55, none, .bsl 6 1 true [.sc (.string ⟨#[]⟩), .sc (.string ⟨#[]⟩), .sc (.int .i64 0), .sc (.int .i64 0), .sc (.int .i64 0), .sc (.int .i64 0)] [(0, 6, (.t 54))]⟩,
 ⟨some 56, none, .app 6 64 (.t 53) (.t 55)⟩,
 ⟨some 8, none, .mv (.t 56)⟩]))))))
 (.reg [⟨some 57, none, .bin .add false (.t 32) (.k (.sc (.int .i64 1))) (pu (.binOp .add 3 (.tmp 32) (.const (.int .i64 1)) 3) 3)⟩,
 ⟨some 32, none, .mv (.t 57)⟩])))))))
 (.seq (.reg [⟨some 58, none, .mv (.t 8)⟩,
 ⟨some 4, none, .mv (.t 58)⟩])
 .ret))))))
def k44 : List Nat := [0, 1, 4, 5, 6, 7, 8, 10, 11, 12, 16, 17, 18, 19, 30, 31, 32, 33, 43]
theorem ic44 : factsI Try.prog 44 = some (59, [.tmp 4], c44) := by kernel_rfl
def c45 : IC :=
 (.seq (.reg [⟨some 4, none, .bx (.t 0)⟩,
 ⟨some 8, none, .al (.agg [.sc (.string ⟨#[]⟩), .sc (.string ⟨#[]⟩), .sc (.int .i64 0), .sc (.int .i64 0), .sc (.int .i64 0), .sc (.int .i64 0)]) 6⟩,
 ⟨some 9, none, .mv (.k (.sc (.int .i64 0)))⟩])
 (.seq (.seq (.reg [⟨some 11, none, .ld (some 14) (.t 4)⟩,
 ⟨some 12, none, .call 15 [(.t 11)]⟩,
 ⟨some 10, none, .mv (.t 12)⟩])
 (.seq (.reg [⟨some 13, none, .mv (.t 10)⟩,
 ⟨some 14, none, .bin .neq false (.t 13) (.k (.sc (.int .i64 0))) (pu (.binOp .neq 31 (.tmp 13) (.const (.int .i64 0)) 31) 4)⟩])
 (.cond (.t 14) (.seq (.reg [⟨some 15, none, .bld [.sc (.string ⟨#[]⟩), .sc (.string ⟨#[]⟩), .sc (.int .i64 0), .sc (.int .i64 0), .sc (.int .i64 0), .sc (.int .i64 0)] []⟩,
 ⟨some 16, none, .mv (.t 10)⟩,
 ⟨none, none, .st 6 (.t 8) (.t 15)⟩,
 ⟨some 9, none, .mv (.t 16)⟩])
 .ret)
 .skip)))
 (.seq (.seq (.reg [⟨some 17, none, .sh 12 (.t 4)⟩,
 ⟨some 18, none, .ld none (.t 17)⟩])
 (.cond (.t 18) (.seq (.reg [⟨some 19, none, .bld [.sc (.string ⟨#[]⟩), .sc (.string ⟨#[]⟩), .sc (.int .i64 0), .sc (.int .i64 0), .sc (.int .i64 0), .sc (.int .i64 0)] []⟩,
 ⟨none, none, .st 6 (.t 8) (.t 19)⟩,
 ⟨some 9, none, .mv (.k (.sc (.int .i64 10)))⟩])
 .ret)
 .skip))
 (.seq (.seq (.reg [⟨some 20, none, .mv (.t 1)⟩,
 ⟨some 21, none, .sh 2 (.t 4)⟩,
 ⟨some 22, none, .ld none (.t 21)⟩,
 ⟨some 23, none, .bin .neq false (.t 20) (.t 22) (pu (.binOp .neq 9 (.tmp 20) (.tmp 22) 9) 4)⟩])
 (.cond (.t 23) (.seq (.reg [⟨some 24, none, .bld [.sc (.string ⟨#[]⟩), .sc (.string ⟨#[]⟩), .sc (.int .i64 0), .sc (.int .i64 0), .sc (.int .i64 0), .sc (.int .i64 0)] []⟩,
 ⟨none, none, .st 6 (.t 8) (.t 24)⟩,
 ⟨some 9, none, .mv (.k (.sc (.int .i64 15)))⟩])
 .ret)
 .skip))
 (.seq (.seq (.reg [⟨some 25, none, .mv (.t 2)⟩,
 ⟨some 26, none, .bin .lss false (.t 25) (.k (.sc (.int .i64 1))) (pu (.binOp .lss 3 (.tmp 25) (.const (.int .i64 1)) 3) 4)⟩,
 ⟨some 27, none, .mv (.t 26)⟩,
 ⟨some 28, (some ((some 27), false)), .mv (.t 2)⟩,
 ⟨some 29, (some ((some 27), false)), .sh 11 (.t 4)⟩,
 ⟨some 30, (some ((some 27), false)), .ld none (.t 29)⟩,
 ⟨some 31, (some ((some 27), false)), .bin .gtr false (.t 28) (.t 30) (pu (.binOp .gtr 3 (.tmp 28) (.tmp 30) 3) 4)⟩,
 ⟨some 32, none, .pick (.t 27) (.k (.sc (.bool true))) (.t 31)⟩,
 ⟨some 33, none, .mv (.t 32)⟩,
 ⟨some 34, (some ((some 33), false)), .mv (.t 2)⟩,
 ⟨some 35, (some ((some 33), false)), .bin .gtr false (.t 34) (.k (.sc (.int .i64 36028797018963968))) (pu (.binOp .gtr 3 (.tmp 34) (.const (.int .i64 36028797018963968)) 3) 4)⟩,
 ⟨some 36, none, .pick (.t 33) (.k (.sc (.bool true))) (.t 35)⟩,
 ⟨some 37, none, .mv (.t 36)⟩,
 ⟨some 38, (some ((some 37), false)), .mv (.t 3)⟩,
 ⟨some 39, (some ((some 37), false)), .sh 6 (.t 4)⟩,
 ⟨some 40, (some ((some 37), false)), .ld none (.t 39)⟩,
 ⟨some 41, (some ((some 37), false)), .bin .lss false (.t 38) (.t 40) (pu (.binOp .lss 3 (.tmp 38) (.tmp 40) 3) 4)⟩,
 ⟨some 42, none, .pick (.t 37) (.k (.sc (.bool true))) (.t 41)⟩,
 ⟨some 43, none, .mv (.t 42)⟩,
 ⟨some 44, (some ((some 43), false)), .mv (.t 3)⟩,
 ⟨some 45, (some ((some 43), false)), .bin .gtr false (.t 44) (.k (.sc (.int .i64 268435456))) (pu (.binOp .gtr 3 (.tmp 44) (.const (.int .i64 268435456)) 3) 4)⟩,
 ⟨some 46, none, .pick (.t 43) (.k (.sc (.bool true))) (.t 45)⟩])
 (.cond (.t 46) (.seq (.reg [⟨some 47, none, .bld [.sc (.string ⟨#[]⟩), .sc (.string ⟨#[]⟩), .sc (.int .i64 0), .sc (.int .i64 0), .sc (.int .i64 0), .sc (.int .i64 0)] []⟩,
 ⟨none, none, .st 6 (.t 8) (.t 47)⟩,
 ⟨some 9, none, .mv (.k (.sc (.int .i64 2)))⟩])
 .ret)
 .skip))
 (.seq (.seq (.reg [⟨some 48, none, .mv (.t 3)⟩,
 ⟨some 49, none, .sh 6 (.t 4)⟩,
 ⟨some 50, none, .ld none (.t 49)⟩,
 ⟨some 51, none, .bin .add false (.t 50) (.k (.sc (.int .i64 43200))) (pu (.binOp .add 3 (.tmp 50) (.const (.int .i64 43200)) 3) 3)⟩,
 ⟨some 52, none, .bin .gtr false (.t 48) (.t 51) (pu (.binOp .gtr 3 (.tmp 48) (.tmp 51) 3) 4)⟩])
 (.cond (.t 52) (.seq (.reg [⟨some 53, none, .bld [.sc (.string ⟨#[]⟩), .sc (.string ⟨#[]⟩), .sc (.int .i64 0), .sc (.int .i64 0), .sc (.int .i64 0), .sc (.int .i64 0)] []⟩,
 ⟨none, none, .st 6 (.t 8) (.t 53)⟩,
 ⟨some 9, none, .mv (.k (.sc (.int .i64 12)))⟩])
 .ret)
 .skip))
 (.seq (.reg [⟨some 54, none, .sh 0 (.t 4)⟩,
 ⟨some 55, none, .ld none (.t 54)⟩,
 ⟨some 56, none, .mv (.t 1)⟩,
 ⟨some 57, none, .mv (.t 3)⟩,
 ⟨some 58, none, .mv (.t 2)⟩,
 ⟨some 59, none, .bld [.sc (.string ⟨#[]⟩), .sc (.string ⟨#[]⟩), .sc (.int .i64 0), .sc (.int .i64 0), .sc (.int .i64 0), .sc (.int .i64 0)] [(0, 1, (.t 55)), (1, 1, (.t 56)), (2, 1, (.k (.sc (.int .i64 1)))), (3, 1, (.t 57)), (4, 1, (.t 58))]⟩,
 ⟨none, none, .st 6 (.t 8) (.t 59)⟩,
 ⟨some 9, none, .mv (.k (.sc (.int .i64 0)))⟩])
 .ret)))))))
def k45 : List Nat := [0, 1, 2, 3, 4, 8, 9, 10, 14, 18, 23, 46, 52]
theorem ic45 : factsI Try.prog 45 = some (60, [.cell 8 78, .tmp 9], c45) := by kernel_rfl
def c46 : IC :=
 (.seq (.reg [⟨some 2, none, .bx (.t 0)⟩,
 ⟨some 4, none, .mv (.k (.sc (.int .i64 0)))⟩])
 (.seq (.seq (.reg [⟨some 7, none, .sh 6 (.t 2)⟩,
 ⟨some 8, none, .ld none (.t 7)⟩,
 ⟨some 9, none, .len (.t 8) (pu (.call ⟨.builtin .len, #[(.tmp 8)], #[28]⟩) 3)⟩,
 ⟨some 10, none, .mv (.k (.sc (.int .i64 0)))⟩])
 (.block 0 (.loop (.seq (.reg [⟨some 11, none, .bin .lss false (.t 10) (.t 9) (pu (.binOp .lss 3 (.tmp 10) (.tmp 9) 3) 0)⟩])
 (.seq (.cond (.t 11) .skip
 (.exit 0))
 (.seq (.block 1 (.seq (.reg [⟨some 12, none, .mv (.t 10)⟩,
 ⟨some 13, none, .ixs 6 (.t 8) (.t 10)⟩,
 ⟨some 14, none, .ld (some 6) (.t 13)⟩,
 ⟨some 6, none, .al (.agg [.sc (.string ⟨#[]⟩), .sc (.string ⟨#[]⟩), .sc (.int .i64 0), .sc (.int .i64 0), .sc (.int .i64 0), .sc (.int .i64 0)]) 6⟩,
 ⟨some 5, none, .mv (.t 12)⟩,
 ⟨none, none, .st 6 (.t 6) (.t 14)⟩])
 (.seq (.reg [⟨some 15, none, .sh 0 (.t 6)⟩,
 ⟨some 16, none, .ld none (.t 15)⟩,
 ⟨some 17, none, .mv (.t 1)⟩,
 ⟨some 18, none, .bin .eql false (.t 16) (.t 17) (pu (.binOp .eql 9 (.tmp 16) (.tmp 17) 9) 4)⟩])
 (.cond (.t 18) (.seq (.reg [⟨some 19, none, .mv (.t 5)⟩,
 ⟨some 4, none, .mv (.t 19)⟩])
 .ret)
 .skip))))
 (.reg [⟨some 20, none, .bin .add false (.t 10) (.k (.sc (.int .i64 1))) (pu (.binOp .add 3 (.tmp 10) (.const (.int .i64 1)) 3) 3)⟩,
 ⟨some 10, none, .mv (.t 20)⟩])))))))
 (.seq (.reg [⟨some 4, none, .mv (.k (.sc (.int .i64 (-1))))⟩])
 .ret)))
def k46 : List Nat := [0, 1, 2, 4, 5, 6, 8, 9, 10, 11, 18]
theorem ic46 : factsI Try.prog 46 = some (21, [.tmp 4], c46) := by kernel_rfl
def c47 : IC :=
 (.seq (.reg [⟨some 5, none, .bx (.t 0)⟩,
 ⟨some 10, none, .al (.agg [.sc (.string ⟨#[]⟩), .sc (.string ⟨#[]⟩), .sc (.int .i64 0), .sc (.int .i64 0), .sc (.int .i64 0), .sc (.int .i64 0)]) 6⟩,
 ⟨some 11, none, .mv (.k (.sc (.int .i64 0)))⟩])
 (.seq (.seq (.reg [⟨some 16, none, .ld (some 6) (.t 5)⟩,
 ⟨some 17, none, .call 53 [(.t 16)]⟩,
 ⟨some 12, none, .mv (.t 17)⟩])
 (.seq (.reg [⟨some 18, none, .mv (.t 12)⟩,
 ⟨some 19, none, .bin .neq false (.t 18) (.k (.sc (.int .i64 0))) (pu (.binOp .neq 31 (.tmp 18) (.const (.int .i64 0)) 31) 4)⟩])
 (.cond (.t 19) (.seq (.reg [⟨some 20, none, .ld (some 6) (.t 5)⟩,
 ⟨some 21, none, .mv (.t 12)⟩,
 ⟨none, none, .st 6 (.t 10) (.t 20)⟩,
 ⟨some 11, none, .mv (.t 21)⟩])
 .ret)
 .skip)))
 (.seq (.seq (.reg [⟨some 22, none, .mv (.t 1)⟩,
 ⟨some 23, none, .call 12 [(.t 22)]⟩,
 ⟨some 24, none, .un .not (.t 23) (pu (.unOp .not 4 (.tmp 23)) 4)⟩])
 (.cond (.t 24) (.seq (.reg [⟨some 25, none, .ld (some 6) (.t 5)⟩,
 ⟨none, none, .st 6 (.t 10) (.t 25)⟩,
 ⟨some 11, none, .mv (.k (.sc (.int .i64 4)))⟩])
 .ret)
 .skip))
 (.seq (.seq (.reg [⟨some 26, none, .ld (some 6) (.t 5)⟩,
 ⟨some 27, none, .mv (.t 2)⟩,
 ⟨some 28, none, .mv (.t 3)⟩,
 ⟨some 29, none, .mv (.t 4)⟩,
 ⟨some 30, none, .call 60 [(.t 26), (.t 27), (.t 28), (.t 29)]⟩,
 ⟨some 31, none, .un .not (.t 30) (pu (.unOp .not 4 (.tmp 30)) 4)⟩])
 (.cond (.t 31) (.seq (.reg [⟨some 32, none, .ld (some 6) (.t 5)⟩,
 ⟨none, none, .st 6 (.t 10) (.t 32)⟩,
 ⟨some 11, none, .mv (.k (.sc (.int .i64 2)))⟩])
 .ret)
 .skip))
 (.seq (.seq (.reg [⟨some 33, none, .sh 2 (.t 5)⟩,
 ⟨some 34, none, .ld none (.t 33)⟩,
 ⟨some 35, none, .bin .eql false (.t 34) (.k (.sc (.int .i64 4))) (pu (.binOp .eql 3 (.tmp 34) (.const (.int .i64 4)) 3) 4)⟩,
 ⟨some 36, none, .mv (.t 35)⟩,
 ⟨some 37, (some ((some 36), false)), .sh 2 (.t 5)⟩,
 ⟨some 38, (some ((some 36), false)), .ld none (.t 37)⟩,
 ⟨some 39, (some ((some 36), false)), .bin .eql false (.t 38) (.k (.sc (.int .i64 5))) (pu (.binOp .eql 3 (.tmp 38) (.const (.int .i64 5)) 3) 4)⟩,
 ⟨some 40, none, .pick (.t 36) (.k (.sc (.bool true))) (.t 39)⟩,
 ⟨some 41, none, .mv (.t 40)⟩,
 ⟨some 42, (some ((some 41), false)), .sh 2 (.t 5)⟩,
 ⟨some 43, (some ((some 41), false)), .ld none (.t 42)⟩,
 ⟨some 44, (some ((some 41), false)), .bin .eql false (.t 43) (.k (.sc (.int .i64 6))) (pu (.binOp .eql 3 (.tmp 43) (.const (.int .i64 6)) 3) 4)⟩,
 ⟨some 45, none, .pick (.t 41) (.k (.sc (.bool true))) (.t 44)⟩])
 (.cond (.t 45) (.seq (.reg [⟨some 46, none, .ld (some 6) (.t 5)⟩,
 ⟨none, none, .st 6 (.t 10) (.t 46)⟩,
 ⟨some 11, none, .mv (.k (.sc (.int .i64 10)))⟩])
 .ret)
 .skip))
 (.seq (.seq (.reg [⟨some 47, none, .mv (.t 2)⟩,
 ⟨some 48, none, .mv (.t 1)⟩,
 ⟨some 49, none, .sh 1 (.t 5)⟩,
 ⟨some 50, none, .ld none (.t 49)⟩,
 ⟨some 51, none, .bin .eql false (.t 48) (.t 50) (pu (.binOp .eql 9 (.tmp 48) (.tmp 50) 9) 4)⟩,
 ⟨some 52, none, .call 61 [(.t 47), (.t 51)]⟩,
 ⟨some 53, none, .un .not (.t 52) (pu (.unOp .not 4 (.tmp 52)) 4)⟩])
 (.cond (.t 53) (.seq (.reg [⟨some 54, none, .ld (some 6) (.t 5)⟩,
 ⟨none, none, .st 6 (.t 10) (.t 54)⟩,
 ⟨some 11, none, .mv (.k (.sc (.int .i64 15)))⟩])
 .ret)
 .skip))
 (.seq (.reg [⟨some 55, none, .mv (.t 4)⟩,
 ⟨some 56, none, .sh 3 (.t 5)⟩,
 ⟨some 57, none, .ld none (.t 56)⟩,
 ⟨some 58, none, .bin .add false (.t 57) (.k (.sc (.int .i64 43200))) (pu (.binOp .add 3 (.tmp 57) (.const (.int .i64 43200)) 3) 3)⟩,
 ⟨some 59, none, .bin .geq false (.t 55) (.t 58) (pu (.binOp .geq 3 (.tmp 55) (.tmp 58) 3) 4)⟩,
 ⟨some 13, none, .mv (.t 59)⟩])
 (.seq (.seq (.reg [⟨some 60, none, .mv (.t 2)⟩,
 ⟨some 61, none, .bin .eql false (.t 60) (.k (.sc (.int .i64 1))) (pu (.binOp .eql 3 (.tmp 60) (.const (.int .i64 1)) 3) 4)⟩,
 ⟨some 62, none, .mv (.t 61)⟩,
 ⟨some 63, (some ((some 62), true)), .mv (.t 13)⟩,
 ⟨some 64, none, .pick (.t 62) (.t 63) (.k (.sc (.bool false)))⟩])
 (.cond (.t 64) (.seq (.reg [⟨some 65, none, .ld (some 6) (.t 5)⟩,
 ⟨none, none, .st 6 (.t 10) (.t 65)⟩,
 ⟨some 11, none, .mv (.k (.sc (.int .i64 12)))⟩])
 .ret)
 .skip))
 (.seq (.reg [⟨some 67, none, .sh 2 (.t 5)⟩,
 ⟨some 68, none, .ld none (.t 67)⟩,
 ⟨some 69, none, .mv (.t 2)⟩,
 ⟨some 70, none, .mv (.t 13)⟩,
 ⟨some 71, none, .call 62 [(.t 68), (.t 69), (.t 70)]⟩,
 ⟨some 66, none, .mv (.t 71)⟩,
 ⟨some 72, none, .ext (.t 66) 0⟩,
 ⟨some 73, none, .ext (.t 66) 1⟩,
 ⟨some 14, none, .mv (.t 72)⟩,
 ⟨some 15, none, .mv (.t 73)⟩])
 (.seq (.seq (.reg [⟨some 74, none, .mv (.t 15)⟩,
 ⟨some 75, none, .un .not (.t 74) (pu (.unOp .not 4 (.tmp 74)) 4)⟩])
 (.cond (.t 75) (.seq (.reg [⟨some 76, none, .ld (some 6) (.t 5)⟩,
 ⟨none, none, .st 6 (.t 10) (.t 76)⟩,
 ⟨some 11, none, .mv (.k (.sc (.int .i64 10)))⟩])
 .ret)
 .skip))
 (.seq (.reg [⟨some 77, none, .mv (.t 14)⟩,
 ⟨some 78, none, .sh 2 (.t 5)⟩,
 ⟨none, none, .st 1 (.t 78) (.t 77)⟩])
 (.seq (.seq (.reg [⟨some 79, none, .mv (.t 2)⟩,
 ⟨some 80, none, .bin .eql false (.t 79) (.k (.sc (.int .i64 3))) (pu (.binOp .eql 3 (.tmp 79) (.const (.int .i64 3)) 3) 4)⟩])
 (.cond (.t 80) (.reg [⟨some 81, none, .mv (.t 3)⟩,
 ⟨some 82, none, .sh 5 (.t 5)⟩,
 ⟨none, none, .st 1 (.t 82) (.t 81)⟩])
 .skip))
 (.seq (.reg [⟨some 83, none, .ld (some 6) (.t 5)⟩,
 ⟨none, none, .st 6 (.t 10) (.t 83)⟩,
 ⟨some 11, none, .mv (.k (.sc (.int .i64 0)))⟩])
 .ret)))))))))))))
def k47 : List Nat := [0, 1, 2, 3, 4, 5, 10, 11, 12, 13, 14, 15, 19, 24, 31, 45, 53, 64, 75, 80]
theorem ic47 : factsI Try.prog 47 = some (84, [.cell 10 78, .tmp 11], c47) := by kernel_rfl
def c48 : IC :=
 (.seq (.reg [⟨some 3, none, .bx (.t 0)⟩,
 ⟨some 6, none, .mv (.k (.sc (.bool false)))⟩])
 (.seq (.reg [⟨some 7, none, .sh 1 (.t 3)⟩,
 ⟨some 8, none, .ld none (.t 7)⟩,
 ⟨some 9, none, .mv (.t 1)⟩,
 ⟨some 10, none, .bin .eql false (.t 8) (.t 9) (pu (.binOp .eql 9 (.tmp 8) (.tmp 9) 9) 4)⟩,
 ⟨some 11, none, .mv (.t 10)⟩,
 ⟨some 12, (some ((some 11), true)), .sh 2 (.t 3)⟩,
 ⟨some 13, (some ((some 11), true)), .ld none (.t 12)⟩,
 ⟨some 14, (some ((some 11), true)), .mv (.t 2)⟩,
 ⟨some 15, (some ((some 11), true)), .bin .eql false (.t 13) (.t 14) (pu (.binOp .eql 9 (.tmp 13) (.tmp 14) 9) 4)⟩,
 ⟨some 16, none, .pick (.t 11) (.t 15) (.k (.sc (.bool false)))⟩,
 ⟨some 17, none, .mv (.t 16)⟩,
 ⟨some 18, (some ((some 17), false)), .sh 1 (.t 3)⟩,
 ⟨some 19, (some ((some 17), false)), .ld none (.t 18)⟩,
 ⟨some 20, (some ((some 17), false)), .mv (.t 2)⟩,
 ⟨some 21, (some ((some 17), false)), .bin .eql false (.t 19) (.t 20) (pu (.binOp .eql 9 (.tmp 19) (.tmp 20) 9) 4)⟩,
 ⟨some 22, (some ((some 17), false)), .mv (.t 21)⟩,
 ⟨some 23, (some ((some 22), true)), .sh 2 (.t 3)⟩,
 ⟨some 24, (some ((some 22), true)), .ld none (.t 23)⟩,
 ⟨some 25, (some ((some 22), true)), .mv (.t 1)⟩,
 ⟨some 26, (some ((some 22), true)), .bin .eql false (.t 24) (.t 25) (pu (.binOp .eql 9 (.tmp 24) (.tmp 25) 9) 4)⟩,
 ⟨some 27, (some ((some 17), false)), .pick (.t 22) (.t 26) (.k (.sc (.bool false)))⟩,
 ⟨some 28, none, .pick (.t 17) (.k (.sc (.bool true))) (.t 27)⟩,
 ⟨some 6, none, .mv (.t 28)⟩])
 .ret))
def k48 : List Nat := [0, 1, 2, 3, 6]
theorem ic48 : factsI Try.prog 48 = some (29, [.tmp 6], c48) := by kernel_rfl
def c49 : IC :=
 (.seq (.reg [⟨some 4, none, .mv (.k (.sc (.bool false)))⟩])
 (.seq (.seq (.reg [⟨some 6, none, .mv (.t 0)⟩,
 ⟨some 7, none, .len (.t 6) (pu (.call ⟨.builtin .len, #[(.tmp 6)], #[37]⟩) 3)⟩,
 ⟨some 8, none, .mv (.t 1)⟩,
 ⟨some 9, none, .len (.t 8) (pu (.call ⟨.builtin .len, #[(.tmp 8)], #[37]⟩) 3)⟩,
 ⟨some 10, none, .bin .neq false (.t 7) (.t 9) (pu (.binOp .neq 3 (.tmp 7) (.tmp 9) 3) 4)⟩])
 (.cond (.t 10) (.seq (.reg [⟨some 4, none, .mv (.k (.sc (.bool false)))⟩])
 .ret)
 .skip))
 (.seq (.seq (.reg [⟨some 11, none, .mv (.t 0)⟩,
 ⟨some 12, none, .len (.t 11) (pu (.call ⟨.builtin .len, #[(.tmp 11)], #[37]⟩) 3)⟩,
 ⟨some 13, none, .mv (.k (.sc (.int .i64 0)))⟩])
 (.block 0 (.loop (.seq (.reg [⟨some 14, none, .bin .lss false (.t 13) (.t 12) (pu (.binOp .lss 3 (.tmp 13) (.tmp 12) 3) 0)⟩])
 (.seq (.cond (.t 14) .skip
 (.exit 0))
 (.seq (.block 1 (.seq (.reg [⟨some 15, none, .mv (.t 13)⟩,
 ⟨some 5, none, .mv (.t 15)⟩])
 (.seq (.drw [0, 0, 3, 7, 0, 0, 48, 112, 255] [⟨some 16, none, .mv (.t 0)⟩,
 ⟨some 17, none, .mv (.t 5)⟩,
 ⟨some 18, none, .ixs 7 (.t 16) (.t 17)⟩,
 ⟨some 19, none, .ld (some 7) (.t 18)⟩,
 ⟨some 20, none, .mv (.t 1)⟩,
 ⟨some 21, none, .mv (.t 5)⟩,
 ⟨some 22, none, .ixs 7 (.t 20) (.t 21)⟩,
 ⟨some 23, none, .ld (some 7) (.t 22)⟩,
 ⟨some 24, none, .bin .neq false (.t 19) (.t 23) (pu (.binOp .neq 56 (.tmp 19) (.tmp 23) 56) 4)⟩])
 (.cond (.t 24) (.seq (.reg [⟨some 4, none, .mv (.k (.sc (.bool false)))⟩])
 .ret)
 .skip))))
 (.reg [⟨some 25, none, .bin .add false (.t 13) (.k (.sc (.int .i64 1))) (pu (.binOp .add 3 (.tmp 13) (.const (.int .i64 1)) 3) 3)⟩,
 ⟨some 13, none, .mv (.t 25)⟩])))))))
 (.seq (.reg [⟨some 4, none, .mv (.k (.sc (.bool true)))⟩])
 .ret))))
def k49 : List Nat := [0, 1, 4, 5, 10, 12, 13, 14, 24]
theorem ic49 : factsI Try.prog 49 = some (26, [.tmp 4], c49) := by kernel_rfl
def c50 : IC :=
 (.seq (.reg [⟨some 11, none, .bx (.t 5)⟩,
 ⟨some 12, none, .mv (.k (.sc (.int .i64 0)))⟩,
 ⟨some 13, none, .mv (.k (.sc (.int .i64 0)))⟩])
 (.seq (.seq (.reg [⟨some 24, none, .mv (.t 0)⟩,
 ⟨some 25, none, .mv (.t 1)⟩,
 ⟨some 26, none, .mv (.t 2)⟩,
 ⟨some 27, none, .mv (.t 3)⟩,
 ⟨some 28, none, .mv (.t 4)⟩,
 ⟨some 29, none, .ld (some 2) (.t 11)⟩,
 ⟨some 30, none, .call 63 [(.t 24), (.t 25), (.t 26), (.t 27), (.t 28), (.t 29)]⟩,
 ⟨some 14, none, .mv (.t 30)⟩])
 (.seq (.reg [⟨some 31, none, .mv (.t 14)⟩,
 ⟨some 32, none, .bin .neq false (.t 31) (.k (.sc (.int .i64 0))) (pu (.binOp .neq 31 (.tmp 31) (.const (.int .i64 0)) 31) 4)⟩])
 (.cond (.t 32) (.seq (.reg [⟨some 33, none, .mv (.t 14)⟩,
 ⟨some 12, none, .mv (.k (.sc (.int .i64 0)))⟩,
 ⟨some 13, none, .mv (.t 33)⟩])
 .ret)
 .skip)))
 (.seq (.reg [⟨some 34, none, .mv (.t 1)⟩,
 ⟨some 35, none, .call 64 [(.t 34)]⟩,
 ⟨some 15, none, .mv (.t 35)⟩])
 (.seq (.reg [⟨some 16, none, .mv (.k (.sc (.slice none 0 0)))⟩])
 (.seq (.seq (.reg [⟨some 36, none, .mv (.t 0)⟩,
 ⟨some 37, none, .len (.t 36) (pu (.call ⟨.builtin .len, #[(.tmp 36)], #[27]⟩) 3)⟩,
 ⟨some 38, none, .mv (.k (.sc (.int .i64 0)))⟩])
 (.block 0 (.loop (.seq (.reg [⟨some 39, none, .bin .lss false (.t 38) (.t 37) (pu (.binOp .lss 3 (.tmp 38) (.tmp 37) 3) 0)⟩])
 (.seq (.cond (.t 39) .skip
 (.exit 0))
 (.seq (.block 1 (.seq (.reg [⟨some 40, none, .ixs 14 (.t 36) (.t 38)⟩,
 ⟨some 41, none, .ld (some 14) (.t 40)⟩,
 ⟨some 18, none, .al (.agg [.sc (.string ⟨#[]⟩), .sc (.string ⟨#[]⟩), .sc (.string ⟨#[]⟩), .sc (.string ⟨#[]⟩), .sc (.int .i64 0), .sc (.int .i64 0), .sc (.int .i64 0), .sc (.int .i64 0), .sc (.string ⟨#[]⟩), .sc (.string ⟨#[]⟩), .sc (.slice none 0 0), .sc (.int .i64 0), .sc (.bool false), .sc (.string ⟨#[]⟩)]) 14⟩,
 ⟨none, none, .st 14 (.t 18) (.t 41)⟩])
 (.seq (.seq (.reg [⟨some 42, none, .sh 1 (.t 18)⟩,
 ⟨some 43, none, .ld none (.t 42)⟩,
 ⟨some 44, none, .mv (.t 2)⟩,
 ⟨some 45, none, .bin .neq false (.t 43) (.t 44) (pu (.binOp .neq 9 (.tmp 43) (.tmp 44) 9) 4)⟩,
 ⟨some 46, none, .mv (.t 45)⟩,
 ⟨some 47, (some ((some 46), false)), .sh 2 (.t 18)⟩,
 ⟨some 48, (some ((some 46), false)), .ld none (.t 47)⟩,
 ⟨some 49, (some ((some 46), false)), .mv (.t 3)⟩,
 ⟨some 50, (some ((some 46), false)), .bin .neq false (.t 48) (.t 49) (pu (.binOp .neq 9 (.tmp 48) (.tmp 49) 9) 4)⟩,
 ⟨some 51, none, .pick (.t 46) (.k (.sc (.bool true))) (.t 50)⟩,
 ⟨some 52, none, .mv (.t 51)⟩,
 ⟨some 53, (some ((some 52), false)), .sh 9 (.t 18)⟩,
 ⟨some 54, (some ((some 52), false)), .ld none (.t 53)⟩,
 ⟨some 55, (some ((some 52), false)), .mv (.t 4)⟩,
 ⟨some 56, (some ((some 52), false)), .bin .neq false (.t 54) (.t 55) (pu (.binOp .neq 9 (.tmp 54) (.tmp 55) 9) 4)⟩,
 ⟨some 57, none, .pick (.t 52) (.k (.sc (.bool true))) (.t 56)⟩,
 ⟨some 58, none, .mv (.t 57)⟩,
 ⟨some 59, (some ((some 58), false)), .sh 6 (.t 18)⟩,
 ⟨some 60, (some ((some 58), false)), .ld none (.t 59)⟩,
 ⟨some 61, (some ((some 58), false)), .sh 0 (.t 11)⟩,
 ⟨some 62, (some ((some 58), false)), .ld none (.t 61)⟩,
 ⟨some 63, (some ((some 58), false)), .bin .lss false (.t 60) (.t 62) (pu (.binOp .lss 3 (.tmp 60) (.tmp 62) 3) 4)⟩,
 ⟨some 64, none, .pick (.t 58) (.k (.sc (.bool true))) (.t 63)⟩,
 ⟨some 65, none, .mv (.t 64)⟩,
 ⟨some 66, (some ((some 65), false)), .sh 6 (.t 18)⟩,
 ⟨some 67, (some ((some 65), false)), .ld none (.t 66)⟩,
 ⟨some 68, (some ((some 65), false)), .sh 1 (.t 11)⟩,
 ⟨some 69, (some ((some 65), false)), .ld none (.t 68)⟩,
 ⟨some 70, (some ((some 65), false)), .bin .geq false (.t 67) (.t 69) (pu (.binOp .geq 3 (.tmp 67) (.tmp 69) 3) 4)⟩,
 ⟨some 71, none, .pick (.t 65) (.k (.sc (.bool true))) (.t 70)⟩])
 (.cond (.t 71) (.exit 1)
 .skip))
 (.seq (.reg [⟨some 19, none, .mv (.k (.sc (.slice none 0 0)))⟩])
 (.seq (.seq (.reg [⟨some 73, none, .mv (.t 15)⟩,
 ⟨some 74, none, .sh 0 (.t 18)⟩,
 ⟨some 75, none, .ld none (.t 74)⟩,
 ⟨some 76, none, .mlk false [.s] (.agg [.sc (.string ⟨#[]⟩), .sc (.string ⟨#[]⟩), .sc (.int .i64 0), .sc (.int .i64 0), .sc (.int .i64 0), .sc (.int .i64 0)]) true (.t 73) (.t 75) (pu (.lookup 76 (.tmp 73) (.tmp 75) true) 79)⟩,
 ⟨some 72, none, .mv (.t 76)⟩,
 ⟨some 77, none, .ext (.t 72) 0⟩,
 ⟨some 78, none, .ext (.t 72) 1⟩,
 ⟨some 20, none, .al (.agg [.sc (.string ⟨#[]⟩), .sc (.string ⟨#[]⟩), .sc (.int .i64 0), .sc (.int .i64 0), .sc (.int .i64 0), .sc (.int .i64 0)]) 6⟩,
 ⟨none, none, .st 6 (.t 20) (.t 77)⟩,
 ⟨some 21, none, .mv (.t 78)⟩])
 (.seq (.reg [⟨some 79, none, .mv (.t 21)⟩])
 (.cond (.t 79) (.reg [⟨some 80, none, .mv (.t 19)⟩,
 ⟨some 81, none, .ld (some 6) (.t 20)⟩,
 ⟨some 82, none, .bsl 6 1 true [.sc (.string ⟨#[]⟩), .sc (.string ⟨#[]⟩), .sc (.int .i64 0), .sc (.int .i64 0), .sc (.int .i64 0), .sc (.int .i64 0)] [(0, 6, (.t 81))]⟩,
 ⟨some 83, none, .app 6 64 (.t 80) (.t 82)⟩,
 ⟨some 19, none, .mv (.t 83)⟩])
 .skip)))
 (.reg [⟨some 84, none, .mv (.t 16)⟩,
 ⟨some 85, none, .ld (some 14) (.t 18)⟩,
 ⟨some 86, none, .mv (.t 19)⟩,
 ⟨some 87, none, .call 65 [(.t 85), (.t 86)]⟩,
 ⟨some 88, none, .bsl 1 1 false [.sc (.int .i64 0)] [(0, 1, (.t 87))]⟩,
 ⟨some 89, none, .app 1 8 (.t 84) (.t 88)⟩,
 ⟨some 16, none, .mv (.t 89)⟩]))))))
 (.reg [⟨some 90, none, .bin .add false (.t 38) (.k (.sc (.int .i64 1))) (pu (.binOp .add 3 (.tmp 38) (.const (.int .i64 1)) 3) 3)⟩,
 ⟨some 38, none, .mv (.t 90)⟩])))))))
 (.seq (.reg [⟨some 92, none, .mv (.t 16)⟩,
 ⟨some 93, none, .call 66 [(.t 92)]⟩,
 ⟨some 91, none, .mv (.t 93)⟩,
 ⟨some 94, none, .ext (.t 91) 0⟩,
 ⟨some 95, none, .ext (.t 91) 1⟩,
 ⟨some 22, none, .mv (.t 94)⟩,
 ⟨some 23, none, .mv (.t 95)⟩])
 (.seq (.seq (.reg [⟨some 96, none, .mv (.t 23)⟩,
 ⟨some 97, none, .bin .neq false (.t 96) (.k (.sc (.int .i64 0))) (pu (.binOp .neq 31 (.tmp 96) (.const (.int .i64 0)) 31) 4)⟩])
 (.cond (.t 97) (.seq (.reg [⟨some 98, none, .mv (.t 23)⟩,
 ⟨some 12, none, .mv (.k (.sc (.int .i64 0)))⟩,
 ⟨some 13, none, .mv (.t 98)⟩])
 .ret)
 .skip))
 (.seq (.reg [⟨some 99, none, .mv (.t 22)⟩,
 ⟨some 12, none, .mv (.t 99)⟩,
 ⟨some 13, none, .mv (.k (.sc (.int .i64 0)))⟩])
 .ret))))))))
def k50 : List Nat := [0, 1, 2, 3, 4, 5, 11, 12, 13, 14, 15, 16, 18, 19, 20, 21, 22, 23, 32, 36, 37, 38, 39, 71, 79, 97]
theorem ic50 : factsI Try.prog 50 = some (100, [.tmp 12, .tmp 13], c50) := by kernel_rfl
def c51 : IC :=
 (.seq (.reg [⟨some 1, none, .bx (.t 0)⟩,
 ⟨some 2, none, .mv (.k (.sc (.int .i64 0)))⟩])
 (.seq (.seq (.reg [⟨some 3, none, .sh 0 (.t 1)⟩,
 ⟨some 4, none, .ld none (.t 3)⟩,
 ⟨some 5, none, .bin .lss false (.t 4) (.k (.sc (.int .i64 1))) (pu (.binOp .lss 3 (.tmp 4) (.const (.int .i64 1)) 3) 4)⟩,
 ⟨some 6, none, .mv (.t 5)⟩,
 ⟨some 7, (some ((some 6), false)), .sh 0 (.t 1)⟩,
 ⟨some 8, (some ((some 6), false)), .ld none (.t 7)⟩,
 ⟨some 9, (some ((some 6), false)), .bin .gtr false (.t 8) (.k (.sc (.int .i64 8))) (pu (.binOp .gtr 3 (.tmp 8) (.const (.int .i64 8)) 3) 4)⟩,
 ⟨some 10, none, .pick (.t 6) (.k (.sc (.bool true))) (.t 9)⟩])
 (.cond (.t 10) (.seq (.reg [⟨some 2, none, .mv (.k (.sc (.int .i64 2)))⟩])
 .ret)
 .skip))
 (.seq (.seq (.reg [⟨some 11, none, .sh 1 (.t 1)⟩,
 ⟨some 12, none, .ld none (.t 11)⟩,
 ⟨some 13, none, .call 12 [(.t 12)]⟩,
 ⟨some 14, none, .un .not (.t 13) (pu (.unOp .not 4 (.tmp 13)) 4)⟩,
 ⟨some 15, none, .mv (.t 14)⟩,
 ⟨some 16, (some ((some 15), false)), .sh 2 (.t 1)⟩,
 ⟨some 17, (some ((some 15), false)), .ld none (.t 16)⟩,
 ⟨some 18, (some ((some 15), false)), .call 12 [(.t 17)]⟩,
 ⟨some 19, (some ((some 15), false)), .un .not (.t 18) (pu (.unOp .not 4 (.tmp 18)) 4)⟩,
 ⟨some 20, none, .pick (.t 15) (.k (.sc (.bool true))) (.t 19)⟩])
 (.cond (.t 20) (.seq (.reg [⟨some 2, none, .mv (.k (.sc (.int .i64 4)))⟩])
 .ret)
 .skip))
 (.seq (.seq (.reg [⟨some 21, none, .sh 3 (.t 1)⟩,
 ⟨some 22, none, .ld none (.t 21)⟩,
 ⟨some 23, none, .bin .lss false (.t 22) (.k (.sc (.int .i64 1))) (pu (.binOp .lss 3 (.tmp 22) (.const (.int .i64 1)) 3) 4)⟩,
 ⟨some 24, none, .mv (.t 23)⟩,
 ⟨some 25, (some ((some 24), false)), .sh 3 (.t 1)⟩,
 ⟨some 26, (some ((some 24), false)), .ld none (.t 25)⟩,
 ⟨some 27, (some ((some 24), false)), .bin .gtr false (.t 26) (.k (.sc (.int .i64 2147483647))) (pu (.binOp .gtr 3 (.tmp 26) (.const (.int .i64 2147483647)) 3) 4)⟩,
 ⟨some 28, none, .pick (.t 24) (.k (.sc (.bool true))) (.t 27)⟩])
 (.cond (.t 28) (.seq (.reg [⟨some 2, none, .mv (.k (.sc (.int .i64 2)))⟩])
 .ret)
 .skip))
 (.seq (.seq (.reg [⟨some 29, none, .sh 5 (.t 1)⟩,
 ⟨some 30, none, .ld none (.t 29)⟩,
 ⟨some 31, none, .len (.t 30) (pu (.call ⟨.builtin .len, #[(.tmp 30)], #[54]⟩) 3)⟩,
 ⟨some 32, none, .bin .gtr false (.t 31) (.k (.sc (.int .i64 4096))) (pu (.binOp .gtr 3 (.tmp 31) (.const (.int .i64 4096)) 3) 4)⟩])
 (.cond (.t 32) (.seq (.reg [⟨some 2, none, .mv (.k (.sc (.int .i64 3)))⟩])
 .ret)
 .skip))
 (.seq (.reg [⟨some 2, none, .mv (.k (.sc (.int .i64 0)))⟩])
 .ret))))))
def k51 : List Nat := [0, 1, 2, 10, 20, 28, 32]
theorem ic51 : factsI Try.prog 51 = some (33, [.tmp 2], c51) := by kernel_rfl
def c52 : IC :=
 (.seq (.reg [⟨some 1, none, .bx (.t 0)⟩,
 ⟨some 2, none, .al (.agg [.sc (.int .i64 0), .sc (.string ⟨#[]⟩), .sc (.string ⟨#[]⟩)]) 3⟩])
 (.seq (.reg [⟨some 3, none, .sh 0 (.t 1)⟩,
 ⟨some 4, none, .ld none (.t 3)⟩,
 ⟨some 5, none, .sh 2 (.t 1)⟩,
 ⟨some 6, none, .ld none (.t 5)⟩,
 ⟨some 7, none, .sh 1 (.t 1)⟩,
 ⟨some 8, none, .ld none (.t 7)⟩,
 ⟨some 9, none, .bld [.sc (.int .i64 0), .sc (.string ⟨#[]⟩), .sc (.string ⟨#[]⟩)] [(0, 1, (.t 4)), (1, 1, (.t 6)), (2, 1, (.t 8))]⟩,
 ⟨none, none, .st 3 (.t 2) (.t 9)⟩])
 .ret))
def k52 : List Nat := [0, 1, 2]
theorem ic52 : factsI Try.prog 52 = some (10, [.cell 2 111], c52) := by kernel_rfl
def c53 : IC :=
 (.seq (.reg [⟨some 1, none, .bx (.t 0)⟩,
 ⟨some 2, none, .mv (.k (.sc (.int .i64 0)))⟩])
 (.seq (.seq (.reg [⟨some 3, none, .sh 0 (.t 1)⟩,
 ⟨some 4, none, .ld none (.t 3)⟩,
 ⟨some 5, none, .call 12 [(.t 4)]⟩,
 ⟨some 6, none, .un .not (.t 5) (pu (.unOp .not 4 (.tmp 5)) 4)⟩,
 ⟨some 7, none, .mv (.t 6)⟩,
 ⟨some 8, (some ((some 7), false)), .sh 1 (.t 1)⟩,
 ⟨some 9, (some ((some 7), false)), .ld none (.t 8)⟩,
 ⟨some 10, (some ((some 7), false)), .call 12 [(.t 9)]⟩,
 ⟨some 11, (some ((some 7), false)), .un .not (.t 10) (pu (.unOp .not 4 (.tmp 10)) 4)⟩,
 ⟨some 12, none, .pick (.t 7) (.k (.sc (.bool true))) (.t 11)⟩])
 (.cond (.t 12) (.seq (.reg [⟨some 2, none, .mv (.k (.sc (.int .i64 4)))⟩])
 .ret)
 .skip))
 (.seq (.seq (.reg [⟨some 13, none, .sh 2 (.t 1)⟩,
 ⟨some 14, none, .ld none (.t 13)⟩,
 ⟨some 15, none, .bin .lss false (.t 14) (.k (.sc (.int .i64 1))) (pu (.binOp .lss 3 (.tmp 14) (.const (.int .i64 1)) 3) 4)⟩,
 ⟨some 16, none, .mv (.t 15)⟩,
 ⟨some 17, (some ((some 16), false)), .sh 2 (.t 1)⟩,
 ⟨some 18, (some ((some 16), false)), .ld none (.t 17)⟩,
 ⟨some 19, (some ((some 16), false)), .bin .gtr false (.t 18) (.k (.sc (.int .i64 6))) (pu (.binOp .gtr 3 (.tmp 18) (.const (.int .i64 6)) 3) 4)⟩,
 ⟨some 20, none, .pick (.t 16) (.k (.sc (.bool true))) (.t 19)⟩,
 ⟨some 21, none, .mv (.t 20)⟩,
 ⟨some 22, (some ((some 21), false)), .sh 3 (.t 1)⟩,
 ⟨some 23, (some ((some 21), false)), .ld none (.t 22)⟩,
 ⟨some 24, (some ((some 21), false)), .bin .lss false (.t 23) (.k (.sc (.int .i64 0))) (pu (.binOp .lss 3 (.tmp 23) (.const (.int .i64 0)) 3) 4)⟩,
 ⟨some 25, none, .pick (.t 21) (.k (.sc (.bool true))) (.t 24)⟩,
 ⟨some 26, none, .mv (.t 25)⟩,
 ⟨some 27, (some ((some 26), false)), .sh 3 (.t 1)⟩,
 ⟨some 28, (some ((some 26), false)), .ld none (.t 27)⟩,
 ⟨some 29, (some ((some 26), false)), .bin .gtr false (.t 28) (.k (.sc (.int .i64 268435456))) (pu (.binOp .gtr 3 (.tmp 28) (.const (.int .i64 268435456)) 3) 4)⟩,
 ⟨some 30, none, .pick (.t 26) (.k (.sc (.bool true))) (.t 29)⟩])
 (.cond (.t 30) (.seq (.reg [⟨some 2, none, .mv (.k (.sc (.int .i64 2)))⟩])
 .ret)
 .skip))
 (.seq (.seq (.reg [⟨some 31, none, .sh 4 (.t 1)⟩,
 ⟨some 32, none, .ld none (.t 31)⟩,
 ⟨some 33, none, .bin .lss false (.t 32) (.k (.sc (.int .i64 1))) (pu (.binOp .lss 3 (.tmp 32) (.const (.int .i64 1)) 3) 4)⟩,
 ⟨some 34, none, .mv (.t 33)⟩,
 ⟨some 35, (some ((some 34), false)), .sh 4 (.t 1)⟩,
 ⟨some 36, (some ((some 34), false)), .ld none (.t 35)⟩,
 ⟨some 37, (some ((some 34), false)), .bin .gtr false (.t 36) (.k (.sc (.int .i64 36028797018963968))) (pu (.binOp .gtr 3 (.tmp 36) (.const (.int .i64 36028797018963968)) 3) 4)⟩,
 ⟨some 38, none, .pick (.t 34) (.k (.sc (.bool true))) (.t 37)⟩,
 ⟨some 39, none, .mv (.t 38)⟩,
 ⟨some 40, (some ((some 39), false)), .sh 5 (.t 1)⟩,
 ⟨some 41, (some ((some 39), false)), .ld none (.t 40)⟩,
 ⟨some 42, (some ((some 39), false)), .bin .lss false (.t 41) (.k (.sc (.int .i64 0))) (pu (.binOp .lss 3 (.tmp 41) (.const (.int .i64 0)) 3) 4)⟩,
 ⟨some 43, none, .pick (.t 39) (.k (.sc (.bool true))) (.t 42)⟩,
 ⟨some 44, none, .mv (.t 43)⟩,
 ⟨some 45, (some ((some 44), false)), .sh 5 (.t 1)⟩,
 ⟨some 46, (some ((some 44), false)), .ld none (.t 45)⟩,
 ⟨some 47, (some ((some 44), false)), .sh 4 (.t 1)⟩,
 ⟨some 48, (some ((some 44), false)), .ld none (.t 47)⟩,
 ⟨some 49, (some ((some 44), false)), .bin .gtr false (.t 46) (.t 48) (pu (.binOp .gtr 3 (.tmp 46) (.tmp 48) 3) 4)⟩,
 ⟨some 50, none, .pick (.t 44) (.k (.sc (.bool true))) (.t 49)⟩])
 (.cond (.t 50) (.seq (.reg [⟨some 2, none, .mv (.k (.sc (.int .i64 2)))⟩])
 .ret)
 .skip))
 (.seq (.seq (.reg [⟨some 51, none, .sh 5 (.t 1)⟩,
 ⟨some 52, none, .ld none (.t 51)⟩,
 ⟨some 53, none, .bin .eql false (.t 52) (.k (.sc (.int .i64 0))) (pu (.binOp .eql 3 (.tmp 52) (.const (.int .i64 0)) 3) 4)⟩,
 ⟨some 54, none, .sh 2 (.t 1)⟩,
 ⟨some 55, none, .ld none (.t 54)⟩,
 ⟨some 56, none, .bin .neq false (.t 55) (.k (.sc (.int .i64 4))) (pu (.binOp .neq 3 (.tmp 55) (.const (.int .i64 4)) 3) 4)⟩,
 ⟨some 57, none, .bin .neq true (.t 53) (.t 56) (pu (.binOp .neq 4 (.tmp 53) (.tmp 56) 4) 4)⟩])
 (.cond (.t 57) (.seq (.reg [⟨some 2, none, .mv (.k (.sc (.int .i64 1)))⟩])
 .ret)
 .skip))
 (.seq (.reg [⟨some 2, none, .mv (.k (.sc (.int .i64 0)))⟩])
 .ret))))))
def k53 : List Nat := [0, 1, 2, 12, 30, 50, 57]
theorem ic53 : factsI Try.prog 53 = some (58, [.tmp 2], c53) := by kernel_rfl
def c54 : IC :=
 (.seq (.reg [⟨some 1, none, .bx (.t 0)⟩,
 ⟨some 2, none, .mv (.k (.sc (.bool false)))⟩])
 (.seq (.reg [⟨some 3, none, .sh 0 (.t 1)⟩,
 ⟨some 4, none, .ld none (.t 3)⟩,
 ⟨some 5, none, .bsl 1 1 false [.sc (.int .i64 0)] [(0, 1, (.t 4))]⟩,
 ⟨some 6, none, .call 36 [(.k (.sc (.int .i64 1))), (.k (.sc (.int .i64 4))), (.t 5)]⟩,
 ⟨some 7, none, .mv (.t 6)⟩,
 ⟨some 8, (some ((some 7), true)), .sh 2 (.t 1)⟩,
 ⟨some 9, (some ((some 7), true)), .ld none (.t 8)⟩,
 ⟨some 10, (some ((some 7), true)), .bsl 1 1 false [.sc (.int .i64 0)] [(0, 1, (.t 9))]⟩,
 ⟨some 11, (some ((some 7), true)), .call 36 [(.k (.sc (.int .i64 0))), (.k (.sc (.int .i64 10000))), (.t 10)]⟩,
 ⟨some 12, none, .pick (.t 7) (.t 11) (.k (.sc (.bool false)))⟩,
 ⟨some 13, none, .mv (.t 12)⟩,
 ⟨some 14, (some ((some 13), true)), .sh 4 (.t 1)⟩,
 ⟨some 15, (some ((some 13), true)), .ld none (.t 14)⟩,
 ⟨some 16, (some ((some 13), true)), .sh 5 (.t 1)⟩,
 ⟨some 17, (some ((some 13), true)), .ld none (.t 16)⟩,
 ⟨some 18, (some ((some 13), true)), .sh 1 (.t 1)⟩,
 ⟨some 19, (some ((some 13), true)), .ld none (.t 18)⟩,
 ⟨some 20, (some ((some 13), true)), .bsl 1 3 false [.sc (.int .i64 0), .sc (.int .i64 0), .sc (.int .i64 0)] [(0, 1, (.t 15)), (1, 1, (.t 17)), (2, 1, (.t 19))]⟩,
 ⟨some 21, (some ((some 13), true)), .call 36 [(.k (.sc (.int .i64 (-36028797018963968)))), (.k (.sc (.int .i64 36028797018963968))), (.t 20)]⟩,
 ⟨some 22, none, .pick (.t 13) (.t 21) (.k (.sc (.bool false)))⟩,
 ⟨some 23, none, .mv (.t 22)⟩,
 ⟨some 24, (some ((some 23), true)), .sh 3 (.t 1)⟩,
 ⟨some 25, (some ((some 23), true)), .ld none (.t 24)⟩,
 ⟨some 26, (some ((some 23), true)), .bsl 1 1 false [.sc (.int .i64 0)] [(0, 1, (.t 25))]⟩,
 ⟨some 27, (some ((some 23), true)), .call 36 [(.k (.sc (.int .i64 0))), (.k (.sc (.int .i64 36028797018963968))), (.t 26)]⟩,
 ⟨some 28, none, .pick (.t 23) (.t 27) (.k (.sc (.bool false)))⟩,
 ⟨some 29, none, .mv (.t 28)⟩,
 ⟨some 30, (some ((some 29), true)), .sh 6 (.t 1)⟩,
 ⟨some 31, (some ((some 29), true)), .ld none (.t 30)⟩,
 ⟨some 32, (some ((some 29), true)), .sh 4 (.t 1)⟩,
 ⟨some 33, (some ((some 29), true)), .ld none (.t 32)⟩,
 ⟨some 34, (some ((some 29), true)), .sh 5 (.t 1)⟩,
 ⟨some 35, (some ((some 29), true)), .ld none (.t 34)⟩,
 ⟨some 36, (some ((some 29), true)), .bin .add false (.t 33) (.t 35) (pu (.binOp .add 3 (.tmp 33) (.tmp 35) 3) 3)⟩,
 ⟨some 37, (some ((some 29), true)), .bin .eql false (.t 31) (.t 36) (pu (.binOp .eql 3 (.tmp 31) (.tmp 36) 3) 4)⟩,
 ⟨some 38, none, .pick (.t 29) (.t 37) (.k (.sc (.bool false)))⟩,
 ⟨some 2, none, .mv (.t 38)⟩])
 .ret))
def k54 : List Nat := [0, 1, 2]
theorem ic54 : factsI Try.prog 54 = some (39, [.tmp 2], c54) := by kernel_rfl
def c55 : IC :=
 (.seq (.reg [⟨some 1, none, .bx (.t 0)⟩,
 ⟨some 2, none, .al (.agg [.sc (.int .i64 0), .sc (.string ⟨#[]⟩), .sc (.string ⟨#[]⟩), .sc (.int .i64 0), .sc (.bool false), .sc (.slice none 0 0)]) 6⟩])
 (.seq (.reg [⟨some 3, none, .sh 5 (.t 1)⟩,
 ⟨some 4, none, .ld none (.t 3)⟩,
 ⟨some 5, none, .app 1 1 (.k (.sc (.slice none 0 0))) (.t 4)⟩,
 ⟨some 6, none, .sh 5 (.t 1)⟩,
 ⟨none, none, .st 1 (.t 6) (.t 5)⟩])
 (.seq (.reg [⟨some 7, none, .ld (some 6) (.t 1)⟩,
 ⟨none, none, .st 6 (.t 2) (.t 7)⟩])
 .ret)))
def k55 : List Nat := [0, 1, 2]
theorem ic55 : factsI Try.prog 55 = some (8, [.cell 2 91], c55) := by kernel_rfl
def c56 : IC :=
 (.seq (.reg [⟨some 1, none, .bx (.t 0)⟩,
 ⟨some 2, none, .al (.agg [(.sc (.map none)), .sc (.int .i64 0)]) 2⟩])
 (.seq (.drw [0, 1, 3, 7, 0, 16, 63, 0, 255] [⟨some 6, none, .sh 1 (.t 1)⟩,
 ⟨some 7, none, .ld none (.t 6)⟩,
 ⟨some 8, none, .len (.t 7) (pu (.call ⟨.builtin .len, #[(.tmp 7)], #[23]⟩) 3)⟩,
 ⟨some 9, none, .mmk (some (.t 8))⟩,
 ⟨some 10, none, .sh 3 (.t 1)⟩,
 ⟨some 11, none, .ld none (.t 10)⟩,
 ⟨some 12, none, .bld [(.sc (.map none)), .sc (.int .i64 0)] [(0, 1, (.t 9)), (1, 1, (.t 11))]⟩,
 ⟨some 3, none, .al (.agg [(.sc (.map none)), .sc (.int .i64 0)]) 2⟩,
 ⟨none, none, .st 2 (.t 3) (.t 12)⟩])
 (.seq (.seq (.reg [⟨some 13, none, .sh 1 (.t 1)⟩,
 ⟨some 14, none, .ld none (.t 13)⟩,
 ⟨some 15, none, .len (.t 14) (pu (.call ⟨.builtin .len, #[(.tmp 14)], #[23]⟩) 3)⟩,
 ⟨some 16, none, .mv (.k (.sc (.int .i64 0)))⟩])
 (.block 0 (.loop (.seq (.reg [⟨some 17, none, .bin .lss false (.t 16) (.t 15) (pu (.binOp .lss 3 (.tmp 16) (.tmp 15) 3) 0)⟩])
 (.seq (.cond (.t 17) .skip
 (.exit 0))
 (.seq (.block 1 (.seq (.reg [⟨some 18, none, .mv (.t 16)⟩,
 ⟨some 19, none, .ixs 6 (.t 14) (.t 16)⟩,
 ⟨some 20, none, .ld (some 6) (.t 19)⟩,
 ⟨some 5, none, .al (.agg [.sc (.int .i64 0), .sc (.string ⟨#[]⟩), .sc (.string ⟨#[]⟩), .sc (.int .i64 0), .sc (.bool false), .sc (.slice none 0 0)]) 6⟩,
 ⟨some 4, none, .mv (.t 18)⟩,
 ⟨none, none, .st 6 (.t 5) (.t 20)⟩])
 (.seq (.seq (.reg [⟨some 21, none, .mv (.t 4)⟩,
 ⟨some 22, none, .sh 2 (.t 1)⟩,
 ⟨some 23, none, .ld none (.t 22)⟩,
 ⟨some 24, none, .len (.t 23) (pu (.call ⟨.builtin .len, #[(.tmp 23)], #[24]⟩) 3)⟩,
 ⟨some 25, none, .bin .geq false (.t 21) (.t 24) (pu (.binOp .geq 3 (.tmp 21) (.tmp 24) 3) 4)⟩])
 (.cond (.t 25) (.exit 0)
 .skip))
 (.drw [0, 1, 0, 4, 0, 0, 32, 0, 224, 480, 1008, 2047] [⟨some 26, none, .sh 0 (.t 3)⟩,
 ⟨some 27, none, .ld none (.t 26)⟩,
 ⟨some 28, none, .ld (some 6) (.t 5)⟩,
 ⟨some 29, none, .call 52 [(.t 28)]⟩,
 ⟨some 30, none, .ld (some 6) (.t 5)⟩,
 ⟨some 31, none, .sh 2 (.t 1)⟩,
 ⟨some 32, none, .ld none (.t 31)⟩,
 ⟨some 33, none, .mv (.t 4)⟩,
 ⟨some 34, none, .ixs 1 (.t 32) (.t 33)⟩,
 ⟨some 35, none, .ld none (.t 34)⟩,
 ⟨some 36, none, .bld [.sc (.int .i64 0), .sc (.string ⟨#[]⟩), .sc (.string ⟨#[]⟩), .sc (.int .i64 0), .sc (.bool false), .sc (.slice none 0 0), .sc (.int .i64 0)] [(0, 6, (.t 30)), (6, 1, (.t 35))]⟩,
 ⟨none, none, .mpt true [(.i .i64), .s, .s] (.t 27) (.t 29) (.t 36)⟩]))))
 (.reg [⟨some 37, none, .bin .add false (.t 16) (.k (.sc (.int .i64 1))) (pu (.binOp .add 3 (.tmp 16) (.const (.int .i64 1)) 3) 3)⟩,
 ⟨some 16, none, .mv (.t 37)⟩])))))))
 (.seq (.reg [⟨some 38, none, .ld (some 2) (.t 3)⟩,
 ⟨none, none, .st 2 (.t 2) (.t 38)⟩])
 .ret))))
def k56 : List Nat := [0, 1, 2, 3, 4, 5, 14, 15, 16, 17, 25]
theorem ic56 : factsI Try.prog 56 = some (39, [.cell 2 119], c56) := by kernel_rfl
def c57 : IC :=
 (.seq (.reg [⟨some 3, none, .bx (.t 1)⟩])
 (.seq (.drw [0, 1, 3, 7, 0, 16, 0, 0, 128, 384, 896, 1984, 4095] [⟨some 4, none, .mv (.t 0)⟩,
 ⟨some 5, none, .nck (.t 4) (pu (.nilCheck (.tmp 4)) 0)⟩,
 ⟨some 6, none, .sh 0 (.t 5)⟩,
 ⟨some 7, none, .ld none (.t 6)⟩,
 ⟨some 8, none, .ld (some 6) (.t 3)⟩,
 ⟨some 9, none, .call 52 [(.t 8)]⟩,
 ⟨some 10, none, .ld (some 6) (.t 3)⟩,
 ⟨some 11, none, .mv (.t 0)⟩,
 ⟨some 12, none, .nck (.t 11) (pu (.nilCheck (.tmp 11)) 0)⟩,
 ⟨some 13, none, .sh 1 (.t 12)⟩,
 ⟨some 14, none, .ld none (.t 13)⟩,
 ⟨some 15, none, .bld [.sc (.int .i64 0), .sc (.string ⟨#[]⟩), .sc (.string ⟨#[]⟩), .sc (.int .i64 0), .sc (.bool false), .sc (.slice none 0 0), .sc (.int .i64 0)] [(0, 6, (.t 10)), (6, 1, (.t 14))]⟩,
 ⟨none, none, .mpt true [(.i .i64), .s, .s] (.t 7) (.t 9) (.t 15)⟩])
 (.reg [⟨some 16, none, .mv (.t 0)⟩,
 ⟨some 17, none, .nck (.t 16) (pu (.nilCheck (.tmp 16)) 0)⟩,
 ⟨some 18, none, .sh 1 (.t 17)⟩,
 ⟨some 19, none, .ld none (.t 18)⟩,
 ⟨some 20, none, .bin .add false (.t 19) (.k (.sc (.int .i64 1))) (pu (.binOp .add 3 (.tmp 19) (.const (.int .i64 1)) 3) 3)⟩,
 ⟨some 21, none, .nck (.t 16) (pu (.nilCheck (.tmp 16)) 0)⟩,
 ⟨some 22, none, .sh 1 (.t 21)⟩,
 ⟨none, none, .st 1 (.t 22) (.t 20)⟩])))
def k57 : List Nat := [0, 1, 3]
theorem ic57 : factsI Try.prog 57 = some (23, [], c57) := by kernel_rfl
def c58 : IC :=
 (.seq (.reg [⟨some 4, none, .al (.agg [.sc (.string ⟨#[]⟩), .sc (.slice none 0 0), .sc (.slice none 0 0), .sc (.int .i64 0)]) 4⟩])
 (.seq (.reg [⟨some 11, none, .mv (.t 0)⟩,
 ⟨some 12, none, .nck (.t 11) (pu (.nilCheck (.tmp 11)) 0)⟩,
 ⟨some 13, none, .sh 0 (.t 12)⟩,
 ⟨some 14, none, .ld none (.t 13)⟩,
 ⟨some 15, none, .mln (.t 14) (pu (.call ⟨.builtin .len, #[(.tmp 14)], #[117]⟩) 3)⟩,
 ⟨some 16, none, .mks 7 88 (.agg [.sc (.int .i64 0), .sc (.string ⟨#[]⟩), .sc (.string ⟨#[]⟩), .sc (.int .i64 0), .sc (.bool false), .sc (.slice none 0 0), .sc (.int .i64 0)]) (.k (.sc (.int .i64 0))) (.t 15)⟩,
 ⟨some 5, none, .mv (.t 16)⟩])
 (.seq (.seq (.reg [⟨some 17, none, .mv (.t 0)⟩,
 ⟨some 18, none, .nck (.t 17) (pu (.nilCheck (.tmp 17)) 0)⟩,
 ⟨some 19, none, .sh 0 (.t 18)⟩,
 ⟨some 20, none, .ld none (.t 19)⟩,
 ⟨some 21, none, .opx (pu (.range 117 (.tmp 20)) 0)⟩])
 (.block 0 (.loop (.seq (.reg [⟨some 22, none, .opx (pu (.next (.tmp 21) false) 0)⟩,
 ⟨some 23, none, .ext (.t 22) 0⟩])
 (.seq (.cond (.t 23) .skip
 (.exit 0))
 (.block 1 (.seq (.reg [⟨some 24, none, .pur (pu (.entry (.tmp 21)) 0)⟩,
 ⟨some 25, none, .ext (.t 24) 1⟩,
 ⟨some 7, none, .al (.agg [.sc (.int .i64 0), .sc (.string ⟨#[]⟩), .sc (.string ⟨#[]⟩), .sc (.int .i64 0), .sc (.bool false), .sc (.slice none 0 0), .sc (.int .i64 0)]) 7⟩,
 ⟨none, none, .st 7 (.t 7) (.t 25)⟩])
 (.reg [⟨some 26, none, .mv (.t 5)⟩,
 ⟨some 27, none, .ld (some 7) (.t 7)⟩,
 ⟨some 28, none, .bsl 7 1 true [.sc (.int .i64 0), .sc (.string ⟨#[]⟩), .sc (.string ⟨#[]⟩), .sc (.int .i64 0), .sc (.bool false), .sc (.slice none 0 0), .sc (.int .i64 0)] [(0, 7, (.t 27))]⟩,
 ⟨some 29, none, .app 7 88 (.t 26) (.t 28)⟩,
 ⟨some 5, none, .mv (.t 29)⟩]))))))))
 (.seq (.reg [⟨some 30, none, .mv (.t 5)⟩,
 ⟨some 31, none, .call 67 [(.t 30), (.k (.sc (.func (.func 68) #[] #[])))]⟩])
 (.seq (.reg [⟨some 32, none, .mv (.t 1)⟩,
 ⟨some 33, none, .mv (.t 0)⟩,
 ⟨some 34, none, .nck (.t 33) (pu (.nilCheck (.tmp 33)) 0)⟩,
 ⟨some 35, none, .sh 1 (.t 34)⟩,
 ⟨some 36, none, .ld none (.t 35)⟩,
 ⟨some 37, none, .bld [.sc (.string ⟨#[]⟩), .sc (.slice none 0 0), .sc (.slice none 0 0), .sc (.int .i64 0)] [(0, 1, (.t 32)), (3, 1, (.t 36))]⟩,
 ⟨some 8, none, .al (.agg [.sc (.string ⟨#[]⟩), .sc (.slice none 0 0), .sc (.slice none 0 0), .sc (.int .i64 0)]) 4⟩,
 ⟨none, none, .st 4 (.t 8) (.t 37)⟩])
 (.seq (.seq (.reg [⟨some 38, none, .mv (.t 5)⟩,
 ⟨some 39, none, .len (.t 38) (pu (.call ⟨.builtin .len, #[(.tmp 38)], #[137]⟩) 3)⟩,
 ⟨some 40, none, .mv (.k (.sc (.int .i64 0)))⟩])
 (.block 2 (.loop (.seq (.reg [⟨some 41, none, .bin .lss false (.t 40) (.t 39) (pu (.binOp .lss 3 (.tmp 40) (.tmp 39) 3) 0)⟩])
 (.seq (.cond (.t 41) .skip
 (.exit 2))
 (.seq (.block 3 (.seq (.reg [⟨some 42, none, .ixs 7 (.t 38) (.t 40)⟩,
 ⟨some 43, none, .ld (some 7) (.t 42)⟩,
 ⟨some 10, none, .al (.agg [.sc (.int .i64 0), .sc (.string ⟨#[]⟩), .sc (.string ⟨#[]⟩), .sc (.int .i64 0), .sc (.bool false), .sc (.slice none 0 0), .sc (.int .i64 0)]) 7⟩,
 ⟨none, none, .st 7 (.t 10) (.t 43)⟩])
 (.seq (.drw [0, 1, 0, 4, 12, 28, 63, 127, 255] [⟨some 44, none, .sh 1 (.t 8)⟩,
 ⟨some 45, none, .ld none (.t 44)⟩,
 ⟨some 46, none, .sh 0 (.t 10)⟩,
 ⟨some 47, none, .ld (some 6) (.t 46)⟩,
 ⟨some 48, none, .call 55 [(.t 47)]⟩,
 ⟨some 49, none, .bsl 6 1 true [.sc (.int .i64 0), .sc (.string ⟨#[]⟩), .sc (.string ⟨#[]⟩), .sc (.int .i64 0), .sc (.bool false), .sc (.slice none 0 0)] [(0, 6, (.t 48))]⟩,
 ⟨some 50, none, .app 6 80 (.t 45) (.t 49)⟩,
 ⟨some 51, none, .sh 1 (.t 8)⟩,
 ⟨none, none, .st 1 (.t 51) (.t 50)⟩])
 (.reg [⟨some 52, none, .sh 2 (.t 8)⟩,
 ⟨some 53, none, .ld none (.t 52)⟩,
 ⟨some 54, none, .sh 6 (.t 10)⟩,
 ⟨some 55, none, .ld none (.t 54)⟩,
 ⟨some 56, none, .bsl 1 1 false [.sc (.int .i64 0)] [(0, 1, (.t 55))]⟩,
 ⟨some 57, none, .app 1 8 (.t 53) (.t 56)⟩,
 ⟨some 58, none, .sh 2 (.t 8)⟩,
 ⟨none, none, .st 1 (.t 58) (.t 57)⟩]))))
 (.reg [⟨some 59, none, .bin .add false (.t 40) (.k (.sc (.int .i64 1))) (pu (.binOp .add 3 (.tmp 40) (.const (.int .i64 1)) 3) 3)⟩,
 ⟨some 40, none, .mv (.t 59)⟩])))))))
 (.seq (.reg [⟨some 60, none, .ld (some 4) (.t 8)⟩,
 ⟨none, none, .st 4 (.t 4) (.t 60)⟩])
 .ret)))))))
def k58 : List Nat := [0, 1, 4, 5, 7, 8, 10, 21, 23, 38, 39, 40, 41]
theorem ic58 : factsI Try.prog 58 = some (61, [.cell 4 26], c58) := by kernel_rfl
def c59 : IC :=
 (.seq (.reg [⟨some 2, none, .bx (.t 0)⟩,
 ⟨some 3, none, .bx (.t 1)⟩,
 ⟨some 4, none, .al (.agg [.sc (.string ⟨#[]⟩), .sc (.string ⟨#[]⟩), .sc (.int .i64 0), .sc (.int .i64 0), .sc (.int .i64 0), .sc (.int .i64 0)]) 6⟩])
 (.seq (.drw [0, 1, 3, 0, 8, 31, 63, 0, 128, 0, 512, 2047, 0, 4096, 0, 16384, 65535, 0, 131072, 0, 524288, 2097151, 0, 4194304, 0, 16777216, 67108863, 134217727, 268435455, 536870911] [⟨some 6, none, .sh 2 (.t 2)⟩,
 ⟨some 7, none, .ld none (.t 6)⟩,
 ⟨some 8, none, .call 72 [(.t 7)]⟩,
 ⟨some 9, none, .sh 2 (.t 3)⟩,
 ⟨some 10, none, .ld none (.t 9)⟩,
 ⟨some 11, none, .call 72 [(.t 10)]⟩,
 ⟨some 12, none, .call 70 [(.t 8), (.t 11)]⟩,
 ⟨some 13, none, .sh 5 (.t 2)⟩,
 ⟨some 14, none, .ld none (.t 13)⟩,
 ⟨some 15, none, .sh 5 (.t 3)⟩,
 ⟨some 16, none, .ld none (.t 15)⟩,
 ⟨some 17, none, .call 70 [(.t 14), (.t 16)]⟩,
 ⟨some 18, none, .sh 4 (.t 2)⟩,
 ⟨some 19, none, .ld none (.t 18)⟩,
 ⟨some 20, none, .sh 4 (.t 3)⟩,
 ⟨some 21, none, .ld none (.t 20)⟩,
 ⟨some 22, none, .call 70 [(.t 19), (.t 21)]⟩,
 ⟨some 23, none, .sh 3 (.t 2)⟩,
 ⟨some 24, none, .ld none (.t 23)⟩,
 ⟨some 25, none, .sh 3 (.t 3)⟩,
 ⟨some 26, none, .ld none (.t 25)⟩,
 ⟨some 27, none, .call 70 [(.t 24), (.t 26)]⟩,
 ⟨some 28, none, .sh 1 (.t 2)⟩,
 ⟨some 29, none, .ld none (.t 28)⟩,
 ⟨some 30, none, .sh 1 (.t 3)⟩,
 ⟨some 31, none, .ld none (.t 30)⟩,
 ⟨some 32, none, .call 71 [(.t 29), (.t 31)]⟩,
 ⟨some 33, none, .bsl 1 5 false [.sc (.int .i64 0), .sc (.int .i64 0), .sc (.int .i64 0), .sc (.int .i64 0), .sc (.int .i64 0)] [(0, 1, (.t 12)), (1, 1, (.t 17)), (2, 1, (.t 22)), (3, 1, (.t 27)), (4, 1, (.t 32))]⟩,
 ⟨some 34, none, .call 69 [(.t 33)]⟩,
 ⟨some 5, none, .mv (.t 34)⟩])
 (.seq (.seq (.reg [⟨some 35, none, .mv (.t 5)⟩,
 ⟨some 36, none, .bin .lss false (.t 35) (.k (.sc (.int .i64 0))) (pu (.binOp .lss 3 (.tmp 35) (.const (.int .i64 0)) 3) 4)⟩])
 (.cond (.t 36) (.seq (.reg [⟨some 37, none, .ld (some 6) (.t 3)⟩,
 ⟨none, none, .st 6 (.t 4) (.t 37)⟩])
 .ret)
 .skip))
 (.seq (.reg [⟨some 38, none, .ld (some 6) (.t 2)⟩,
 ⟨none, none, .st 6 (.t 4) (.t 38)⟩])
 .ret))))
def k59 : List Nat := [0, 1, 2, 3, 4, 5, 36]
theorem ic59 : factsI Try.prog 59 = some (39, [.cell 4 78], c59) := by kernel_rfl
def c60 : IC :=
 (.seq (.reg [⟨some 4, none, .bx (.t 0)⟩,
 ⟨some 8, none, .mv (.k (.sc (.bool false)))⟩])
 (.seq (.seq (.reg [⟨some 9, none, .mv (.t 1)⟩,
 ⟨some 10, none, .bin .lss false (.t 9) (.k (.sc (.int .i64 1))) (pu (.binOp .lss 3 (.tmp 9) (.const (.int .i64 1)) 3) 4)⟩,
 ⟨some 11, none, .mv (.t 10)⟩,
 ⟨some 12, (some ((some 11), false)), .mv (.t 1)⟩,
 ⟨some 13, (some ((some 11), false)), .bin .gtr false (.t 12) (.k (.sc (.int .i64 5))) (pu (.binOp .gtr 3 (.tmp 12) (.const (.int .i64 5)) 3) 4)⟩,
 ⟨some 14, none, .pick (.t 11) (.k (.sc (.bool true))) (.t 13)⟩])
 (.cond (.t 14) (.seq (.reg [⟨some 8, none, .mv (.k (.sc (.bool false)))⟩])
 .ret)
 .skip))
 (.seq (.seq (.reg [⟨some 15, none, .mv (.t 1)⟩,
 ⟨some 16, none, .bin .eql false (.t 15) (.k (.sc (.int .i64 3))) (pu (.binOp .eql 3 (.tmp 15) (.const (.int .i64 3)) 3) 4)⟩,
 ⟨some 17, none, .mv (.t 16)⟩,
 ⟨some 18, (some ((some 17), true)), .mv (.t 2)⟩,
 ⟨some 19, (some ((some 17), true)), .bin .lss false (.t 18) (.k (.sc (.int .i64 1))) (pu (.binOp .lss 3 (.tmp 18) (.const (.int .i64 1)) 3) 4)⟩,
 ⟨some 20, (some ((some 17), true)), .mv (.t 19)⟩,
 ⟨some 21, (some ((some 20), false)), .mv (.t 2)⟩,
 ⟨some 22, (some ((some 20), false)), .sh 4 (.t 4)⟩,
 ⟨some 23, (some ((some 20), false)), .ld none (.t 22)⟩,
 ⟨some 24, (some ((some 20), false)), .bin .gtr false (.t 21) (.t 23) (pu (.binOp .gtr 3 (.tmp 21) (.tmp 23) 3) 4)⟩,
 ⟨some 25, (some ((some 17), true)), .pick (.t 20) (.k (.sc (.bool true))) (.t 24)⟩,
 ⟨some 26, none, .pick (.t 17) (.t 25) (.k (.sc (.bool false)))⟩,
 ⟨some 27, none, .mv (.t 26)⟩,
 ⟨some 28, (some ((some 27), false)), .mv (.t 1)⟩,
 ⟨some 29, (some ((some 27), false)), .bin .neq false (.t 28) (.k (.sc (.int .i64 3))) (pu (.binOp .neq 3 (.tmp 28) (.const (.int .i64 3)) 3) 4)⟩,
 ⟨some 30, (some ((some 27), false)), .mv (.t 29)⟩,
 ⟨some 31, (some ((some 30), true)), .mv (.t 2)⟩,
 ⟨some 32, (some ((some 30), true)), .bin .neq false (.t 31) (.k (.sc (.int .i64 0))) (pu (.binOp .neq 3 (.tmp 31) (.const (.int .i64 0)) 3) 4)⟩,
 ⟨some 33, (some ((some 27), false)), .pick (.t 30) (.t 32) (.k (.sc (.bool false)))⟩,
 ⟨some 34, none, .pick (.t 27) (.k (.sc (.bool true))) (.t 33)⟩])
 (.cond (.t 34) (.seq (.reg [⟨some 8, none, .mv (.k (.sc (.bool false)))⟩])
 .ret)
 .skip))
 (.seq (.reg [⟨some 35, none, .mv (.t 3)⟩,
 ⟨some 36, none, .sh 3 (.t 4)⟩,
 ⟨some 37, none, .ld none (.t 36)⟩,
 ⟨some 38, none, .bin .geq false (.t 35) (.t 37) (pu (.binOp .geq 3 (.tmp 35) (.tmp 37) 3) 4)⟩,
 ⟨some 39, none, .mv (.t 38)⟩,
 ⟨some 40, (some ((some 39), true)), .mv (.t 3)⟩,
 ⟨some 41, (some ((some 39), true)), .bin .leq false (.t 40) (.k (.sc (.int .i64 268435456))) (pu (.binOp .leq 3 (.tmp 40) (.const (.int .i64 268435456)) 3) 4)⟩,
 ⟨some 42, none, .pick (.t 39) (.t 41) (.k (.sc (.bool false)))⟩,
 ⟨some 8, none, .mv (.t 42)⟩])
 .ret))))
def k60 : List Nat := [0, 1, 2, 3, 4, 8, 14, 34]
theorem ic60 : factsI Try.prog 60 = some (43, [.tmp 8], c60) := by kernel_rfl
def c61 : IC :=
 (.seq (.reg [⟨some 4, none, .mv (.k (.sc (.bool false)))⟩])
 (.seq (.seq (.reg [⟨some 5, none, .mv (.t 0)⟩])
 (.block 0 (.seq (.seq (.reg [⟨some 7, none, .bin .eql false (.t 5) (.k (.sc (.int .i64 2))) (pu (.binOp .eql 3 (.tmp 5) (.const (.int .i64 2)) 3) 4)⟩,
 ⟨some 6, none, .mv (.t 7)⟩])
 (.cond (.t 6) .skip
 (.reg [⟨some 8, none, .bin .eql false (.t 5) (.k (.sc (.int .i64 5))) (pu (.binOp .eql 3 (.tmp 5) (.const (.int .i64 5)) 3) 4)⟩,
 ⟨some 6, none, .mv (.t 8)⟩])))
 (.cond (.t 6) (.seq (.reg [⟨some 9, none, .mv (.t 1)⟩,
 ⟨some 4, none, .mv (.t 9)⟩])
 .ret)
 .skip))))
 (.seq (.reg [⟨some 10, none, .mv (.t 1)⟩,
 ⟨some 11, none, .un .not (.t 10) (pu (.unOp .not 4 (.tmp 10)) 4)⟩,
 ⟨some 4, none, .mv (.t 11)⟩])
 .ret)))
def k61 : List Nat := [0, 1, 4, 5, 6]
theorem ic61 : factsI Try.prog 61 = some (12, [.tmp 4], c61) := by kernel_rfl
def c62 : IC :=
 (.seq (.reg [⟨some 6, none, .mv (.k (.sc (.int .i64 0)))⟩,
 ⟨some 7, none, .mv (.k (.sc (.bool false)))⟩])
 (.seq (.seq (.reg [⟨some 8, none, .mv (.t 1)⟩])
 (.block 0 (.seq (.reg [⟨some 10, none, .bin .eql false (.t 8) (.k (.sc (.int .i64 1))) (pu (.binOp .eql 3 (.tmp 8) (.const (.int .i64 1)) 3) 4)⟩,
 ⟨some 9, none, .mv (.t 10)⟩])
 (.cond (.t 9) (.seq (.reg [⟨some 11, none, .mv (.t 0)⟩,
 ⟨some 12, none, .bin .eql false (.t 11) (.k (.sc (.int .i64 1))) (pu (.binOp .eql 3 (.tmp 11) (.const (.int .i64 1)) 3) 4)⟩,
 ⟨some 6, none, .mv (.k (.sc (.int .i64 2)))⟩,
 ⟨some 7, none, .mv (.t 12)⟩])
 .ret)
 (.seq (.reg [⟨some 14, none, .bin .eql false (.t 8) (.k (.sc (.int .i64 2))) (pu (.binOp .eql 3 (.tmp 8) (.const (.int .i64 2)) 3) 4)⟩,
 ⟨some 13, none, .mv (.t 14)⟩])
 (.cond (.t 13) (.seq (.reg [⟨some 15, none, .mv (.t 0)⟩,
 ⟨some 16, none, .bin .eql false (.t 15) (.k (.sc (.int .i64 2))) (pu (.binOp .eql 3 (.tmp 15) (.const (.int .i64 2)) 3) 4)⟩,
 ⟨some 17, none, .mv (.t 16)⟩,
 ⟨some 18, (some ((some 17), false)), .mv (.t 0)⟩,
 ⟨some 19, (some ((some 17), false)), .bin .eql false (.t 18) (.k (.sc (.int .i64 1))) (pu (.binOp .eql 3 (.tmp 18) (.const (.int .i64 1)) 3) 4)⟩,
 ⟨some 20, (some ((some 17), false)), .mv (.t 19)⟩,
 ⟨some 21, (some ((some 20), true)), .mv (.t 2)⟩,
 ⟨some 22, (some ((some 17), false)), .pick (.t 20) (.t 21) (.k (.sc (.bool false)))⟩,
 ⟨some 23, none, .pick (.t 17) (.k (.sc (.bool true))) (.t 22)⟩,
 ⟨some 6, none, .mv (.k (.sc (.int .i64 3)))⟩,
 ⟨some 7, none, .mv (.t 23)⟩])
 .ret)
 (.seq (.reg [⟨some 25, none, .bin .eql false (.t 8) (.k (.sc (.int .i64 3))) (pu (.binOp .eql 3 (.tmp 8) (.const (.int .i64 3)) 3) 4)⟩,
 ⟨some 24, none, .mv (.t 25)⟩])
 (.cond (.t 24) (.seq (.reg [⟨some 26, none, .mv (.t 0)⟩,
 ⟨some 27, none, .bin .eql false (.t 26) (.k (.sc (.int .i64 1))) (pu (.binOp .eql 3 (.tmp 26) (.const (.int .i64 1)) 3) 4)⟩,
 ⟨some 28, none, .mv (.t 27)⟩,
 ⟨some 29, (some ((some 28), false)), .mv (.t 0)⟩,
 ⟨some 30, (some ((some 28), false)), .bin .eql false (.t 29) (.k (.sc (.int .i64 2))) (pu (.binOp .eql 3 (.tmp 29) (.const (.int .i64 2)) 3) 4)⟩,
 ⟨some 31, none, .pick (.t 28) (.k (.sc (.bool true))) (.t 30)⟩,
 ⟨some 32, none, .mv (.t 31)⟩,
 ⟨some 33, (some ((some 32), false)), .mv (.t 0)⟩,
 ⟨some 34, (some ((some 32), false)), .bin .eql false (.t 33) (.k (.sc (.int .i64 3))) (pu (.binOp .eql 3 (.tmp 33) (.const (.int .i64 3)) 3) 4)⟩,
 ⟨some 35, none, .pick (.t 32) (.k (.sc (.bool true))) (.t 34)⟩,
 ⟨some 6, none, .mv (.k (.sc (.int .i64 4)))⟩,
 ⟨some 7, none, .mv (.t 35)⟩])
 .ret)
 (.seq (.reg [⟨some 37, none, .bin .eql false (.t 8) (.k (.sc (.int .i64 4))) (pu (.binOp .eql 3 (.tmp 8) (.const (.int .i64 4)) 3) 4)⟩,
 ⟨some 36, none, .mv (.t 37)⟩])
 (.cond (.t 36) (.seq (.reg [⟨some 38, none, .mv (.t 0)⟩,
 ⟨some 39, none, .bin .eql false (.t 38) (.k (.sc (.int .i64 2))) (pu (.binOp .eql 3 (.tmp 38) (.const (.int .i64 2)) 3) 4)⟩,
 ⟨some 40, none, .mv (.t 39)⟩,
 ⟨some 41, (some ((some 40), false)), .mv (.t 0)⟩,
 ⟨some 42, (some ((some 40), false)), .bin .eql false (.t 41) (.k (.sc (.int .i64 3))) (pu (.binOp .eql 3 (.tmp 41) (.const (.int .i64 3)) 3) 4)⟩,
 ⟨some 43, none, .pick (.t 40) (.k (.sc (.bool true))) (.t 42)⟩,
 ⟨some 6, none, .mv (.k (.sc (.int .i64 5)))⟩,
 ⟨some 7, none, .mv (.t 43)⟩])
 .ret)
 (.seq (.reg [⟨some 45, none, .bin .eql false (.t 8) (.k (.sc (.int .i64 5))) (pu (.binOp .eql 3 (.tmp 8) (.const (.int .i64 5)) 3) 4)⟩,
 ⟨some 44, none, .mv (.t 45)⟩])
 (.cond (.t 44) (.seq (.reg [⟨some 46, none, .mv (.t 0)⟩,
 ⟨some 47, none, .bin .eql false (.t 46) (.k (.sc (.int .i64 1))) (pu (.binOp .eql 3 (.tmp 46) (.const (.int .i64 1)) 3) 4)⟩,
 ⟨some 48, none, .mv (.t 47)⟩,
 ⟨some 49, (some ((some 48), false)), .mv (.t 0)⟩,
 ⟨some 50, (some ((some 48), false)), .bin .eql false (.t 49) (.k (.sc (.int .i64 2))) (pu (.binOp .eql 3 (.tmp 49) (.const (.int .i64 2)) 3) 4)⟩,
 ⟨some 51, none, .pick (.t 48) (.k (.sc (.bool true))) (.t 50)⟩,
 ⟨some 52, none, .mv (.t 51)⟩,
 ⟨some 53, (some ((some 52), false)), .mv (.t 0)⟩,
 ⟨some 54, (some ((some 52), false)), .bin .eql false (.t 53) (.k (.sc (.int .i64 3))) (pu (.binOp .eql 3 (.tmp 53) (.const (.int .i64 3)) 3) 4)⟩,
 ⟨some 55, none, .pick (.t 52) (.k (.sc (.bool true))) (.t 54)⟩,
 ⟨some 6, none, .mv (.k (.sc (.int .i64 6)))⟩,
 ⟨some 7, none, .mv (.t 55)⟩])
 .ret)
 .skip))))))))))))
 (.seq (.reg [⟨some 6, none, .mv (.k (.sc (.int .i64 0)))⟩,
 ⟨some 7, none, .mv (.k (.sc (.bool false)))⟩])
 .ret)))
def k62 : List Nat := [0, 1, 2, 6, 7, 8, 9, 13, 24, 36, 44]
theorem ic62 : factsI Try.prog 62 = some (56, [.tmp 6, .tmp 7], c62) := by kernel_rfl
def c63 : IC :=
 (.seq (.reg [⟨some 11, none, .bx (.t 5)⟩,
 ⟨some 12, none, .mv (.k (.sc (.int .i64 0)))⟩])
 (.seq (.seq (.reg [⟨some 20, none, .mv (.t 0)⟩,
 ⟨some 21, none, .len (.t 20) (pu (.call ⟨.builtin .len, #[(.tmp 20)], #[27]⟩) 3)⟩,
 ⟨some 22, none, .mv (.k (.sc (.int .i64 0)))⟩])
 (.block 0 (.loop (.seq (.reg [⟨some 23, none, .bin .lss false (.t 22) (.t 21) (pu (.binOp .lss 3 (.tmp 22) (.tmp 21) 3) 0)⟩])
 (.seq (.cond (.t 23) .skip
 (.exit 0))
 (.seq (.block 1 (.seq (.reg [⟨some 24, none, .ixs 14 (.t 20) (.t 22)⟩,
 ⟨some 25, none, .ld (some 14) (.t 24)⟩,
 ⟨some 14, none, .al (.agg [.sc (.string ⟨#[]⟩), .sc (.string ⟨#[]⟩), .sc (.string ⟨#[]⟩), .sc (.string ⟨#[]⟩), .sc (.int .i64 0), .sc (.int .i64 0), .sc (.int .i64 0), .sc (.int .i64 0), .sc (.string ⟨#[]⟩), .sc (.string ⟨#[]⟩), .sc (.slice none 0 0), .sc (.int .i64 0), .sc (.bool false), .sc (.string ⟨#[]⟩)]) 14⟩,
 ⟨none, none, .st 14 (.t 14) (.t 25)⟩])
 (.seq (.reg [⟨some 26, none, .ld (some 14) (.t 14)⟩,
 ⟨some 27, none, .call 15 [(.t 26)]⟩,
 ⟨some 15, none, .mv (.t 27)⟩])
 (.seq (.reg [⟨some 28, none, .mv (.t 15)⟩,
 ⟨some 29, none, .bin .neq false (.t 28) (.k (.sc (.int .i64 0))) (pu (.binOp .neq 31 (.tmp 28) (.const (.int .i64 0)) 31) 4)⟩])
 (.cond (.t 29) (.seq (.reg [⟨some 30, none, .mv (.t 15)⟩,
 ⟨some 12, none, .mv (.t 30)⟩])
 .ret)
 .skip)))))
 (.reg [⟨some 31, none, .bin .add false (.t 22) (.k (.sc (.int .i64 1))) (pu (.binOp .add 3 (.tmp 22) (.const (.int .i64 1)) 3) 3)⟩,
 ⟨some 22, none, .mv (.t 31)⟩])))))))
 (.seq (.seq (.reg [⟨some 32, none, .mv (.t 1)⟩,
 ⟨some 33, none, .len (.t 32) (pu (.call ⟨.builtin .len, #[(.tmp 32)], #[28]⟩) 3)⟩,
 ⟨some 34, none, .mv (.k (.sc (.int .i64 0)))⟩])
 (.block 2 (.loop (.seq (.reg [⟨some 35, none, .bin .lss false (.t 34) (.t 33) (pu (.binOp .lss 3 (.tmp 34) (.tmp 33) 3) 0)⟩])
 (.seq (.cond (.t 35) .skip
 (.exit 2))
 (.seq (.block 3 (.seq (.reg [⟨some 36, none, .ixs 6 (.t 32) (.t 34)⟩,
 ⟨some 37, none, .ld (some 6) (.t 36)⟩,
 ⟨some 17, none, .al (.agg [.sc (.string ⟨#[]⟩), .sc (.string ⟨#[]⟩), .sc (.int .i64 0), .sc (.int .i64 0), .sc (.int .i64 0), .sc (.int .i64 0)]) 6⟩,
 ⟨none, none, .st 6 (.t 17) (.t 37)⟩])
 (.seq (.reg [⟨some 38, none, .ld (some 6) (.t 17)⟩,
 ⟨some 39, none, .call 53 [(.t 38)]⟩,
 ⟨some 18, none, .mv (.t 39)⟩])
 (.seq (.reg [⟨some 40, none, .mv (.t 18)⟩,
 ⟨some 41, none, .bin .neq false (.t 40) (.k (.sc (.int .i64 0))) (pu (.binOp .neq 31 (.tmp 40) (.const (.int .i64 0)) 31) 4)⟩])
 (.cond (.t 41) (.seq (.reg [⟨some 42, none, .mv (.t 18)⟩,
 ⟨some 12, none, .mv (.t 42)⟩])
 .ret)
 .skip)))))
 (.reg [⟨some 43, none, .bin .add false (.t 34) (.k (.sc (.int .i64 1))) (pu (.binOp .add 3 (.tmp 34) (.const (.int .i64 1)) 3) 3)⟩,
 ⟨some 34, none, .mv (.t 43)⟩])))))))
 (.seq (.seq (.reg [⟨some 44, none, .mv (.t 2)⟩,
 ⟨some 45, none, .mv (.t 3)⟩,
 ⟨some 46, none, .call 73 [(.t 44), (.t 45)]⟩,
 ⟨some 19, none, .mv (.t 46)⟩])
 (.seq (.reg [⟨some 47, none, .mv (.t 19)⟩,
 ⟨some 48, none, .bin .neq false (.t 47) (.k (.sc (.int .i64 0))) (pu (.binOp .neq 31 (.tmp 47) (.const (.int .i64 0)) 31) 4)⟩])
 (.cond (.t 48) (.seq (.reg [⟨some 49, none, .mv (.t 19)⟩,
 ⟨some 12, none, .mv (.t 49)⟩])
 .ret)
 .skip)))
 (.seq (.seq (.reg [⟨some 50, none, .mv (.t 4)⟩,
 ⟨some 51, none, .call 74 [(.t 50)]⟩,
 ⟨some 52, none, .un .not (.t 51) (pu (.unOp .not 4 (.tmp 51)) 4)⟩])
 (.cond (.t 52) (.seq (.reg [⟨some 12, none, .mv (.k (.sc (.int .i64 21)))⟩])
 .ret)
 .skip))
 (.seq (.seq (.reg [⟨some 53, none, .sh 0 (.t 11)⟩,
 ⟨some 54, none, .ld none (.t 53)⟩,
 ⟨some 55, none, .bin .lss false (.t 54) (.k (.sc (.int .i64 0))) (pu (.binOp .lss 3 (.tmp 54) (.const (.int .i64 0)) 3) 4)⟩,
 ⟨some 56, none, .mv (.t 55)⟩,
 ⟨some 57, (some ((some 56), false)), .sh 0 (.t 11)⟩,
 ⟨some 58, (some ((some 56), false)), .ld none (.t 57)⟩,
 ⟨some 59, (some ((some 56), false)), .sh 1 (.t 11)⟩,
 ⟨some 60, (some ((some 56), false)), .ld none (.t 59)⟩,
 ⟨some 61, (some ((some 56), false)), .bin .gtr false (.t 58) (.t 60) (pu (.binOp .gtr 3 (.tmp 58) (.tmp 60) 3) 4)⟩,
 ⟨some 62, none, .pick (.t 56) (.k (.sc (.bool true))) (.t 61)⟩,
 ⟨some 63, none, .mv (.t 62)⟩,
 ⟨some 64, (some ((some 63), false)), .sh 1 (.t 11)⟩,
 ⟨some 65, (some ((some 63), false)), .ld none (.t 64)⟩,
 ⟨some 66, (some ((some 63), false)), .bin .gtr false (.t 65) (.k (.sc (.int .i64 268435456))) (pu (.binOp .gtr 3 (.tmp 65) (.const (.int .i64 268435456)) 3) 4)⟩,
 ⟨some 67, none, .pick (.t 63) (.k (.sc (.bool true))) (.t 66)⟩])
 (.cond (.t 67) (.seq (.reg [⟨some 12, none, .mv (.k (.sc (.int .i64 2)))⟩])
 .ret)
 .skip))
 (.seq (.reg [⟨some 12, none, .mv (.k (.sc (.int .i64 0)))⟩])
 .ret)))))))
def k63 : List Nat := [0, 1, 2, 3, 4, 5, 11, 12, 14, 15, 17, 18, 19, 20, 21, 22, 23, 29, 32, 33, 34, 35, 41, 48, 52, 67]
theorem ic63 : factsI Try.prog 63 = some (68, [.tmp 12], c63) := by kernel_rfl
def c64 : IC :=
 (.seq (.reg [⟨some 2, none, .mv (.k (.sc (.map none)))⟩])
 (.seq (.reg [⟨some 8, none, .mmk none⟩,
 ⟨some 3, none, .mv (.t 8)⟩])
 (.seq (.seq (.reg [⟨some 9, none, .mv (.t 0)⟩,
 ⟨some 10, none, .len (.t 9) (pu (.call ⟨.builtin .len, #[(.tmp 9)], #[28]⟩) 3)⟩,
 ⟨some 11, none, .mv (.k (.sc (.int .i64 0)))⟩])
 (.block 0 (.loop (.seq (.reg [⟨some 12, none, .bin .lss false (.t 11) (.t 10) (pu (.binOp .lss 3 (.tmp 11) (.tmp 10) 3) 0)⟩])
 (.seq (.cond (.t 12) .skip
 (.exit 0))
 (.seq (.block 1 (.seq (.reg [⟨some 13, none, .ixs 6 (.t 9) (.t 11)⟩,
 ⟨some 14, none, .ld (some 6) (.t 13)⟩,
 ⟨some 5, none, .al (.agg [.sc (.string ⟨#[]⟩), .sc (.string ⟨#[]⟩), .sc (.int .i64 0), .sc (.int .i64 0), .sc (.int .i64 0), .sc (.int .i64 0)]) 6⟩,
 ⟨none, none, .st 6 (.t 5) (.t 14)⟩])
 (.seq (.reg [⟨some 16, none, .mv (.t 3)⟩,
 ⟨some 17, none, .sh 0 (.t 5)⟩,
 ⟨some 18, none, .ld none (.t 17)⟩,
 ⟨some 19, none, .mlk false [.s] (.agg [.sc (.string ⟨#[]⟩), .sc (.string ⟨#[]⟩), .sc (.int .i64 0), .sc (.int .i64 0), .sc (.int .i64 0), .sc (.int .i64 0)]) true (.t 16) (.t 18) (pu (.lookup 76 (.tmp 16) (.tmp 18) true) 79)⟩,
 ⟨some 15, none, .mv (.t 19)⟩,
 ⟨some 20, none, .ext (.t 15) 0⟩,
 ⟨some 21, none, .ext (.t 15) 1⟩,
 ⟨some 6, none, .al (.agg [.sc (.string ⟨#[]⟩), .sc (.string ⟨#[]⟩), .sc (.int .i64 0), .sc (.int .i64 0), .sc (.int .i64 0), .sc (.int .i64 0)]) 6⟩,
 ⟨none, none, .st 6 (.t 6) (.t 20)⟩,
 ⟨some 7, none, .mv (.t 21)⟩])
 (.seq (.reg [⟨some 22, none, .mv (.t 7)⟩,
 ⟨some 23, none, .un .not (.t 22) (pu (.unOp .not 4 (.tmp 22)) 4)⟩,
 ⟨some 24, none, .mv (.t 23)⟩,
 ⟨some 25, (some ((some 24), true)), .sh 2 (.t 5)⟩,
 ⟨some 26, (some ((some 24), true)), .ld none (.t 25)⟩,
 ⟨some 27, (some ((some 24), true)), .bin .eql false (.t 26) (.k (.sc (.int .i64 4))) (pu (.binOp .eql 3 (.tmp 26) (.const (.int .i64 4)) 3) 4)⟩,
 ⟨some 28, none, .pick (.t 24) (.t 27) (.k (.sc (.bool false)))⟩])
 (.cond (.t 28) (.reg [⟨some 29, none, .mv (.t 3)⟩,
 ⟨some 30, none, .sh 0 (.t 5)⟩,
 ⟨some 31, none, .ld none (.t 30)⟩,
 ⟨some 32, none, .ld (some 6) (.t 5)⟩,
 ⟨none, none, .mpt false [.s] (.t 29) (.t 31) (.t 32)⟩])
 .skip)))))
 (.reg [⟨some 33, none, .bin .add false (.t 11) (.k (.sc (.int .i64 1))) (pu (.binOp .add 3 (.tmp 11) (.const (.int .i64 1)) 3) 3)⟩,
 ⟨some 11, none, .mv (.t 33)⟩])))))))
 (.seq (.reg [⟨some 34, none, .mv (.t 3)⟩,
 ⟨some 2, none, .mv (.t 34)⟩])
 .ret))))
def k64 : List Nat := [0, 2, 3, 5, 7, 9, 10, 11, 12, 28]
theorem ic64 : factsI Try.prog 64 = some (35, [.tmp 2], c64) := by kernel_rfl
def c65 : IC :=
 (.seq (.reg [⟨some 2, none, .bx (.t 0)⟩,
 ⟨some 4, none, .mv (.k (.sc (.int .i64 0)))⟩])
 (.seq (.seq (.reg [⟨some 7, none, .mv (.t 1)⟩,
 ⟨some 8, none, .len (.t 7) (pu (.call ⟨.builtin .len, #[(.tmp 7)], #[28]⟩) 3)⟩,
 ⟨some 9, none, .mv (.k (.sc (.int .i64 0)))⟩])
 (.block 0 (.loop (.seq (.reg [⟨some 10, none, .bin .lss false (.t 9) (.t 8) (pu (.binOp .lss 3 (.tmp 9) (.tmp 8) 3) 0)⟩])
 (.seq (.cond (.t 10) .skip
 (.exit 0))
 (.seq (.block 1 (.seq (.reg [⟨some 11, none, .ixs 6 (.t 7) (.t 9)⟩,
 ⟨some 12, none, .ld (some 6) (.t 11)⟩,
 ⟨some 6, none, .al (.agg [.sc (.string ⟨#[]⟩), .sc (.string ⟨#[]⟩), .sc (.int .i64 0), .sc (.int .i64 0), .sc (.int .i64 0), .sc (.int .i64 0)]) 6⟩,
 ⟨none, none, .st 6 (.t 6) (.t 12)⟩])
 (.seq (.reg [⟨some 13, none, .sh 0 (.t 6)⟩,
 ⟨some 14, none, .ld none (.t 13)⟩,
 ⟨some 15, none, .sh 0 (.t 2)⟩,
 ⟨some 16, none, .ld none (.t 15)⟩,
 ⟨some 17, none, .bin .eql false (.t 14) (.t 16) (pu (.binOp .eql 9 (.tmp 14) (.tmp 16) 9) 4)⟩,
 ⟨some 18, none, .mv (.t 17)⟩,
 ⟨some 19, (some ((some 18), true)), .sh 2 (.t 6)⟩,
 ⟨some 20, (some ((some 18), true)), .ld none (.t 19)⟩,
 ⟨some 21, (some ((some 18), true)), .bin .eql false (.t 20) (.k (.sc (.int .i64 4))) (pu (.binOp .eql 3 (.tmp 20) (.const (.int .i64 4)) 3) 4)⟩,
 ⟨some 22, none, .pick (.t 18) (.t 21) (.k (.sc (.bool false)))⟩])
 (.cond (.t 22) (.seq (.reg [⟨some 23, none, .sh 11 (.t 2)⟩,
 ⟨some 24, none, .ld none (.t 23)⟩,
 ⟨some 25, none, .sh 5 (.t 6)⟩,
 ⟨some 26, none, .ld none (.t 25)⟩,
 ⟨some 27, none, .bin .sub false (.t 24) (.t 26) (pu (.binOp .sub 3 (.tmp 24) (.tmp 26) 3) 3)⟩,
 ⟨some 4, none, .mv (.t 27)⟩])
 .ret)
 .skip))))
 (.reg [⟨some 28, none, .bin .add false (.t 9) (.k (.sc (.int .i64 1))) (pu (.binOp .add 3 (.tmp 9) (.const (.int .i64 1)) 3) 3)⟩,
 ⟨some 9, none, .mv (.t 28)⟩])))))))
 (.seq (.reg [⟨some 29, none, .sh 11 (.t 2)⟩,
 ⟨some 30, none, .ld none (.t 29)⟩,
 ⟨some 4, none, .mv (.t 30)⟩])
 .ret)))
def k65 : List Nat := [0, 1, 2, 4, 6, 7, 8, 9, 10, 22]
theorem ic65 : factsI Try.prog 65 = some (31, [.tmp 4], c65) := by kernel_rfl
def c66 : IC :=
 (.seq (.reg [⟨some 2, none, .mv (.k (.sc (.int .i64 0)))⟩,
 ⟨some 3, none, .mv (.k (.sc (.int .i64 0)))⟩])
 (.seq (.reg [⟨some 4, none, .mv (.k (.sc (.int .u64 0)))⟩,
 ⟨some 5, none, .mv (.k (.sc (.int .u64 0)))⟩])
 (.seq (.seq (.reg [⟨some 9, none, .mv (.t 0)⟩,
 ⟨some 10, none, .len (.t 9) (pu (.call ⟨.builtin .len, #[(.tmp 9)], #[24]⟩) 3)⟩,
 ⟨some 11, none, .mv (.k (.sc (.int .i64 0)))⟩])
 (.block 0 (.loop (.seq (.reg [⟨some 12, none, .bin .lss false (.t 11) (.t 10) (pu (.binOp .lss 3 (.tmp 11) (.tmp 10) 3) 0)⟩])
 (.seq (.cond (.t 12) .skip
 (.exit 0))
 (.seq (.block 1 (.seq (.reg [⟨some 13, none, .ixs 1 (.t 9) (.t 11)⟩,
 ⟨some 14, none, .ld none (.t 13)⟩,
 ⟨some 7, none, .mv (.t 14)⟩])
 (.seq (.reg [⟨some 8, none, .mv (.k (.sc (.int .u64 0)))⟩])
 (.seq (.reg [⟨some 16, none, .mv (.t 5)⟩,
 ⟨some 17, none, .mv (.t 7)⟩,
 ⟨some 18, none, .pur (pu (.convert 3 145 (.tmp 17)) 145)⟩,
 ⟨some 19, none, .opx (pu (.call ⟨.value (.func 75), #[(.tmp 16), (.tmp 18), (.const (.int .u64 0))], #[145, 145, 145]⟩) 146)⟩,
 ⟨some 15, none, .mv (.t 19)⟩,
 ⟨some 20, none, .ext (.t 15) 0⟩,
 ⟨some 21, none, .ext (.t 15) 1⟩,
 ⟨some 5, none, .mv (.t 20)⟩,
 ⟨some 8, none, .mv (.t 21)⟩])
 (.seq (.reg [⟨some 22, none, .mv (.t 4)⟩,
 ⟨some 23, none, .mv (.t 8)⟩,
 ⟨some 24, none, .bin .add false (.t 22) (.t 23) (pu (.binOp .add 145 (.tmp 22) (.tmp 23) 145) 145)⟩,
 ⟨some 4, none, .mv (.t 24)⟩])
 (.seq (.reg [⟨some 25, none, .mv (.t 7)⟩,
 ⟨some 26, none, .bin .lss false (.t 25) (.k (.sc (.int .i64 0))) (pu (.binOp .lss 3 (.tmp 25) (.const (.int .i64 0)) 3) 4)⟩])
 (.cond (.t 26) (.reg [⟨some 27, none, .mv (.t 4)⟩,
 ⟨some 28, none, .bin .sub false (.t 27) (.k (.sc (.int .u64 1))) (pu (.binOp .sub 145 (.tmp 27) (.const (.int .u64 1)) 145) 145)⟩,
 ⟨some 4, none, .mv (.t 28)⟩])
 .skip)))))))
 (.reg [⟨some 29, none, .bin .add false (.t 11) (.k (.sc (.int .i64 1))) (pu (.binOp .add 3 (.tmp 11) (.const (.int .i64 1)) 3) 3)⟩,
 ⟨some 11, none, .mv (.t 29)⟩])))))))
 (.seq (.seq (.reg [⟨some 30, none, .mv (.t 4)⟩,
 ⟨some 31, none, .bin .neq false (.t 30) (.k (.sc (.int .u64 0))) (pu (.binOp .neq 145 (.tmp 30) (.const (.int .u64 0)) 145) 4)⟩,
 ⟨some 32, none, .mv (.t 31)⟩,
 ⟨some 33, (some ((some 32), true)), .mv (.t 4)⟩,
 ⟨some 34, (some ((some 32), true)), .bin .neq false (.t 33) (.k (.sc (.int .u64 18446744073709551615))) (pu (.binOp .neq 145 (.tmp 33) (.const (.int .u64 18446744073709551615)) 145) 4)⟩,
 ⟨some 35, none, .pick (.t 32) (.t 34) (.k (.sc (.bool false)))⟩,
 ⟨some 36, none, .mv (.t 35)⟩,
 ⟨some 37, (some ((some 36), false)), .mv (.t 4)⟩,
 ⟨some 38, (some ((some 36), false)), .bin .eql false (.t 37) (.k (.sc (.int .u64 0))) (pu (.binOp .eql 145 (.tmp 37) (.const (.int .u64 0)) 145) 4)⟩,
 ⟨some 39, (some ((some 36), false)), .mv (.t 5)⟩,
 ⟨some 40, (some ((some 36), false)), .pur (pu (.convert 145 3 (.tmp 39)) 3)⟩,
 ⟨some 41, (some ((some 36), false)), .bin .geq false (.t 40) (.k (.sc (.int .i64 0))) (pu (.binOp .geq 3 (.tmp 40) (.const (.int .i64 0)) 3) 4)⟩,
 ⟨some 42, (some ((some 36), false)), .bin .neq true (.t 38) (.t 41) (pu (.binOp .neq 4 (.tmp 38) (.tmp 41) 4) 4)⟩,
 ⟨some 43, none, .pick (.t 36) (.k (.sc (.bool true))) (.t 42)⟩])
 (.cond (.t 43) (.seq (.reg [⟨some 2, none, .mv (.k (.sc (.int .i64 0)))⟩,
 ⟨some 3, none, .mv (.k (.sc (.int .i64 20)))⟩])
 .ret)
 .skip))
 (.seq (.reg [⟨some 44, none, .mv (.t 5)⟩,
 ⟨some 45, none, .pur (pu (.convert 145 3 (.tmp 44)) 3)⟩,
 ⟨some 2, none, .mv (.t 45)⟩,
 ⟨some 3, none, .mv (.k (.sc (.int .i64 0)))⟩])
 .ret)))))
def k66 : List Nat := [0, 2, 3, 4, 5, 7, 8, 9, 10, 11, 12, 26, 43]
theorem ic66 : factsI Try.prog 66 = some (46, [.tmp 2, .tmp 3], c66) := by kernel_rfl
def c68 : IC :=
 (.seq (.reg [⟨some 2, none, .bx (.t 0)⟩,
 ⟨some 3, none, .bx (.t 1)⟩,
 ⟨some 4, none, .mv (.k (.sc (.int .i64 0)))⟩])
 (.seq (.drw [0, 1, 0, 4, 15, 0, 32, 96, 0, 256, 768, 2047, 0, 4096, 12288, 0, 32768, 98304, 262143, 0, 524288, 1572864, 0, 4194304, 12582912, 33554431, 67108863, 134217727, 268435455] [⟨some 5, none, .sh 6 (.t 2)⟩,
 ⟨some 6, none, .ld none (.t 5)⟩,
 ⟨some 7, none, .sh 6 (.t 3)⟩,
 ⟨some 8, none, .ld none (.t 7)⟩,
 ⟨some 9, none, .call 70 [(.t 6), (.t 8)]⟩,
 ⟨some 10, none, .sh 0 (.t 2)⟩,
 ⟨some 11, none, .sh 0 (.t 10)⟩,
 ⟨some 12, none, .ld none (.t 11)⟩,
 ⟨some 13, none, .sh 0 (.t 3)⟩,
 ⟨some 14, none, .sh 0 (.t 13)⟩,
 ⟨some 15, none, .ld none (.t 14)⟩,
 ⟨some 16, none, .call 70 [(.t 12), (.t 15)]⟩,
 ⟨some 17, none, .sh 0 (.t 2)⟩,
 ⟨some 18, none, .sh 2 (.t 17)⟩,
 ⟨some 19, none, .ld none (.t 18)⟩,
 ⟨some 20, none, .sh 0 (.t 3)⟩,
 ⟨some 21, none, .sh 2 (.t 20)⟩,
 ⟨some 22, none, .ld none (.t 21)⟩,
 ⟨some 23, none, .call 71 [(.t 19), (.t 22)]⟩,
 ⟨some 24, none, .sh 0 (.t 2)⟩,
 ⟨some 25, none, .sh 1 (.t 24)⟩,
 ⟨some 26, none, .ld none (.t 25)⟩,
 ⟨some 27, none, .sh 0 (.t 3)⟩,
 ⟨some 28, none, .sh 1 (.t 27)⟩,
 ⟨some 29, none, .ld none (.t 28)⟩,
 ⟨some 30, none, .call 71 [(.t 26), (.t 29)]⟩,
 ⟨some 31, none, .bsl 1 4 false [.sc (.int .i64 0), .sc (.int .i64 0), .sc (.int .i64 0), .sc (.int .i64 0)] [(0, 1, (.t 9)), (1, 1, (.t 16)), (2, 1, (.t 23)), (3, 1, (.t 30))]⟩,
 ⟨some 32, none, .call 69 [(.t 31)]⟩,
 ⟨some 4, none, .mv (.t 32)⟩])
 .ret))
def k68 : List Nat := [0, 1, 2, 3, 4]
theorem ic68 : factsI Try.prog 68 = some (33, [.tmp 4], c68) := by kernel_rfl
def c69 : IC :=
 (.seq (.reg [⟨some 2, none, .mv (.k (.sc (.int .i64 0)))⟩])
 (.seq (.reg [⟨some 3, none, .mv (.k (.sc (.int .i64 0)))⟩])
 (.seq (.seq (.reg [⟨some 6, none, .mv (.t 0)⟩,
 ⟨some 7, none, .len (.t 6) (pu (.call ⟨.builtin .len, #[(.tmp 6)], #[24]⟩) 3)⟩,
 ⟨some 8, none, .mv (.k (.sc (.int .i64 0)))⟩])
 (.block 0 (.loop (.seq (.reg [⟨some 9, none, .bin .lss false (.t 8) (.t 7) (pu (.binOp .lss 3 (.tmp 8) (.tmp 7) 3) 0)⟩])
 (.seq (.cond (.t 9) .skip
 (.exit 0))
 (.seq (.block 1 (.seq (.reg [⟨some 10, none, .ixs 1 (.t 6) (.t 8)⟩,
 ⟨some 11, none, .ld none (.t 10)⟩,
 ⟨some 5, none, .mv (.t 11)⟩])
 (.seq (.reg [⟨some 12, none, .mv (.t 5)⟩,
 ⟨some 13, none, .mv (.t 3)⟩,
 ⟨some 14, none, .bin .neq false (.t 12) (.t 13) (pu (.binOp .neq 3 (.tmp 12) (.tmp 13) 3) 4)⟩])
 (.cond (.t 14) (.seq (.reg [⟨some 15, none, .mv (.t 5)⟩,
 ⟨some 2, none, .mv (.t 15)⟩])
 .ret)
 .skip))))
 (.reg [⟨some 16, none, .bin .add false (.t 8) (.k (.sc (.int .i64 1))) (pu (.binOp .add 3 (.tmp 8) (.const (.int .i64 1)) 3) 3)⟩,
 ⟨some 8, none, .mv (.t 16)⟩])))))))
 (.seq (.reg [⟨some 17, none, .mv (.t 3)⟩,
 ⟨some 2, none, .mv (.t 17)⟩])
 .ret))))
def k69 : List Nat := [0, 2, 3, 5, 6, 7, 8, 9, 14]
theorem ic69 : factsI Try.prog 69 = some (18, [.tmp 2], c69) := by kernel_rfl
def c70 : IC :=
 (.seq (.reg [⟨some 4, none, .mv (.k (.sc (.int .i64 0)))⟩])
 (.seq (.reg [⟨some 7, none, .mv (.t 0)⟩,
 ⟨some 8, none, .call 78 [(.t 7)]⟩,
 ⟨some 5, none, .mv (.t 8)⟩])
 (.seq (.reg [⟨some 9, none, .mv (.t 1)⟩,
 ⟨some 10, none, .call 78 [(.t 9)]⟩,
 ⟨some 6, none, .mv (.t 10)⟩])
 (.seq (.seq (.reg [⟨some 11, none, .mv (.t 5)⟩])
 (.cond (.t 11) (.seq (.seq (.reg [⟨some 12, none, .mv (.t 6)⟩])
 (.cond (.t 12) (.seq (.reg [⟨some 4, none, .mv (.k (.sc (.int .i64 0)))⟩])
 .ret)
 .skip))
 (.seq (.reg [⟨some 4, none, .mv (.k (.sc (.int .i64 (-1))))⟩])
 .ret))
 .skip))
 (.seq (.seq (.reg [⟨some 13, none, .mv (.t 6)⟩])
 (.cond (.t 13) (.seq (.reg [⟨some 4, none, .mv (.k (.sc (.int .i64 1)))⟩])
 .ret)
 .skip))
 (.seq (.seq (.reg [⟨some 14, none, .mv (.t 0)⟩,
 ⟨some 15, none, .mv (.t 1)⟩,
 ⟨some 16, none, .bin .lss false (.t 14) (.t 15) (pu (.binOp .lss 3 (.tmp 14) (.tmp 15) 3) 4)⟩])
 (.cond (.t 16) (.seq (.reg [⟨some 4, none, .mv (.k (.sc (.int .i64 (-1))))⟩])
 .ret)
 .skip))
 (.seq (.seq (.reg [⟨some 17, none, .mv (.t 0)⟩,
 ⟨some 18, none, .mv (.t 1)⟩,
 ⟨some 19, none, .bin .gtr false (.t 17) (.t 18) (pu (.binOp .gtr 3 (.tmp 17) (.tmp 18) 3) 4)⟩])
 (.cond (.t 19) (.seq (.reg [⟨some 4, none, .mv (.k (.sc (.int .i64 1)))⟩])
 .ret)
 .skip))
 (.seq (.reg [⟨some 4, none, .mv (.k (.sc (.int .i64 0)))⟩])
 .ret))))))))
def k70 : List Nat := [0, 1, 4, 5, 6, 11, 12, 13, 16, 19]
theorem ic70 : factsI Try.prog 70 = some (20, [.tmp 4], c70) := by kernel_rfl
def c71 : IC :=
 (.seq (.reg [⟨some 4, none, .mv (.k (.sc (.int .i64 0)))⟩])
 (.seq (.reg [⟨some 7, none, .mv (.t 0)⟩,
 ⟨some 8, none, .call 79 [(.t 7)]⟩,
 ⟨some 5, none, .mv (.t 8)⟩])
 (.seq (.reg [⟨some 9, none, .mv (.t 1)⟩,
 ⟨some 10, none, .call 79 [(.t 9)]⟩,
 ⟨some 6, none, .mv (.t 10)⟩])
 (.seq (.seq (.reg [⟨some 11, none, .mv (.t 5)⟩])
 (.cond (.t 11) (.seq (.seq (.reg [⟨some 12, none, .mv (.t 6)⟩])
 (.cond (.t 12) (.seq (.reg [⟨some 4, none, .mv (.k (.sc (.int .i64 0)))⟩])
 .ret)
 .skip))
 (.seq (.reg [⟨some 4, none, .mv (.k (.sc (.int .i64 (-1))))⟩])
 .ret))
 .skip))
 (.seq (.seq (.reg [⟨some 13, none, .mv (.t 6)⟩])
 (.cond (.t 13) (.seq (.reg [⟨some 4, none, .mv (.k (.sc (.int .i64 1)))⟩])
 .ret)
 .skip))
 (.seq (.seq (.reg [⟨some 14, none, .mv (.t 0)⟩,
 ⟨some 15, none, .mv (.t 1)⟩,
 ⟨some 16, none, .bin .lss false (.t 14) (.t 15) (pu (.binOp .lss 9 (.tmp 14) (.tmp 15) 9) 4)⟩])
 (.cond (.t 16) (.seq (.reg [⟨some 4, none, .mv (.k (.sc (.int .i64 (-1))))⟩])
 .ret)
 .skip))
 (.seq (.seq (.reg [⟨some 17, none, .mv (.t 0)⟩,
 ⟨some 18, none, .mv (.t 1)⟩,
 ⟨some 19, none, .bin .gtr false (.t 17) (.t 18) (pu (.binOp .gtr 9 (.tmp 17) (.tmp 18) 9) 4)⟩])
 (.cond (.t 19) (.seq (.reg [⟨some 4, none, .mv (.k (.sc (.int .i64 1)))⟩])
 .ret)
 .skip))
 (.seq (.reg [⟨some 4, none, .mv (.k (.sc (.int .i64 0)))⟩])
 .ret))))))))
def k71 : List Nat := [0, 1, 4, 5, 6, 11, 12, 13, 16, 19]
theorem ic71 : factsI Try.prog 71 = some (20, [.tmp 4], c71) := by kernel_rfl
def c72 : IC :=
 (.seq (.reg [⟨some 2, none, .mv (.k (.sc (.int .i64 0)))⟩])
 (.seq (.seq (.reg [⟨some 3, none, .mv (.t 0)⟩])
 (.block 0 (.seq (.reg [⟨some 5, none, .bin .eql false (.t 3) (.k (.sc (.int .i64 1))) (pu (.binOp .eql 3 (.tmp 3) (.const (.int .i64 1)) 3) 4)⟩,
 ⟨some 4, none, .mv (.t 5)⟩])
 (.cond (.t 4) (.seq (.reg [⟨some 2, none, .mv (.k (.sc (.int .i64 1)))⟩])
 .ret)
 (.seq (.reg [⟨some 7, none, .bin .eql false (.t 3) (.k (.sc (.int .i64 2))) (pu (.binOp .eql 3 (.tmp 3) (.const (.int .i64 2)) 3) 4)⟩,
 ⟨some 6, none, .mv (.t 7)⟩])
 (.cond (.t 6) (.seq (.reg [⟨some 2, none, .mv (.k (.sc (.int .i64 2)))⟩])
 .ret)
 (.seq (.reg [⟨some 9, none, .bin .eql false (.t 3) (.k (.sc (.int .i64 3))) (pu (.binOp .eql 3 (.tmp 3) (.const (.int .i64 3)) 3) 4)⟩,
 ⟨some 8, none, .mv (.t 9)⟩])
 (.cond (.t 8) (.seq (.reg [⟨some 2, none, .mv (.k (.sc (.int .i64 3)))⟩])
 .ret)
 (.seq (.reg [⟨some 11, none, .bin .eql false (.t 3) (.k (.sc (.int .i64 6))) (pu (.binOp .eql 3 (.tmp 3) (.const (.int .i64 6)) 3) 4)⟩,
 ⟨some 10, none, .mv (.t 11)⟩])
 (.cond (.t 10) (.seq (.reg [⟨some 2, none, .mv (.k (.sc (.int .i64 4)))⟩])
 .ret)
 (.seq (.reg [⟨some 13, none, .bin .eql false (.t 3) (.k (.sc (.int .i64 5))) (pu (.binOp .eql 3 (.tmp 3) (.const (.int .i64 5)) 3) 4)⟩,
 ⟨some 12, none, .mv (.t 13)⟩])
 (.cond (.t 12) (.seq (.reg [⟨some 2, none, .mv (.k (.sc (.int .i64 5)))⟩])
 .ret)
 (.seq (.reg [⟨some 15, none, .bin .eql false (.t 3) (.k (.sc (.int .i64 4))) (pu (.binOp .eql 3 (.tmp 3) (.const (.int .i64 4)) 3) 4)⟩,
 ⟨some 14, none, .mv (.t 15)⟩])
 (.cond (.t 14) (.seq (.reg [⟨some 2, none, .mv (.k (.sc (.int .i64 6)))⟩])
 .ret)
 .skip))))))))))))))
 (.seq (.reg [⟨some 2, none, .mv (.k (.sc (.int .i64 0)))⟩])
 .ret)))
def k72 : List Nat := [0, 2, 3, 4, 6, 8, 10, 12, 14]
theorem ic72 : factsI Try.prog 72 = some (16, [.tmp 2], c72) := by kernel_rfl
def c73 : IC :=
 (.seq (.reg [⟨some 4, none, .mv (.k (.sc (.int .i64 0)))⟩])
 (.seq (.seq (.reg [⟨some 5, none, .mv (.t 0)⟩,
 ⟨some 6, none, .call 12 [(.t 5)]⟩,
 ⟨some 7, none, .un .not (.t 6) (pu (.unOp .not 4 (.tmp 6)) 4)⟩,
 ⟨some 8, none, .mv (.t 7)⟩,
 ⟨some 9, (some ((some 8), false)), .mv (.t 1)⟩,
 ⟨some 10, (some ((some 8), false)), .call 12 [(.t 9)]⟩,
 ⟨some 11, (some ((some 8), false)), .un .not (.t 10) (pu (.unOp .not 4 (.tmp 10)) 4)⟩,
 ⟨some 12, none, .pick (.t 8) (.k (.sc (.bool true))) (.t 11)⟩])
 (.cond (.t 12) (.seq (.reg [⟨some 4, none, .mv (.k (.sc (.int .i64 4)))⟩])
 .ret)
 .skip))
 (.seq (.seq (.reg [⟨some 13, none, .mv (.t 0)⟩,
 ⟨some 14, none, .mv (.t 1)⟩,
 ⟨some 15, none, .bin .eql false (.t 13) (.t 14) (pu (.binOp .eql 9 (.tmp 13) (.tmp 14) 9) 4)⟩])
 (.cond (.t 15) (.seq (.reg [⟨some 4, none, .mv (.k (.sc (.int .i64 1)))⟩])
 .ret)
 .skip))
 (.seq (.reg [⟨some 4, none, .mv (.k (.sc (.int .i64 0)))⟩])
 .ret))))
def k73 : List Nat := [0, 1, 4, 12, 15]
theorem ic73 : factsI Try.prog 73 = some (16, [.tmp 4], c73) := by kernel_rfl
def c74 : IC :=
 (.seq (.reg [⟨some 2, none, .mv (.k (.sc (.bool false)))⟩])
 (.seq (.seq (.reg [⟨some 4, none, .mv (.t 0)⟩,
 ⟨some 5, none, .lens (.t 4) (pu (.call ⟨.builtin .len, #[(.tmp 4)], #[9]⟩) 3)⟩,
 ⟨some 6, none, .bin .neq false (.t 5) (.k (.sc (.int .i64 3))) (pu (.binOp .neq 3 (.tmp 5) (.const (.int .i64 3)) 3) 4)⟩])
 (.cond (.t 6) (.seq (.reg [⟨some 2, none, .mv (.k (.sc (.bool false)))⟩])
 .ret)
 .skip))
 (.seq (.seq (.reg [⟨some 7, none, .mv (.t 0)⟩,
 ⟨some 8, none, .lens (.t 7) (pu (.call ⟨.builtin .len, #[(.tmp 7)], #[9]⟩) 3)⟩,
 ⟨some 9, none, .mv (.k (.sc (.int .i64 0)))⟩])
 (.block 0 (.loop (.seq (.reg [⟨some 10, none, .bin .lss false (.t 9) (.t 8) (pu (.binOp .lss 3 (.tmp 9) (.tmp 8) 3) 4)⟩])
 (.seq (.cond (.t 10) .skip
 (.exit 0))
 (.seq (.block 1 (.seq (.reg [⟨some 11, none, .mv (.t 9)⟩,
 ⟨some 3, none, .mv (.t 11)⟩])
 (.seq (.reg [⟨some 12, none, .mv (.t 0)⟩,
 ⟨some 13, none, .mv (.t 3)⟩,
 ⟨some 14, none, .pur (pu (.index 9 (.tmp 12) (.tmp 13)) 5)⟩,
 ⟨some 15, none, .bin .lss false (.t 14) (.k (.sc (.int .u8 65))) (pu (.binOp .lss 5 (.tmp 14) (.const (.int .u8 65)) 5) 4)⟩,
 ⟨some 16, none, .mv (.t 15)⟩,
 ⟨some 17, (some ((some 16), false)), .mv (.t 0)⟩,
 ⟨some 18, (some ((some 16), false)), .mv (.t 3)⟩,
 ⟨some 19, (some ((some 16), false)), .pur (pu (.index 9 (.tmp 17) (.tmp 18)) 5)⟩,
 ⟨some 20, (some ((some 16), false)), .bin .gtr false (.t 19) (.k (.sc (.int .u8 90))) (pu (.binOp .gtr 5 (.tmp 19) (.const (.int .u8 90)) 5) 4)⟩,
 ⟨some 21, none, .pick (.t 16) (.k (.sc (.bool true))) (.t 20)⟩])
 (.cond (.t 21) (.seq (.reg [⟨some 2, none, .mv (.k (.sc (.bool false)))⟩])
 .ret)
 .skip))))
 (.reg [⟨some 22, none, .bin .add false (.t 9) (.k (.sc (.int .i64 1))) (pu (.binOp .add 3 (.tmp 9) (.const (.int .i64 1)) 3) 3)⟩,
 ⟨some 9, none, .mv (.t 22)⟩])))))))
 (.seq (.reg [⟨some 2, none, .mv (.k (.sc (.bool true)))⟩])
 .ret))))
def k74 : List Nat := [0, 2, 3, 6, 8, 9, 10, 21]
theorem ic74 : factsI Try.prog 74 = some (23, [.tmp 2], c74) := by kernel_rfl
def c78 : IC :=
 (.seq (.reg [⟨some 2, none, .mv (.k (.sc (.bool false)))⟩])
 (.seq (.reg [⟨some 3, none, .mv (.t 0)⟩,
 ⟨some 4, none, .mv (.t 0)⟩,
 ⟨some 5, none, .bin .neq false (.t 3) (.t 4) (pu (.binOp .neq 3 (.tmp 3) (.tmp 4) 3) 4)⟩,
 ⟨some 2, none, .mv (.t 5)⟩])
 .ret))
def k78 : List Nat := [0, 2]
theorem ic78 : factsI Try.prog 78 = some (6, [.tmp 2], c78) := by kernel_rfl
def c79 : IC :=
 (.seq (.reg [⟨some 2, none, .mv (.k (.sc (.bool false)))⟩])
 (.seq (.reg [⟨some 3, none, .mv (.t 0)⟩,
 ⟨some 4, none, .mv (.t 0)⟩,
 ⟨some 5, none, .bin .neq false (.t 3) (.t 4) (pu (.binOp .neq 9 (.tmp 3) (.tmp 4) 9) 4)⟩,
 ⟨some 2, none, .mv (.t 5)⟩])
 .ret))
def k79 : List Nat := [0, 2]
theorem ic79 : factsI Try.prog 79 = some (6, [.tmp 2], c79) := by kernel_rfl
end Go.Proofs.Ytalhbhbkdfmhgaa
