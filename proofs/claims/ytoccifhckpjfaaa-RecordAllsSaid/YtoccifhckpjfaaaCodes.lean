import Derived.Test.YtoccifhckpjfaaaRows
import Derived.Test.YtoccifhckpjfaaaIdlM4
namespace Go.Proofs.Ytoccifhckpjfaaa
open Go.Idl
def c3 : IC :=
 (.seq (.reg [⟨some 6, none, .mv (.k (.sc (.bool false)))⟩])
 (.seq (.seq (.reg [⟨some 13, none, .mv (.t 0)⟩,
 ⟨some 14, none, .call 7 [(.t 13)]⟩,
 ⟨some 15, none, .un .not (.t 14) (pu (.unOp .not 4 (.tmp 14)) 4)⟩,
 ⟨some 16, none, .mv (.t 15)⟩,
 ⟨some 17, (some ((some 16), false)), .mv (.t 0)⟩,
 ⟨some 18, (some ((some 16), false)), .len (.t 17) (pu (.call ⟨.builtin .len, #[(.tmp 17)], #[22]⟩) 3)⟩,
 ⟨some 19, (some ((some 16), false)), .bin .eql false (.t 18) (.k (.sc (.int .i64 0))) (pu (.binOp .eql 3 (.tmp 18) (.const (.int .i64 0)) 3) 4)⟩,
 ⟨some 20, none, .pick (.t 16) (.k (.sc (.bool true))) (.t 19)⟩])
 (.cond (.t 20) (.seq (.reg [⟨some 21, none, .call 8 []⟩,
 ⟨some 6, none, .mv (.t 21)⟩])
 .ret)
 .skip))
 (.seq (.reg [⟨some 22, none, .mv (.t 2)⟩,
 ⟨some 23, none, .pur (pu (.convert 5 3 (.tmp 22)) 3)⟩,
 ⟨some 24, none, .mv (.t 0)⟩,
 ⟨some 25, none, .len (.t 24) (pu (.call ⟨.builtin .len, #[(.tmp 24)], #[22]⟩) 3)⟩,
 ⟨some 26, none, .bin .rem false (.t 23) (.t 25) (pu (.binOp .rem 3 (.tmp 23) (.tmp 25) 3) 3)⟩,
 ⟨some 7, none, .mv (.t 26)⟩])
 (.seq (.seq (.reg [⟨some 27, none, .mv (.t 0)⟩,
 ⟨some 28, none, .mv (.t 7)⟩,
 ⟨some 29, none, .ixs 10 (.t 27) (.t 28)⟩,
 ⟨some 30, none, .sh 4 (.t 29)⟩,
 ⟨some 31, none, .ld none (.t 30)⟩,
 ⟨some 32, none, .bin .neq false (.t 31) (.k (.sc (.int .i64 2))) (pu (.binOp .neq 3 (.tmp 31) (.const (.int .i64 2)) 3) 4)⟩])
 (.cond (.t 32) (.seq (.reg [⟨some 6, none, .mv (.k (.sc (.bool true)))⟩])
 .ret)
 .skip))
 (.seq (.reg [⟨some 34, none, .mv (.t 0)⟩,
 ⟨some 35, none, .mv (.t 1)⟩,
 ⟨some 36, none, .call 9 [(.t 34), (.t 35)]⟩,
 ⟨some 33, none, .mv (.t 36)⟩,
 ⟨some 37, none, .ext (.t 33) 0⟩,
 ⟨some 38, none, .ext (.t 33) 1⟩,
 ⟨some 8, none, .al (.agg [.sc (.string ⟨#[]⟩), .sc (.string ⟨#[]⟩), .sc (.int .i64 0), .sc (.string ⟨#[]⟩), .sc (.int .i64 0), .sc (.int .i64 0), .sc (.slice none 0 0), .sc (.int .i64 0), .sc (.int .i64 0), .sc (.bool false), .sc (.bool false)]) 11⟩,
 ⟨none, none, .st 11 (.t 8) (.t 37)⟩,
 ⟨some 9, none, .mv (.t 38)⟩])
 (.seq (.drw [0, 0, 0, 6, 15, 0, 0, 64, 224, 511, 0, 2047, 4095, 8191, 8191, 0, 49151, 131071] [⟨some 40, none, .bsl 10 0 true [] []⟩,
 ⟨some 41, none, .mv (.t 0)⟩,
 ⟨some 42, none, .mv (.t 7)⟩,
 ⟨some 43, none, .sl 10 (.t 41) none (some (.t 42)) none (pu (.slice 22 (.tmp 41) none (some (.tmp 42)) none) 22)⟩,
 ⟨some 44, none, .app 10 120 (.t 40) (.t 43)⟩,
 ⟨some 45, none, .mv (.t 0)⟩,
 ⟨some 46, none, .mv (.t 7)⟩,
 ⟨some 47, none, .bin .add false (.t 46) (.k (.sc (.int .i64 1))) (pu (.binOp .add 3 (.tmp 46) (.const (.int .i64 1)) 3) 3)⟩,
 ⟨some 48, none, .sl 10 (.t 45) (some (.t 47)) none none (pu (.slice 22 (.tmp 45) (some (.tmp 47)) none none) 22)⟩,
 ⟨some 49, none, .app 10 120 (.t 44) (.t 48)⟩,
 ⟨some 50, none, .mv (.t 1)⟩,
 ⟨some 51, none, .call 9 [(.t 49), (.t 50)]⟩,
 ⟨some 39, none, .mv (.t 51)⟩,
 ⟨some 52, none, .ext (.t 39) 0⟩,
 ⟨some 53, none, .ext (.t 39) 1⟩,
 ⟨some 10, none, .al (.agg [.sc (.string ⟨#[]⟩), .sc (.string ⟨#[]⟩), .sc (.int .i64 0), .sc (.string ⟨#[]⟩), .sc (.int .i64 0), .sc (.int .i64 0), .sc (.slice none 0 0), .sc (.int .i64 0), .sc (.int .i64 0), .sc (.bool false), .sc (.bool false)]) 11⟩,
 ⟨none, none, .st 11 (.t 10) (.t 52)⟩,
 ⟨some 11, none, .mv (.t 53)⟩])
 (.seq (.seq (.reg [⟨some 54, none, .mv (.t 9)⟩,
 ⟨some 55, none, .bin .neq false (.t 54) (.k (.sc (.int .i64 0))) (pu (.binOp .neq 30 (.tmp 54) (.const (.int .i64 0)) 30) 4)⟩,
 ⟨some 56, none, .mv (.t 55)⟩,
 ⟨some 57, (some ((some 56), false)), .mv (.t 11)⟩,
 ⟨some 58, (some ((some 56), false)), .bin .neq false (.t 57) (.k (.sc (.int .i64 0))) (pu (.binOp .neq 30 (.tmp 57) (.const (.int .i64 0)) 30) 4)⟩,
 ⟨some 59, none, .pick (.t 56) (.k (.sc (.bool true))) (.t 58)⟩])
 (.cond (.t 59) (.seq (.reg [⟨some 6, none, .mv (.k (.sc (.bool true)))⟩])
 .ret)
 .skip))
 (.seq (.seq (.reg [⟨some 12, none, .mv (.k (.sc (.int .i64 1)))⟩])
 (.block 0 (.loop (.seq (.seq (.reg [⟨some 60, none, .mv (.t 12)⟩,
 ⟨some 61, none, .sh 6 (.t 8)⟩,
 ⟨some 62, none, .ld none (.t 61)⟩,
 ⟨some 63, none, .len (.t 62) (pu (.call ⟨.builtin .len, #[(.tmp 62)], #[25]⟩) 3)⟩,
 ⟨some 64, none, .bin .lss false (.t 60) (.t 63) (pu (.binOp .lss 3 (.tmp 60) (.tmp 63) 3) 4)⟩])
 (.cond (.t 64) .skip
 (.exit 0)))
 (.seq (.block 1 (.seq (.drw [0, 1, 0, 7, 15, 31, 0, 64, 0, 256, 960, 1984, 4032, 8191] [⟨some 67, none, .sh 6 (.t 8)⟩,
 ⟨some 68, none, .ld none (.t 67)⟩,
 ⟨some 69, none, .mv (.t 12)⟩,
 ⟨some 70, none, .ixs 2 (.t 68) (.t 69)⟩,
 ⟨some 71, none, .sh 1 (.t 70)⟩,
 ⟨some 72, none, .ld none (.t 71)⟩,
 ⟨some 73, none, .sh 6 (.t 8)⟩,
 ⟨some 74, none, .ld none (.t 73)⟩,
 ⟨some 75, none, .mv (.t 12)⟩,
 ⟨some 76, none, .bin .sub false (.t 75) (.k (.sc (.int .i64 1))) (pu (.binOp .sub 3 (.tmp 75) (.const (.int .i64 1)) 3) 3)⟩,
 ⟨some 77, none, .ixs 2 (.t 74) (.t 76)⟩,
 ⟨some 78, none, .sh 1 (.t 77)⟩,
 ⟨some 79, none, .ld none (.t 78)⟩,
 ⟨some 80, none, .bin .lss false (.t 72) (.t 79) (pu (.binOp .lss 3 (.tmp 72) (.tmp 79) 3) 4)⟩])
 (.cond (.t 80) (.seq (.reg [⟨some 6, none, .mv (.k (.sc (.bool true)))⟩])
 .ret)
 .skip)))
 (.reg [⟨some 65, none, .mv (.t 12)⟩,
 ⟨some 66, none, .bin .add false (.t 65) (.k (.sc (.int .i64 1))) (pu (.binOp .add 3 (.tmp 65) (.const (.int .i64 1)) 3) 3)⟩,
 ⟨some 12, none, .mv (.t 66)⟩]))))))
 (.seq (.reg [⟨some 81, none, .sh 7 (.t 8)⟩,
 ⟨some 82, none, .ld none (.t 81)⟩,
 ⟨some 83, none, .sh 7 (.t 10)⟩,
 ⟨some 84, none, .ld none (.t 83)⟩,
 ⟨some 85, none, .bin .eql false (.t 82) (.t 84) (pu (.binOp .eql 3 (.tmp 82) (.tmp 84) 3) 4)⟩,
 ⟨some 86, none, .mv (.t 85)⟩,
 ⟨some 87, (some ((some 86), true)), .sh 4 (.t 8)⟩,
 ⟨some 88, (some ((some 86), true)), .ld none (.t 87)⟩,
 ⟨some 89, (some ((some 86), true)), .sh 4 (.t 10)⟩,
 ⟨some 90, (some ((some 86), true)), .ld none (.t 89)⟩,
 ⟨some 91, (some ((some 86), true)), .bin .eql false (.t 88) (.t 90) (pu (.binOp .eql 3 (.tmp 88) (.tmp 90) 3) 4)⟩,
 ⟨some 92, none, .pick (.t 86) (.t 91) (.k (.sc (.bool false)))⟩,
 ⟨some 93, none, .mv (.t 92)⟩,
 ⟨some 94, (some ((some 93), true)), .sh 5 (.t 8)⟩,
 ⟨some 95, (some ((some 93), true)), .ld none (.t 94)⟩,
 ⟨some 96, (some ((some 93), true)), .sh 5 (.t 10)⟩,
 ⟨some 97, (some ((some 93), true)), .ld none (.t 96)⟩,
 ⟨some 98, (some ((some 93), true)), .bin .eql false (.t 95) (.t 97) (pu (.binOp .eql 3 (.tmp 95) (.tmp 97) 3) 4)⟩,
 ⟨some 99, none, .pick (.t 93) (.t 98) (.k (.sc (.bool false)))⟩,
 ⟨some 100, none, .mv (.t 99)⟩,
 ⟨some 101, (some ((some 100), true)), .sh 8 (.t 8)⟩,
 ⟨some 102, (some ((some 100), true)), .ld none (.t 101)⟩,
 ⟨some 103, (some ((some 100), true)), .sh 8 (.t 10)⟩,
 ⟨some 104, (some ((some 100), true)), .ld none (.t 103)⟩,
 ⟨some 105, (some ((some 100), true)), .bin .eql false (.t 102) (.t 104) (pu (.binOp .eql 3 (.tmp 102) (.tmp 104) 3) 4)⟩,
 ⟨some 106, none, .pick (.t 100) (.t 105) (.k (.sc (.bool false)))⟩,
 ⟨some 107, none, .mv (.t 106)⟩,
 ⟨some 108, (some ((some 107), true)), .sh 3 (.t 8)⟩,
 ⟨some 109, (some ((some 107), true)), .ld none (.t 108)⟩,
 ⟨some 110, (some ((some 107), true)), .sh 3 (.t 10)⟩,
 ⟨some 111, (some ((some 107), true)), .ld none (.t 110)⟩,
 ⟨some 112, (some ((some 107), true)), .bin .eql false (.t 109) (.t 111) (pu (.binOp .eql 9 (.tmp 109) (.tmp 111) 9) 4)⟩,
 ⟨some 113, none, .pick (.t 107) (.t 112) (.k (.sc (.bool false)))⟩,
 ⟨some 114, none, .mv (.t 113)⟩,
 ⟨some 115, (some ((some 114), true)), .call 8 []⟩,
 ⟨some 116, none, .pick (.t 114) (.t 115) (.k (.sc (.bool false)))⟩,
 ⟨some 6, none, .mv (.t 116)⟩])
 .ret)))))))))
def k3 : List Nat := [0, 1, 2, 6, 7, 8, 9, 10, 11, 12, 20, 32, 59, 64, 80]
def c4 : IC :=
 (.seq (.reg [⟨some 6, none, .mv (.k (.sc (.bool false)))⟩])
 (.seq (.seq (.reg [⟨some 17, none, .mv (.t 0)⟩,
 ⟨some 18, none, .call 7 [(.t 17)]⟩,
 ⟨some 19, none, .un .not (.t 18) (pu (.unOp .not 4 (.tmp 18)) 4)⟩,
 ⟨some 20, none, .mv (.t 19)⟩,
 ⟨some 21, (some ((some 20), false)), .mv (.t 0)⟩,
 ⟨some 22, (some ((some 20), false)), .len (.t 21) (pu (.call ⟨.builtin .len, #[(.tmp 21)], #[22]⟩) 3)⟩,
 ⟨some 23, (some ((some 20), false)), .bin .eql false (.t 22) (.k (.sc (.int .i64 0))) (pu (.binOp .eql 3 (.tmp 22) (.const (.int .i64 0)) 3) 4)⟩,
 ⟨some 24, none, .pick (.t 20) (.k (.sc (.bool true))) (.t 23)⟩])
 (.cond (.t 24) (.seq (.reg [⟨some 25, none, .call 8 []⟩,
 ⟨some 6, none, .mv (.t 25)⟩])
 .ret)
 .skip))
 (.seq (.seq (.reg [⟨some 26, none, .mv (.t 0)⟩,
 ⟨some 27, none, .len (.t 26) (pu (.call ⟨.builtin .len, #[(.tmp 26)], #[22]⟩) 3)⟩,
 ⟨some 28, none, .mv (.k (.sc (.int .i64 0)))⟩])
 (.block 0 (.loop (.seq (.reg [⟨some 29, none, .bin .lss false (.t 28) (.t 27) (pu (.binOp .lss 3 (.tmp 28) (.tmp 27) 3) 0)⟩])
 (.seq (.cond (.t 29) .skip
 (.exit 0))
 (.seq (.block 1 (.seq (.reg [⟨some 30, none, .ixs 10 (.t 26) (.t 28)⟩,
 ⟨some 31, none, .ld (some 10) (.t 30)⟩,
 ⟨some 8, none, .al (.agg [.sc (.string ⟨#[]⟩), .sc (.string ⟨#[]⟩), .sc (.int .i64 0), .sc (.int .i64 0), .sc (.int .i64 0), .sc (.int .i64 0), .sc (.string ⟨#[]⟩), .sc (.bool false), .sc (.int .i64 0), .sc (.slice none 0 0)]) 10⟩,
 ⟨none, none, .st 10 (.t 8) (.t 31)⟩])
 (.seq (.reg [⟨some 32, none, .ld (some 10) (.t 8)⟩,
 ⟨some 33, none, .call 10 [(.t 32)]⟩,
 ⟨some 34, none, .bin .neq false (.t 33) (.k (.sc (.int .i64 0))) (pu (.binOp .neq 30 (.tmp 33) (.const (.int .i64 0)) 30) 4)⟩])
 (.cond (.t 34) (.seq (.reg [⟨some 6, none, .mv (.k (.sc (.bool true)))⟩])
 .ret)
 .skip))))
 (.reg [⟨some 35, none, .bin .add false (.t 28) (.k (.sc (.int .i64 1))) (pu (.binOp .add 3 (.tmp 28) (.const (.int .i64 1)) 3) 3)⟩,
 ⟨some 28, none, .mv (.t 35)⟩])))))))
 (.seq (.reg [⟨some 37, none, .mv (.t 0)⟩,
 ⟨some 38, none, .mv (.t 1)⟩,
 ⟨some 39, none, .call 9 [(.t 37), (.t 38)]⟩,
 ⟨some 36, none, .mv (.t 39)⟩,
 ⟨some 40, none, .ext (.t 36) 0⟩,
 ⟨some 41, none, .ext (.t 36) 1⟩,
 ⟨some 9, none, .al (.agg [.sc (.string ⟨#[]⟩), .sc (.string ⟨#[]⟩), .sc (.int .i64 0), .sc (.string ⟨#[]⟩), .sc (.int .i64 0), .sc (.int .i64 0), .sc (.slice none 0 0), .sc (.int .i64 0), .sc (.int .i64 0), .sc (.bool false), .sc (.bool false)]) 11⟩,
 ⟨none, none, .st 11 (.t 9) (.t 40)⟩,
 ⟨some 10, none, .mv (.t 41)⟩])
 (.seq (.reg [⟨some 42, none, .mv (.t 2)⟩,
 ⟨some 43, none, .pur (pu (.convert 5 3 (.tmp 42)) 3)⟩,
 ⟨some 44, none, .mv (.t 0)⟩,
 ⟨some 45, none, .len (.t 44) (pu (.call ⟨.builtin .len, #[(.tmp 44)], #[22]⟩) 3)⟩,
 ⟨some 46, none, .bin .rem false (.t 43) (.t 45) (pu (.binOp .rem 3 (.tmp 43) (.tmp 45) 3) 3)⟩,
 ⟨some 11, none, .mv (.t 46)⟩])
 (.seq (.drw [0, 0, 0, 6, 15, 0, 0, 96, 255, 0, 0, 1536, 3584, 7680, 16383, 32767] [⟨some 47, none, .bsl 10 0 true [] []⟩,
 ⟨some 48, none, .mv (.t 0)⟩,
 ⟨some 49, none, .mv (.t 11)⟩,
 ⟨some 50, none, .sl 10 (.t 48) (some (.t 49)) none none (pu (.slice 22 (.tmp 48) (some (.tmp 49)) none none) 22)⟩,
 ⟨some 51, none, .app 10 120 (.t 47) (.t 50)⟩,
 ⟨some 52, none, .mv (.t 0)⟩,
 ⟨some 53, none, .mv (.t 11)⟩,
 ⟨some 54, none, .sl 10 (.t 52) none (some (.t 53)) none (pu (.slice 22 (.tmp 52) none (some (.tmp 53)) none) 22)⟩,
 ⟨some 55, none, .app 10 120 (.t 51) (.t 54)⟩,
 ⟨some 56, none, .mv (.t 0)⟩,
 ⟨some 57, none, .mv (.t 11)⟩,
 ⟨some 58, none, .ixs 10 (.t 56) (.t 57)⟩,
 ⟨some 59, none, .ld (some 10) (.t 58)⟩,
 ⟨some 60, none, .bsl 10 1 true [.sc (.string ⟨#[]⟩), .sc (.string ⟨#[]⟩), .sc (.int .i64 0), .sc (.int .i64 0), .sc (.int .i64 0), .sc (.int .i64 0), .sc (.string ⟨#[]⟩), .sc (.bool false), .sc (.int .i64 0), .sc (.slice none 0 0)] [(0, 10, (.t 59))]⟩,
 ⟨some 61, none, .app 10 120 (.t 55) (.t 60)⟩,
 ⟨some 12, none, .mv (.t 61)⟩])
 (.seq (.seq (.reg [⟨some 62, none, .mv (.t 12)⟩,
 ⟨some 63, none, .len (.t 62) (pu (.call ⟨.builtin .len, #[(.tmp 62)], #[22]⟩) 3)⟩,
 ⟨some 64, none, .bin .sub false (.t 63) (.k (.sc (.int .i64 1))) (pu (.binOp .sub 3 (.tmp 63) (.const (.int .i64 1)) 3) 3)⟩,
 ⟨some 13, none, .mv (.k (.sc (.int .i64 0)))⟩,
 ⟨some 14, none, .mv (.t 64)⟩])
 (.block 2 (.loop (.seq (.seq (.reg [⟨some 65, none, .mv (.t 13)⟩,
 ⟨some 66, none, .mv (.t 14)⟩,
 ⟨some 67, none, .bin .lss false (.t 65) (.t 66) (pu (.binOp .lss 3 (.tmp 65) (.tmp 66) 3) 4)⟩])
 (.cond (.t 67) .skip
 (.exit 2)))
 (.seq (.block 3 (.drw [0, 0, 0, 0, 0, 0, 48, 112, 0, 0, 768, 1792, 4083, 8179, 16383, 32767] [⟨some 72, none, .mv (.t 12)⟩,
 ⟨some 73, none, .mv (.t 13)⟩,
 ⟨some 74, none, .mv (.t 12)⟩,
 ⟨some 75, none, .mv (.t 14)⟩,
 ⟨some 76, none, .mv (.t 12)⟩,
 ⟨some 77, none, .mv (.t 14)⟩,
 ⟨some 78, none, .ixs 10 (.t 76) (.t 77)⟩,
 ⟨some 79, none, .ld (some 10) (.t 78)⟩,
 ⟨some 80, none, .mv (.t 12)⟩,
 ⟨some 81, none, .mv (.t 13)⟩,
 ⟨some 82, none, .ixs 10 (.t 80) (.t 81)⟩,
 ⟨some 83, none, .ld (some 10) (.t 82)⟩,
 ⟨some 84, none, .ixs 10 (.t 72) (.t 73)⟩,
 ⟨none, none, .st 10 (.t 84) (.t 79)⟩,
 ⟨some 85, none, .ixs 10 (.t 74) (.t 75)⟩,
 ⟨none, none, .st 10 (.t 85) (.t 83)⟩]))
 (.reg [⟨some 68, none, .mv (.t 13)⟩,
 ⟨some 69, none, .bin .add false (.t 68) (.k (.sc (.int .i64 1))) (pu (.binOp .add 3 (.tmp 68) (.const (.int .i64 1)) 3) 3)⟩,
 ⟨some 70, none, .mv (.t 14)⟩,
 ⟨some 71, none, .bin .sub false (.t 70) (.k (.sc (.int .i64 1))) (pu (.binOp .sub 3 (.tmp 70) (.const (.int .i64 1)) 3) 3)⟩,
 ⟨some 13, none, .mv (.t 69)⟩,
 ⟨some 14, none, .mv (.t 71)⟩]))))))
 (.seq (.reg [⟨some 87, none, .mv (.t 12)⟩,
 ⟨some 88, none, .mv (.t 1)⟩,
 ⟨some 89, none, .call 9 [(.t 87), (.t 88)]⟩,
 ⟨some 86, none, .mv (.t 89)⟩,
 ⟨some 90, none, .ext (.t 86) 0⟩,
 ⟨some 91, none, .ext (.t 86) 1⟩,
 ⟨some 15, none, .al (.agg [.sc (.string ⟨#[]⟩), .sc (.string ⟨#[]⟩), .sc (.int .i64 0), .sc (.string ⟨#[]⟩), .sc (.int .i64 0), .sc (.int .i64 0), .sc (.slice none 0 0), .sc (.int .i64 0), .sc (.int .i64 0), .sc (.bool false), .sc (.bool false)]) 11⟩,
 ⟨none, none, .st 11 (.t 15) (.t 90)⟩,
 ⟨some 16, none, .mv (.t 91)⟩])
 (.seq (.reg [⟨some 92, none, .mv (.t 10)⟩,
 ⟨some 93, none, .bin .eql false (.t 92) (.k (.sc (.int .i64 0))) (pu (.binOp .eql 30 (.tmp 92) (.const (.int .i64 0)) 30) 4)⟩,
 ⟨some 94, none, .mv (.t 16)⟩,
 ⟨some 95, none, .bin .eql false (.t 94) (.k (.sc (.int .i64 0))) (pu (.binOp .eql 30 (.tmp 94) (.const (.int .i64 0)) 30) 4)⟩,
 ⟨some 96, none, .bin .eql true (.t 93) (.t 95) (pu (.binOp .eql 4 (.tmp 93) (.tmp 95) 4) 4)⟩,
 ⟨some 97, none, .mv (.t 96)⟩,
 ⟨some 98, (some ((some 97), true)), .mv (.t 10)⟩,
 ⟨some 99, (some ((some 97), true)), .bin .neq false (.t 98) (.k (.sc (.int .i64 0))) (pu (.binOp .neq 30 (.tmp 98) (.const (.int .i64 0)) 30) 4)⟩,
 ⟨some 100, (some ((some 97), true)), .mv (.t 99)⟩,
 ⟨some 101, (some ((some 100), false)), .ld (some 11) (.t 9)⟩,
 ⟨some 102, (some ((some 100), false)), .ld (some 11) (.t 15)⟩,
 ⟨some 103, (some ((some 100), false)), .call 11 [(.t 101), (.t 102)]⟩,
 ⟨some 104, (some ((some 100), false)), .mv (.t 103)⟩,
 ⟨some 105, (some ((some 104), true)), .sh 9 (.t 9)⟩,
 ⟨some 106, (some ((some 104), true)), .ld none (.t 105)⟩,
 ⟨some 107, (some ((some 104), true)), .sh 9 (.t 15)⟩,
 ⟨some 108, (some ((some 104), true)), .ld none (.t 107)⟩,
 ⟨some 109, (some ((some 104), true)), .bin .eql true (.t 106) (.t 108) (pu (.binOp .eql 4 (.tmp 106) (.tmp 108) 4) 4)⟩,
 ⟨some 110, (some ((some 100), false)), .pick (.t 104) (.t 109) (.k (.sc (.bool false)))⟩,
 ⟨some 111, (some ((some 97), true)), .pick (.t 100) (.k (.sc (.bool true))) (.t 110)⟩,
 ⟨some 112, none, .pick (.t 97) (.t 111) (.k (.sc (.bool false)))⟩,
 ⟨some 6, none, .mv (.t 112)⟩])
 .ret)))))))))
def k4 : List Nat := [0, 1, 2, 6, 8, 9, 10, 11, 12, 13, 14, 15, 16, 24, 26, 27, 28, 29, 34, 67]
def c5 : IC :=
 (.seq (.reg [⟨some 6, none, .mv (.k (.sc (.bool false)))⟩])
 (.seq (.seq (.reg [⟨some 17, none, .mv (.t 0)⟩,
 ⟨some 18, none, .call 7 [(.t 17)]⟩,
 ⟨some 19, none, .un .not (.t 18) (pu (.unOp .not 4 (.tmp 18)) 4)⟩])
 (.cond (.t 19) (.seq (.reg [⟨some 20, none, .call 8 []⟩,
 ⟨some 6, none, .mv (.t 20)⟩])
 .ret)
 .skip))
 (.seq (.reg [⟨some 7, none, .mv (.k (.sc (.slice none 0 0)))⟩])
 (.seq (.seq (.reg [⟨some 21, none, .mv (.t 0)⟩,
 ⟨some 22, none, .len (.t 21) (pu (.call ⟨.builtin .len, #[(.tmp 21)], #[22]⟩) 3)⟩,
 ⟨some 23, none, .mv (.k (.sc (.int .i64 0)))⟩])
 (.block 0 (.loop (.seq (.reg [⟨some 24, none, .bin .lss false (.t 23) (.t 22) (pu (.binOp .lss 3 (.tmp 23) (.tmp 22) 3) 0)⟩])
 (.seq (.cond (.t 24) .skip
 (.exit 0))
 (.seq (.block 1 (.seq (.reg [⟨some 25, none, .ixs 10 (.t 21) (.t 23)⟩,
 ⟨some 26, none, .ld (some 10) (.t 25)⟩,
 ⟨some 9, none, .al (.agg [.sc (.string ⟨#[]⟩), .sc (.string ⟨#[]⟩), .sc (.int .i64 0), .sc (.int .i64 0), .sc (.int .i64 0), .sc (.int .i64 0), .sc (.string ⟨#[]⟩), .sc (.bool false), .sc (.int .i64 0), .sc (.slice none 0 0)]) 10⟩,
 ⟨none, none, .st 10 (.t 9) (.t 26)⟩])
 (.seq (.reg [⟨some 27, none, .mv (.t 2)⟩,
 ⟨some 28, none, .sh 7 (.t 9)⟩,
 ⟨none, none, .st 1 (.t 28) (.t 27)⟩])
 (.reg [⟨some 29, none, .mv (.t 7)⟩,
 ⟨some 30, none, .ld (some 10) (.t 9)⟩,
 ⟨some 31, none, .bsl 10 1 true [.sc (.string ⟨#[]⟩), .sc (.string ⟨#[]⟩), .sc (.int .i64 0), .sc (.int .i64 0), .sc (.int .i64 0), .sc (.int .i64 0), .sc (.string ⟨#[]⟩), .sc (.bool false), .sc (.int .i64 0), .sc (.slice none 0 0)] [(0, 10, (.t 30))]⟩,
 ⟨some 32, none, .app 10 120 (.t 29) (.t 31)⟩,
 ⟨some 7, none, .mv (.t 32)⟩]))))
 (.reg [⟨some 33, none, .bin .add false (.t 23) (.k (.sc (.int .i64 1))) (pu (.binOp .add 3 (.tmp 23) (.const (.int .i64 1)) 3) 3)⟩,
 ⟨some 23, none, .mv (.t 33)⟩])))))))
 (.seq (.reg [⟨some 10, none, .mv (.k (.sc (.slice none 0 0)))⟩])
 (.seq (.seq (.reg [⟨some 34, none, .mv (.t 0)⟩,
 ⟨some 35, none, .len (.t 34) (pu (.call ⟨.builtin .len, #[(.tmp 34)], #[22]⟩) 3)⟩,
 ⟨some 36, none, .mv (.k (.sc (.int .i64 0)))⟩])
 (.block 2 (.loop (.seq (.reg [⟨some 37, none, .bin .lss false (.t 36) (.t 35) (pu (.binOp .lss 3 (.tmp 36) (.tmp 35) 3) 0)⟩])
 (.seq (.cond (.t 37) .skip
 (.exit 2))
 (.seq (.block 3 (.seq (.reg [⟨some 38, none, .ixs 10 (.t 34) (.t 36)⟩,
 ⟨some 39, none, .ld (some 10) (.t 38)⟩,
 ⟨some 12, none, .al (.agg [.sc (.string ⟨#[]⟩), .sc (.string ⟨#[]⟩), .sc (.int .i64 0), .sc (.int .i64 0), .sc (.int .i64 0), .sc (.int .i64 0), .sc (.string ⟨#[]⟩), .sc (.bool false), .sc (.int .i64 0), .sc (.slice none 0 0)]) 10⟩,
 ⟨none, none, .st 10 (.t 12) (.t 39)⟩])
 (.seq (.reg [⟨some 40, none, .sh 7 (.t 12)⟩,
 ⟨none, none, .st 1 (.t 40) (.k (.sc (.bool false)))⟩])
 (.reg [⟨some 41, none, .mv (.t 10)⟩,
 ⟨some 42, none, .ld (some 10) (.t 12)⟩,
 ⟨some 43, none, .bsl 10 1 true [.sc (.string ⟨#[]⟩), .sc (.string ⟨#[]⟩), .sc (.int .i64 0), .sc (.int .i64 0), .sc (.int .i64 0), .sc (.int .i64 0), .sc (.string ⟨#[]⟩), .sc (.bool false), .sc (.int .i64 0), .sc (.slice none 0 0)] [(0, 10, (.t 42))]⟩,
 ⟨some 44, none, .app 10 120 (.t 41) (.t 43)⟩,
 ⟨some 10, none, .mv (.t 44)⟩]))))
 (.reg [⟨some 45, none, .bin .add false (.t 36) (.k (.sc (.int .i64 1))) (pu (.binOp .add 3 (.tmp 36) (.const (.int .i64 1)) 3) 3)⟩,
 ⟨some 36, none, .mv (.t 45)⟩])))))))
 (.seq (.reg [⟨some 47, none, .mv (.t 10)⟩,
 ⟨some 48, none, .mv (.t 1)⟩,
 ⟨some 49, none, .call 9 [(.t 47), (.t 48)]⟩,
 ⟨some 46, none, .mv (.t 49)⟩,
 ⟨some 50, none, .ext (.t 46) 0⟩,
 ⟨some 51, none, .ext (.t 46) 1⟩,
 ⟨some 13, none, .al (.agg [.sc (.string ⟨#[]⟩), .sc (.string ⟨#[]⟩), .sc (.int .i64 0), .sc (.string ⟨#[]⟩), .sc (.int .i64 0), .sc (.int .i64 0), .sc (.slice none 0 0), .sc (.int .i64 0), .sc (.int .i64 0), .sc (.bool false), .sc (.bool false)]) 11⟩,
 ⟨none, none, .st 11 (.t 13) (.t 50)⟩,
 ⟨some 14, none, .mv (.t 51)⟩])
 (.seq (.reg [⟨some 53, none, .mv (.t 7)⟩,
 ⟨some 54, none, .mv (.t 1)⟩,
 ⟨some 55, none, .call 9 [(.t 53), (.t 54)]⟩,
 ⟨some 52, none, .mv (.t 55)⟩,
 ⟨some 56, none, .ext (.t 52) 0⟩,
 ⟨some 57, none, .ext (.t 52) 1⟩,
 ⟨some 15, none, .al (.agg [.sc (.string ⟨#[]⟩), .sc (.string ⟨#[]⟩), .sc (.int .i64 0), .sc (.string ⟨#[]⟩), .sc (.int .i64 0), .sc (.int .i64 0), .sc (.slice none 0 0), .sc (.int .i64 0), .sc (.int .i64 0), .sc (.bool false), .sc (.bool false)]) 11⟩,
 ⟨none, none, .st 11 (.t 15) (.t 56)⟩,
 ⟨some 16, none, .mv (.t 57)⟩])
 (.seq (.reg [⟨some 58, none, .mv (.t 14)⟩,
 ⟨some 59, none, .mv (.t 16)⟩,
 ⟨some 60, none, .bin .eql false (.t 58) (.t 59) (pu (.binOp .eql 30 (.tmp 58) (.tmp 59) 30) 4)⟩,
 ⟨some 61, none, .mv (.t 60)⟩,
 ⟨some 62, (some ((some 61), true)), .ld (some 11) (.t 13)⟩,
 ⟨some 63, (some ((some 61), true)), .ld (some 11) (.t 15)⟩,
 ⟨some 64, (some ((some 61), true)), .call 11 [(.t 62), (.t 63)]⟩,
 ⟨some 65, none, .pick (.t 61) (.t 64) (.k (.sc (.bool false)))⟩,
 ⟨some 66, none, .mv (.t 65)⟩,
 ⟨some 67, (some ((some 66), true)), .mv (.t 14)⟩,
 ⟨some 68, (some ((some 66), true)), .bin .neq false (.t 67) (.k (.sc (.int .i64 0))) (pu (.binOp .neq 30 (.tmp 67) (.const (.int .i64 0)) 30) 4)⟩,
 ⟨some 69, (some ((some 66), true)), .mv (.t 68)⟩,
 ⟨some 70, (some ((some 69), false)), .sh 9 (.t 15)⟩,
 ⟨some 71, (some ((some 69), false)), .ld none (.t 70)⟩,
 ⟨some 72, (some ((some 69), false)), .mv (.t 2)⟩,
 ⟨some 73, (some ((some 69), false)), .bin .eql true (.t 71) (.t 72) (pu (.binOp .eql 4 (.tmp 71) (.tmp 72) 4) 4)⟩,
 ⟨some 74, (some ((some 69), false)), .mv (.t 73)⟩,
 ⟨some 75, (some ((some 74), true)), .sh 9 (.t 13)⟩,
 ⟨some 76, (some ((some 74), true)), .ld none (.t 75)⟩,
 ⟨some 77, (some ((some 74), true)), .un .not (.t 76) (pu (.unOp .not 4 (.tmp 76)) 4)⟩,
 ⟨some 78, (some ((some 69), false)), .pick (.t 74) (.t 77) (.k (.sc (.bool false)))⟩,
 ⟨some 79, (some ((some 66), true)), .pick (.t 69) (.k (.sc (.bool true))) (.t 78)⟩,
 ⟨some 80, none, .pick (.t 66) (.t 79) (.k (.sc (.bool false)))⟩,
 ⟨some 6, none, .mv (.t 80)⟩])
 .ret)))))))))
def k5 : List Nat := [0, 1, 2, 6, 7, 9, 10, 12, 13, 14, 15, 16, 19, 21, 22, 23, 24, 34, 35, 36, 37]
def c6 : IC :=
 (.seq (.reg [⟨some 4, none, .mv (.k (.sc (.bool false)))⟩])
 (.seq (.seq (.reg [⟨some 13, none, .mv (.t 0)⟩,
 ⟨some 14, none, .call 7 [(.t 13)]⟩,
 ⟨some 15, none, .un .not (.t 14) (pu (.unOp .not 4 (.tmp 14)) 4)⟩])
 (.cond (.t 15) (.seq (.reg [⟨some 16, none, .call 8 []⟩,
 ⟨some 4, none, .mv (.t 16)⟩])
 .ret)
 .skip))
 (.seq (.reg [⟨some 5, none, .mv (.k (.sc (.slice none 0 0)))⟩])
 (.seq (.seq (.reg [⟨some 17, none, .mv (.t 0)⟩,
 ⟨some 18, none, .len (.t 17) (pu (.call ⟨.builtin .len, #[(.tmp 17)], #[22]⟩) 3)⟩,
 ⟨some 19, none, .mv (.k (.sc (.int .i64 0)))⟩])
 (.block 0 (.loop (.seq (.reg [⟨some 20, none, .bin .lss false (.t 19) (.t 18) (pu (.binOp .lss 3 (.tmp 19) (.tmp 18) 3) 0)⟩])
 (.seq (.cond (.t 20) .skip
 (.exit 0))
 (.seq (.block 1 (.seq (.reg [⟨some 21, none, .ixs 10 (.t 17) (.t 19)⟩,
 ⟨some 22, none, .ld (some 10) (.t 21)⟩,
 ⟨some 7, none, .al (.agg [.sc (.string ⟨#[]⟩), .sc (.string ⟨#[]⟩), .sc (.int .i64 0), .sc (.int .i64 0), .sc (.int .i64 0), .sc (.int .i64 0), .sc (.string ⟨#[]⟩), .sc (.bool false), .sc (.int .i64 0), .sc (.slice none 0 0)]) 10⟩,
 ⟨none, none, .st 10 (.t 7) (.t 22)⟩])
 (.seq (.reg [⟨some 24, none, .mv (.t 5)⟩,
 ⟨some 25, none, .ld (some 10) (.t 7)⟩,
 ⟨some 26, none, .call 12 [(.t 24), (.t 25)]⟩,
 ⟨some 23, none, .mv (.t 26)⟩,
 ⟨some 27, none, .ext (.t 23) 0⟩,
 ⟨some 28, none, .ext (.t 23) 1⟩,
 ⟨some 8, none, .mv (.t 27)⟩,
 ⟨some 9, none, .mv (.t 28)⟩])
 (.seq (.reg [⟨some 29, none, .mv (.t 9)⟩,
 ⟨some 30, none, .bin .eql false (.t 29) (.k (.sc (.int .i64 0))) (pu (.binOp .eql 30 (.tmp 29) (.const (.int .i64 0)) 30) 4)⟩])
 (.cond (.t 30) (.reg [⟨some 31, none, .mv (.t 8)⟩,
 ⟨some 5, none, .mv (.t 31)⟩])
 .skip)))))
 (.reg [⟨some 32, none, .bin .add false (.t 19) (.k (.sc (.int .i64 1))) (pu (.binOp .add 3 (.tmp 19) (.const (.int .i64 1)) 3) 3)⟩,
 ⟨some 19, none, .mv (.t 32)⟩])))))))
 (.seq (.reg [⟨some 33, none, .mv (.t 5)⟩,
 ⟨some 34, none, .mv (.t 1)⟩,
 ⟨some 35, none, .call 13 [(.t 33), (.t 34)]⟩,
 ⟨some 36, none, .mv (.t 5)⟩,
 ⟨some 37, none, .mv (.t 1)⟩,
 ⟨some 38, none, .call 14 [(.t 36), (.t 37)]⟩,
 ⟨some 10, none, .mv (.t 35)⟩,
 ⟨some 11, none, .mv (.t 38)⟩])
 (.seq (.seq (.reg [⟨some 39, none, .mv (.t 10)⟩,
 ⟨some 40, none, .len (.t 39) (pu (.call ⟨.builtin .len, #[(.tmp 39)], #[41]⟩) 3)⟩,
 ⟨some 41, none, .mv (.t 11)⟩,
 ⟨some 42, none, .len (.t 41) (pu (.call ⟨.builtin .len, #[(.tmp 41)], #[41]⟩) 3)⟩,
 ⟨some 43, none, .bin .neq false (.t 40) (.t 42) (pu (.binOp .neq 3 (.tmp 40) (.tmp 42) 3) 4)⟩])
 (.cond (.t 43) (.seq (.reg [⟨some 4, none, .mv (.k (.sc (.bool false)))⟩])
 .ret)
 .skip))
 (.seq (.seq (.reg [⟨some 44, none, .mv (.t 10)⟩,
 ⟨some 45, none, .len (.t 44) (pu (.call ⟨.builtin .len, #[(.tmp 44)], #[41]⟩) 3)⟩,
 ⟨some 46, none, .mv (.k (.sc (.int .i64 0)))⟩])
 (.block 2 (.loop (.seq (.reg [⟨some 47, none, .bin .lss false (.t 46) (.t 45) (pu (.binOp .lss 3 (.tmp 46) (.tmp 45) 3) 0)⟩])
 (.seq (.cond (.t 47) .skip
 (.exit 2))
 (.seq (.block 3 (.seq (.reg [⟨some 48, none, .mv (.t 46)⟩,
 ⟨some 12, none, .mv (.t 48)⟩])
 (.seq (.drw [0, 0, 3, 7, 0, 0, 48, 112, 255, 511] [⟨some 49, none, .mv (.t 10)⟩,
 ⟨some 50, none, .mv (.t 12)⟩,
 ⟨some 51, none, .ixs 11 (.t 49) (.t 50)⟩,
 ⟨some 52, none, .ld (some 11) (.t 51)⟩,
 ⟨some 53, none, .mv (.t 11)⟩,
 ⟨some 54, none, .mv (.t 12)⟩,
 ⟨some 55, none, .ixs 11 (.t 53) (.t 54)⟩,
 ⟨some 56, none, .ld (some 11) (.t 55)⟩,
 ⟨some 57, none, .call 15 [(.t 52), (.t 56)]⟩,
 ⟨some 58, none, .un .not (.t 57) (pu (.unOp .not 4 (.tmp 57)) 4)⟩])
 (.cond (.t 58) (.seq (.reg [⟨some 4, none, .mv (.k (.sc (.bool false)))⟩])
 .ret)
 .skip))))
 (.reg [⟨some 59, none, .bin .add false (.t 46) (.k (.sc (.int .i64 1))) (pu (.binOp .add 3 (.tmp 46) (.const (.int .i64 1)) 3) 3)⟩,
 ⟨some 46, none, .mv (.t 59)⟩])))))))
 (.seq (.reg [⟨some 4, none, .mv (.k (.sc (.bool true)))⟩])
 .ret))))))))
def k6 : List Nat := [0, 1, 4, 5, 7, 8, 9, 10, 11, 12, 15, 17, 18, 19, 20, 30, 43, 45, 46, 47, 58]
theorem ic6 : factsI Try.prog 6 = some (60, [.tmp 4], c6) := by kernel_rfl
def c7 : IC :=
 (.seq (.reg [⟨some 2, none, .mv (.k (.sc (.bool false)))⟩])
 (.seq (.seq (.reg [⟨some 5, none, .mv (.t 0)⟩,
 ⟨some 6, none, .len (.t 5) (pu (.call ⟨.builtin .len, #[(.tmp 5)], #[22]⟩) 3)⟩,
 ⟨some 7, none, .mv (.k (.sc (.int .i64 0)))⟩])
 (.block 0 (.loop (.seq (.reg [⟨some 8, none, .bin .lss false (.t 7) (.t 6) (pu (.binOp .lss 3 (.tmp 7) (.tmp 6) 3) 0)⟩])
 (.seq (.cond (.t 8) .skip
 (.exit 0))
 (.seq (.block 1 (.seq (.reg [⟨some 9, none, .ixs 10 (.t 5) (.t 7)⟩,
 ⟨some 10, none, .ld (some 10) (.t 9)⟩,
 ⟨some 4, none, .al (.agg [.sc (.string ⟨#[]⟩), .sc (.string ⟨#[]⟩), .sc (.int .i64 0), .sc (.int .i64 0), .sc (.int .i64 0), .sc (.int .i64 0), .sc (.string ⟨#[]⟩), .sc (.bool false), .sc (.int .i64 0), .sc (.slice none 0 0)]) 10⟩,
 ⟨none, none, .st 10 (.t 4) (.t 10)⟩])
 (.seq (.reg [⟨some 11, none, .sh 9 (.t 4)⟩,
 ⟨some 12, none, .ld none (.t 11)⟩,
 ⟨some 13, none, .len (.t 12) (pu (.call ⟨.builtin .len, #[(.tmp 12)], #[25]⟩) 3)⟩,
 ⟨some 14, none, .bin .gtr false (.t 13) (.k (.sc (.int .i64 16))) (pu (.binOp .gtr 3 (.tmp 13) (.const (.int .i64 16)) 3) 4)⟩])
 (.cond (.t 14) (.seq (.reg [⟨some 2, none, .mv (.k (.sc (.bool false)))⟩])
 .ret)
 .skip))))
 (.reg [⟨some 15, none, .bin .add false (.t 7) (.k (.sc (.int .i64 1))) (pu (.binOp .add 3 (.tmp 7) (.const (.int .i64 1)) 3) 3)⟩,
 ⟨some 7, none, .mv (.t 15)⟩])))))))
 (.seq (.reg [⟨some 16, none, .mv (.t 0)⟩,
 ⟨some 17, none, .len (.t 16) (pu (.call ⟨.builtin .len, #[(.tmp 16)], #[22]⟩) 3)⟩,
 ⟨some 18, none, .bin .leq false (.t 17) (.k (.sc (.int .i64 60))) (pu (.binOp .leq 3 (.tmp 17) (.const (.int .i64 60)) 3) 4)⟩,
 ⟨some 2, none, .mv (.t 18)⟩])
 .ret)))
def k7 : List Nat := [0, 2, 4, 5, 6, 7, 8, 14]
theorem ic7 : factsI Try.prog 7 = some (19, [.tmp 2], c7) := by kernel_rfl
def c8 : IC :=
 (.seq (.reg [⟨some 0, none, .mv (.k (.sc (.bool false)))⟩])
 (.seq (.reg [⟨some 7, none, .bld [.sc (.int .i64 0), .sc (.int .i64 0)] [(0, 1, (.k (.sc (.int .i64 10)))), (1, 1, (.k (.sc (.int .i64 100))))]⟩,
 ⟨some 8, none, .bsl 2 1 true [.sc (.int .i64 0), .sc (.int .i64 0)] [(0, 2, (.t 7))]⟩,
 ⟨some 9, none, .bld [.sc (.string ⟨#[]⟩), .sc (.string ⟨#[]⟩), .sc (.int .i64 0), .sc (.int .i64 0), .sc (.int .i64 0), .sc (.int .i64 0), .sc (.string ⟨#[]⟩), .sc (.bool false), .sc (.int .i64 0), .sc (.slice none 0 0)] [(0, 1, (.k (.sc (.string ⟨#[83]⟩)))), (1, 1, (.k (.sc (.string ⟨#[83, 45, 49]⟩)))), (2, 1, (.k (.sc (.int .i64 1)))), (4, 1, (.k (.sc (.int .i64 1)))), (5, 1, (.k (.sc (.int .i64 10)))), (6, 1, (.k (.sc (.string ⟨#[65]⟩)))), (9, 1, (.t 8))]⟩,
 ⟨some 1, none, .al (.agg [.sc (.string ⟨#[]⟩), .sc (.string ⟨#[]⟩), .sc (.int .i64 0), .sc (.int .i64 0), .sc (.int .i64 0), .sc (.int .i64 0), .sc (.string ⟨#[]⟩), .sc (.bool false), .sc (.int .i64 0), .sc (.slice none 0 0)]) 10⟩,
 ⟨none, none, .st 10 (.t 1) (.t 9)⟩])
 (.seq (.reg [⟨some 10, none, .bld [.sc (.int .i64 0), .sc (.int .i64 0)] [(0, 1, (.k (.sc (.int .i64 70)))), (1, 1, (.k (.sc (.int .i64 400))))]⟩,
 ⟨some 11, none, .bsl 2 1 true [.sc (.int .i64 0), .sc (.int .i64 0)] [(0, 2, (.t 10))]⟩,
 ⟨some 12, none, .bld [.sc (.string ⟨#[]⟩), .sc (.string ⟨#[]⟩), .sc (.int .i64 0), .sc (.int .i64 0), .sc (.int .i64 0), .sc (.int .i64 0), .sc (.string ⟨#[]⟩), .sc (.bool false), .sc (.int .i64 0), .sc (.slice none 0 0)] [(0, 1, (.k (.sc (.string ⟨#[83]⟩)))), (1, 1, (.k (.sc (.string ⟨#[83, 45, 49]⟩)))), (2, 1, (.k (.sc (.int .i64 1)))), (3, 1, (.k (.sc (.int .i64 1)))), (4, 1, (.k (.sc (.int .i64 3)))), (5, 1, (.k (.sc (.int .i64 70)))), (8, 1, (.k (.sc (.int .i64 1)))), (9, 1, (.t 11))]⟩,
 ⟨some 2, none, .al (.agg [.sc (.string ⟨#[]⟩), .sc (.string ⟨#[]⟩), .sc (.int .i64 0), .sc (.int .i64 0), .sc (.int .i64 0), .sc (.int .i64 0), .sc (.string ⟨#[]⟩), .sc (.bool false), .sc (.int .i64 0), .sc (.slice none 0 0)]) 10⟩,
 ⟨none, none, .st 10 (.t 2) (.t 12)⟩])
 (.seq (.reg [⟨some 14, none, .ld (some 10) (.t 2)⟩,
 ⟨some 15, none, .ld (some 10) (.t 1)⟩,
 ⟨some 16, none, .bsl 10 2 true [.sc (.string ⟨#[]⟩), .sc (.string ⟨#[]⟩), .sc (.int .i64 0), .sc (.int .i64 0), .sc (.int .i64 0), .sc (.int .i64 0), .sc (.string ⟨#[]⟩), .sc (.bool false), .sc (.int .i64 0), .sc (.slice none 0 0), .sc (.string ⟨#[]⟩), .sc (.string ⟨#[]⟩), .sc (.int .i64 0), .sc (.int .i64 0), .sc (.int .i64 0), .sc (.int .i64 0), .sc (.string ⟨#[]⟩), .sc (.bool false), .sc (.int .i64 0), .sc (.slice none 0 0)] [(0, 10, (.t 14)), (10, 10, (.t 15))]⟩,
 ⟨some 17, none, .call 9 [(.t 16), (.k (.sc (.int .i64 1000)))]⟩,
 ⟨some 13, none, .mv (.t 17)⟩,
 ⟨some 18, none, .ext (.t 13) 0⟩,
 ⟨some 19, none, .ext (.t 13) 1⟩,
 ⟨some 3, none, .al (.agg [.sc (.string ⟨#[]⟩), .sc (.string ⟨#[]⟩), .sc (.int .i64 0), .sc (.string ⟨#[]⟩), .sc (.int .i64 0), .sc (.int .i64 0), .sc (.slice none 0 0), .sc (.int .i64 0), .sc (.int .i64 0), .sc (.bool false), .sc (.bool false)]) 11⟩,
 ⟨none, none, .st 11 (.t 3) (.t 18)⟩,
 ⟨some 4, none, .mv (.t 19)⟩])
 (.seq (.reg [⟨some 21, none, .ld (some 10) (.t 1)⟩,
 ⟨some 22, none, .bsl 10 1 true [.sc (.string ⟨#[]⟩), .sc (.string ⟨#[]⟩), .sc (.int .i64 0), .sc (.int .i64 0), .sc (.int .i64 0), .sc (.int .i64 0), .sc (.string ⟨#[]⟩), .sc (.bool false), .sc (.int .i64 0), .sc (.slice none 0 0)] [(0, 10, (.t 21))]⟩,
 ⟨some 23, none, .call 9 [(.t 22), (.k (.sc (.int .i64 1000)))]⟩,
 ⟨some 20, none, .mv (.t 23)⟩,
 ⟨some 24, none, .ext (.t 20) 0⟩,
 ⟨some 25, none, .ext (.t 20) 1⟩,
 ⟨some 5, none, .al (.agg [.sc (.string ⟨#[]⟩), .sc (.string ⟨#[]⟩), .sc (.int .i64 0), .sc (.string ⟨#[]⟩), .sc (.int .i64 0), .sc (.int .i64 0), .sc (.slice none 0 0), .sc (.int .i64 0), .sc (.int .i64 0), .sc (.bool false), .sc (.bool false)]) 11⟩,
 ⟨none, none, .st 11 (.t 5) (.t 24)⟩,
 ⟨some 6, none, .mv (.t 25)⟩])
 (.seq (.reg [⟨some 26, none, .mv (.t 4)⟩,
 ⟨some 27, none, .bin .eql false (.t 26) (.k (.sc (.int .i64 0))) (pu (.binOp .eql 30 (.tmp 26) (.const (.int .i64 0)) 30) 4)⟩,
 ⟨some 28, none, .mv (.t 27)⟩,
 ⟨some 29, (some ((some 28), true)), .sh 7 (.t 3)⟩,
 ⟨some 30, (some ((some 28), true)), .ld none (.t 29)⟩,
 ⟨some 31, (some ((some 28), true)), .bin .eql false (.t 30) (.k (.sc (.int .i64 300))) (pu (.binOp .eql 3 (.tmp 30) (.const (.int .i64 300)) 3) 4)⟩,
 ⟨some 32, none, .pick (.t 28) (.t 31) (.k (.sc (.bool false)))⟩,
 ⟨some 33, none, .mv (.t 32)⟩,
 ⟨some 34, (some ((some 33), true)), .sh 4 (.t 3)⟩,
 ⟨some 35, (some ((some 33), true)), .ld none (.t 34)⟩,
 ⟨some 36, (some ((some 33), true)), .bin .eql false (.t 35) (.k (.sc (.int .i64 10))) (pu (.binOp .eql 3 (.tmp 35) (.const (.int .i64 10)) 3) 4)⟩,
 ⟨some 37, none, .pick (.t 33) (.t 36) (.k (.sc (.bool false)))⟩,
 ⟨some 38, none, .mv (.t 37)⟩,
 ⟨some 39, (some ((some 38), true)), .sh 5 (.t 3)⟩,
 ⟨some 40, (some ((some 38), true)), .ld none (.t 39)⟩,
 ⟨some 41, (some ((some 38), true)), .bin .eql false (.t 40) (.k (.sc (.int .i64 70))) (pu (.binOp .eql 3 (.tmp 40) (.const (.int .i64 70)) 3) 4)⟩,
 ⟨some 42, none, .pick (.t 38) (.t 41) (.k (.sc (.bool false)))⟩,
 ⟨some 43, none, .mv (.t 42)⟩,
 ⟨some 44, (some ((some 43), true)), .mv (.t 6)⟩,
 ⟨some 45, (some ((some 43), true)), .bin .eql false (.t 44) (.k (.sc (.int .i64 22))) (pu (.binOp .eql 30 (.tmp 44) (.const (.int .i64 22)) 30) 4)⟩,
 ⟨some 46, none, .pick (.t 43) (.t 45) (.k (.sc (.bool false)))⟩,
 ⟨some 0, none, .mv (.t 46)⟩])
 .ret))))))
def k8 : List Nat := [0, 1, 2, 3, 4, 6]
theorem ic8 : factsI Try.prog 8 = some (47, [.tmp 0], c8) := by kernel_rfl
def c9 : IC :=
 (.seq (.reg [⟨some 4, none, .al (.agg [.sc (.string ⟨#[]⟩), .sc (.string ⟨#[]⟩), .sc (.int .i64 0), .sc (.string ⟨#[]⟩), .sc (.int .i64 0), .sc (.int .i64 0), .sc (.slice none 0 0), .sc (.int .i64 0), .sc (.int .i64 0), .sc (.bool false), .sc (.bool false)]) 11⟩,
 ⟨some 5, none, .mv (.k (.sc (.int .i64 0)))⟩])
 (.seq (.seq (.reg [⟨some 15, none, .mv (.t 0)⟩,
 ⟨some 16, none, .len (.t 15) (pu (.call ⟨.builtin .len, #[(.tmp 15)], #[22]⟩) 3)⟩,
 ⟨some 17, none, .bin .eql false (.t 16) (.k (.sc (.int .i64 0))) (pu (.binOp .eql 3 (.tmp 16) (.const (.int .i64 0)) 3) 4)⟩])
 (.cond (.t 17) (.seq (.reg [⟨some 18, none, .bld [.sc (.string ⟨#[]⟩), .sc (.string ⟨#[]⟩), .sc (.int .i64 0), .sc (.string ⟨#[]⟩), .sc (.int .i64 0), .sc (.int .i64 0), .sc (.slice none 0 0), .sc (.int .i64 0), .sc (.int .i64 0), .sc (.bool false), .sc (.bool false)] []⟩,
 ⟨none, none, .st 11 (.t 4) (.t 18)⟩,
 ⟨some 5, none, .mv (.k (.sc (.int .i64 8)))⟩])
 .ret)
 .skip))
 (.seq (.reg [⟨some 20, none, .mv (.t 0)⟩,
 ⟨some 21, none, .call 16 [(.t 20)]⟩,
 ⟨some 19, none, .mv (.t 21)⟩,
 ⟨some 22, none, .ext (.t 19) 0⟩,
 ⟨some 23, none, .ext (.t 19) 1⟩,
 ⟨some 6, none, .mv (.t 22)⟩,
 ⟨some 7, none, .mv (.t 23)⟩])
 (.seq (.seq (.reg [⟨some 24, none, .mv (.t 7)⟩,
 ⟨some 25, none, .bin .neq false (.t 24) (.k (.sc (.int .i64 0))) (pu (.binOp .neq 30 (.tmp 24) (.const (.int .i64 0)) 30) 4)⟩])
 (.cond (.t 25) (.seq (.reg [⟨some 26, none, .bld [.sc (.string ⟨#[]⟩), .sc (.string ⟨#[]⟩), .sc (.int .i64 0), .sc (.string ⟨#[]⟩), .sc (.int .i64 0), .sc (.int .i64 0), .sc (.slice none 0 0), .sc (.int .i64 0), .sc (.int .i64 0), .sc (.bool false), .sc (.bool false)] []⟩,
 ⟨some 27, none, .mv (.t 7)⟩,
 ⟨none, none, .st 11 (.t 4) (.t 26)⟩,
 ⟨some 5, none, .mv (.t 27)⟩])
 .ret)
 .skip))
 (.seq (.seq (.reg [⟨some 28, none, .mv (.t 6)⟩,
 ⟨some 29, none, .call 17 [(.t 28)]⟩,
 ⟨some 30, none, .un .not (.t 29) (pu (.unOp .not 4 (.tmp 29)) 4)⟩])
 (.cond (.t 30) (.seq (.reg [⟨some 31, none, .bld [.sc (.string ⟨#[]⟩), .sc (.string ⟨#[]⟩), .sc (.int .i64 0), .sc (.string ⟨#[]⟩), .sc (.int .i64 0), .sc (.int .i64 0), .sc (.slice none 0 0), .sc (.int .i64 0), .sc (.int .i64 0), .sc (.bool false), .sc (.bool false)] []⟩,
 ⟨none, none, .st 11 (.t 4) (.t 31)⟩,
 ⟨some 5, none, .mv (.k (.sc (.int .i64 22)))⟩])
 .ret)
 .skip))
 (.seq (.drw [0, 1, 3, 0, 0, 16, 48, 120, 248, 0, 0, 1543, 4095] [⟨some 32, none, .mv (.t 6)⟩,
 ⟨some 33, none, .ixs 10 (.t 32) (.k (.sc (.int .i64 0)))⟩,
 ⟨some 34, none, .ld (some 10) (.t 33)⟩,
 ⟨some 35, none, .mv (.t 6)⟩,
 ⟨some 36, none, .mv (.t 6)⟩,
 ⟨some 37, none, .len (.t 36) (pu (.call ⟨.builtin .len, #[(.tmp 36)], #[22]⟩) 3)⟩,
 ⟨some 38, none, .bin .sub false (.t 37) (.k (.sc (.int .i64 1))) (pu (.binOp .sub 3 (.tmp 37) (.const (.int .i64 1)) 3) 3)⟩,
 ⟨some 39, none, .ixs 10 (.t 35) (.t 38)⟩,
 ⟨some 40, none, .ld (some 10) (.t 39)⟩,
 ⟨some 8, none, .al (.agg [.sc (.string ⟨#[]⟩), .sc (.string ⟨#[]⟩), .sc (.int .i64 0), .sc (.int .i64 0), .sc (.int .i64 0), .sc (.int .i64 0), .sc (.string ⟨#[]⟩), .sc (.bool false), .sc (.int .i64 0), .sc (.slice none 0 0)]) 10⟩,
 ⟨some 9, none, .al (.agg [.sc (.string ⟨#[]⟩), .sc (.string ⟨#[]⟩), .sc (.int .i64 0), .sc (.int .i64 0), .sc (.int .i64 0), .sc (.int .i64 0), .sc (.string ⟨#[]⟩), .sc (.bool false), .sc (.int .i64 0), .sc (.slice none 0 0)]) 10⟩,
 ⟨none, none, .st 10 (.t 8) (.t 34)⟩,
 ⟨none, none, .st 10 (.t 9) (.t 40)⟩])
 (.seq (.reg [⟨some 10, none, .mv (.k (.sc (.bool false)))⟩])
 (.seq (.seq (.reg [⟨some 41, none, .mv (.t 6)⟩,
 ⟨some 42, none, .len (.t 41) (pu (.call ⟨.builtin .len, #[(.tmp 41)], #[22]⟩) 3)⟩,
 ⟨some 43, none, .mv (.k (.sc (.int .i64 0)))⟩])
 (.block 0 (.loop (.seq (.reg [⟨some 44, none, .bin .lss false (.t 43) (.t 42) (pu (.binOp .lss 3 (.tmp 43) (.tmp 42) 3) 0)⟩])
 (.seq (.cond (.t 44) .skip
 (.exit 0))
 (.seq (.block 1 (.seq (.reg [⟨some 45, none, .mv (.t 43)⟩,
 ⟨some 46, none, .ixs 10 (.t 41) (.t 43)⟩,
 ⟨some 47, none, .ld (some 10) (.t 46)⟩,
 ⟨some 12, none, .al (.agg [.sc (.string ⟨#[]⟩), .sc (.string ⟨#[]⟩), .sc (.int .i64 0), .sc (.int .i64 0), .sc (.int .i64 0), .sc (.int .i64 0), .sc (.string ⟨#[]⟩), .sc (.bool false), .sc (.int .i64 0), .sc (.slice none 0 0)]) 10⟩,
 ⟨some 11, none, .mv (.t 45)⟩,
 ⟨none, none, .st 10 (.t 12) (.t 47)⟩])
 (.seq (.seq (.reg [⟨some 48, none, .sh 4 (.t 12)⟩,
 ⟨some 49, none, .ld none (.t 48)⟩,
 ⟨some 50, none, .bin .eql false (.t 49) (.k (.sc (.int .i64 3))) (pu (.binOp .eql 3 (.tmp 49) (.const (.int .i64 3)) 3) 4)⟩,
 ⟨some 51, none, .mv (.t 50)⟩,
 ⟨some 52, (some ((some 51), true)), .mv (.t 11)⟩,
 ⟨some 53, (some ((some 51), true)), .mv (.t 6)⟩,
 ⟨some 54, (some ((some 51), true)), .len (.t 53) (pu (.call ⟨.builtin .len, #[(.tmp 53)], #[22]⟩) 3)⟩,
 ⟨some 55, (some ((some 51), true)), .bin .sub false (.t 54) (.k (.sc (.int .i64 1))) (pu (.binOp .sub 3 (.tmp 54) (.const (.int .i64 1)) 3) 3)⟩,
 ⟨some 56, (some ((some 51), true)), .bin .lss false (.t 52) (.t 55) (pu (.binOp .lss 3 (.tmp 52) (.tmp 55) 3) 4)⟩,
 ⟨some 57, none, .pick (.t 51) (.t 56) (.k (.sc (.bool false)))⟩,
 ⟨some 58, none, .mv (.t 57)⟩,
 ⟨some 59, (some ((some 58), false)), .sh 2 (.t 12)⟩,
 ⟨some 60, (some ((some 58), false)), .ld none (.t 59)⟩,
 ⟨some 61, (some ((some 58), false)), .sh 2 (.t 8)⟩,
 ⟨some 62, (some ((some 58), false)), .ld none (.t 61)⟩,
 ⟨some 63, (some ((some 58), false)), .bin .neq false (.t 60) (.t 62) (pu (.binOp .neq 3 (.tmp 60) (.tmp 62) 3) 4)⟩,
 ⟨some 64, none, .pick (.t 58) (.k (.sc (.bool true))) (.t 63)⟩])
 (.cond (.t 64) (.seq (.reg [⟨some 65, none, .bld [.sc (.string ⟨#[]⟩), .sc (.string ⟨#[]⟩), .sc (.int .i64 0), .sc (.string ⟨#[]⟩), .sc (.int .i64 0), .sc (.int .i64 0), .sc (.slice none 0 0), .sc (.int .i64 0), .sc (.int .i64 0), .sc (.bool false), .sc (.bool false)] []⟩,
 ⟨none, none, .st 11 (.t 4) (.t 65)⟩,
 ⟨some 5, none, .mv (.k (.sc (.int .i64 1)))⟩])
 .ret)
 .skip))
 (.reg [⟨some 66, none, .mv (.t 10)⟩,
 ⟨some 67, none, .mv (.t 66)⟩,
 ⟨some 68, (some ((some 67), false)), .sh 7 (.t 12)⟩,
 ⟨some 69, (some ((some 67), false)), .ld none (.t 68)⟩,
 ⟨some 70, none, .pick (.t 67) (.k (.sc (.bool true))) (.t 69)⟩,
 ⟨some 10, none, .mv (.t 70)⟩]))))
 (.reg [⟨some 71, none, .bin .add false (.t 43) (.k (.sc (.int .i64 1))) (pu (.binOp .add 3 (.tmp 43) (.const (.int .i64 1)) 3) 3)⟩,
 ⟨some 43, none, .mv (.t 71)⟩])))))))
 (.seq (.reg [⟨some 73, none, .mv (.t 6)⟩,
 ⟨some 74, none, .call 18 [(.t 73)]⟩,
 ⟨some 72, none, .mv (.t 74)⟩,
 ⟨some 75, none, .ext (.t 72) 0⟩,
 ⟨some 76, none, .ext (.t 72) 1⟩,
 ⟨some 13, none, .mv (.t 75)⟩,
 ⟨some 7, none, .mv (.t 76)⟩])
 (.seq (.seq (.reg [⟨some 77, none, .mv (.t 7)⟩,
 ⟨some 78, none, .bin .neq false (.t 77) (.k (.sc (.int .i64 0))) (pu (.binOp .neq 30 (.tmp 77) (.const (.int .i64 0)) 30) 4)⟩])
 (.cond (.t 78) (.seq (.reg [⟨some 79, none, .bld [.sc (.string ⟨#[]⟩), .sc (.string ⟨#[]⟩), .sc (.int .i64 0), .sc (.string ⟨#[]⟩), .sc (.int .i64 0), .sc (.int .i64 0), .sc (.slice none 0 0), .sc (.int .i64 0), .sc (.int .i64 0), .sc (.bool false), .sc (.bool false)] []⟩,
 ⟨some 80, none, .mv (.t 7)⟩,
 ⟨none, none, .st 11 (.t 4) (.t 79)⟩,
 ⟨some 5, none, .mv (.t 80)⟩])
 .ret)
 .skip))
 (.seq (.seq (.drw [0, 1, 3, 7, 15, 31, 63, 127, 15, 271, 1023, 2047, 4095, 8191, 8191, 24575, 57343, 131071, 262143, 524287, 8191, 1056767, 4194303, 8388607] [⟨some 81, none, .mv (.t 13)⟩,
 ⟨some 82, none, .len (.t 81) (pu (.call ⟨.builtin .len, #[(.tmp 81)], #[25]⟩) 3)⟩,
 ⟨some 83, none, .bin .eql false (.t 82) (.k (.sc (.int .i64 0))) (pu (.binOp .eql 3 (.tmp 82) (.const (.int .i64 0)) 3) 4)⟩,
 ⟨some 84, none, .mv (.t 83)⟩,
 ⟨some 85, (some ((some 84), false)), .mv (.t 13)⟩,
 ⟨some 86, (some ((some 84), false)), .ixs 2 (.t 85) (.k (.sc (.int .i64 0)))⟩,
 ⟨some 87, (some ((some 84), false)), .sh 0 (.t 86)⟩,
 ⟨some 88, (some ((some 84), false)), .ld none (.t 87)⟩,
 ⟨some 89, (some ((some 84), false)), .sh 5 (.t 8)⟩,
 ⟨some 90, (some ((some 84), false)), .ld none (.t 89)⟩,
 ⟨some 91, (some ((some 84), false)), .bin .neq false (.t 88) (.t 90) (pu (.binOp .neq 3 (.tmp 88) (.tmp 90) 3) 4)⟩,
 ⟨some 92, none, .pick (.t 84) (.k (.sc (.bool true))) (.t 91)⟩,
 ⟨some 93, none, .mv (.t 92)⟩,
 ⟨some 94, (some ((some 93), false)), .mv (.t 13)⟩,
 ⟨some 95, (some ((some 93), false)), .mv (.t 13)⟩,
 ⟨some 96, (some ((some 93), false)), .len (.t 95) (pu (.call ⟨.builtin .len, #[(.tmp 95)], #[25]⟩) 3)⟩,
 ⟨some 97, (some ((some 93), false)), .bin .sub false (.t 96) (.k (.sc (.int .i64 1))) (pu (.binOp .sub 3 (.tmp 96) (.const (.int .i64 1)) 3) 3)⟩,
 ⟨some 98, (some ((some 93), false)), .ixs 2 (.t 94) (.t 97)⟩,
 ⟨some 99, (some ((some 93), false)), .sh 0 (.t 98)⟩,
 ⟨some 100, (some ((some 93), false)), .ld none (.t 99)⟩,
 ⟨some 101, (some ((some 93), false)), .sh 5 (.t 9)⟩,
 ⟨some 102, (some ((some 93), false)), .ld none (.t 101)⟩,
 ⟨some 103, (some ((some 93), false)), .bin .neq false (.t 100) (.t 102) (pu (.binOp .neq 3 (.tmp 100) (.tmp 102) 3) 4)⟩,
 ⟨some 104, none, .pick (.t 93) (.k (.sc (.bool true))) (.t 103)⟩])
 (.cond (.t 104) (.seq (.reg [⟨some 105, none, .bld [.sc (.string ⟨#[]⟩), .sc (.string ⟨#[]⟩), .sc (.int .i64 0), .sc (.string ⟨#[]⟩), .sc (.int .i64 0), .sc (.int .i64 0), .sc (.slice none 0 0), .sc (.int .i64 0), .sc (.int .i64 0), .sc (.bool false), .sc (.bool false)] []⟩,
 ⟨none, none, .st 11 (.t 4) (.t 105)⟩,
 ⟨some 5, none, .mv (.k (.sc (.int .i64 1)))⟩])
 .ret)
 .skip))
 (.seq (.reg [⟨some 107, none, .mv (.t 13)⟩,
 ⟨some 108, none, .mv (.t 1)⟩,
 ⟨some 109, none, .call 19 [(.t 107), (.t 108)]⟩,
 ⟨some 106, none, .mv (.t 109)⟩,
 ⟨some 110, none, .ext (.t 106) 0⟩,
 ⟨some 111, none, .ext (.t 106) 1⟩,
 ⟨some 14, none, .mv (.t 110)⟩,
 ⟨some 7, none, .mv (.t 111)⟩])
 (.seq (.seq (.reg [⟨some 112, none, .mv (.t 7)⟩,
 ⟨some 113, none, .bin .neq false (.t 112) (.k (.sc (.int .i64 0))) (pu (.binOp .neq 30 (.tmp 112) (.const (.int .i64 0)) 30) 4)⟩])
 (.cond (.t 113) (.seq (.reg [⟨some 114, none, .bld [.sc (.string ⟨#[]⟩), .sc (.string ⟨#[]⟩), .sc (.int .i64 0), .sc (.string ⟨#[]⟩), .sc (.int .i64 0), .sc (.int .i64 0), .sc (.slice none 0 0), .sc (.int .i64 0), .sc (.int .i64 0), .sc (.bool false), .sc (.bool false)] []⟩,
 ⟨some 115, none, .mv (.t 7)⟩,
 ⟨none, none, .st 11 (.t 4) (.t 114)⟩,
 ⟨some 5, none, .mv (.t 115)⟩])
 .ret)
 .skip))
 (.seq (.seq (.reg [⟨some 116, none, .mv (.t 14)⟩,
 ⟨some 117, none, .bin .gtr false (.t 116) (.k (.sc (.int .i64 1099511627776))) (pu (.binOp .gtr 3 (.tmp 116) (.const (.int .i64 1099511627776)) 3) 4)⟩])
 (.cond (.t 117) (.seq (.reg [⟨some 118, none, .bld [.sc (.string ⟨#[]⟩), .sc (.string ⟨#[]⟩), .sc (.int .i64 0), .sc (.string ⟨#[]⟩), .sc (.int .i64 0), .sc (.int .i64 0), .sc (.slice none 0 0), .sc (.int .i64 0), .sc (.int .i64 0), .sc (.bool false), .sc (.bool false)] []⟩,
 ⟨none, none, .st 11 (.t 4) (.t 118)⟩,
 ⟨some 5, none, .mv (.k (.sc (.int .i64 2)))⟩])
 .ret)
 .skip))
 (.seq (.reg [⟨some 119, none, .sh 0 (.t 8)⟩,
 ⟨some 120, none, .ld none (.t 119)⟩,
 ⟨some 121, none, .sh 1 (.t 8)⟩,
 ⟨some 122, none, .ld none (.t 121)⟩,
 ⟨some 123, none, .sh 2 (.t 8)⟩,
 ⟨some 124, none, .ld none (.t 123)⟩,
 ⟨some 125, none, .sh 6 (.t 8)⟩,
 ⟨some 126, none, .ld none (.t 125)⟩,
 ⟨some 127, none, .sh 5 (.t 8)⟩,
 ⟨some 128, none, .ld none (.t 127)⟩,
 ⟨some 129, none, .sh 5 (.t 9)⟩,
 ⟨some 130, none, .ld none (.t 129)⟩,
 ⟨some 131, none, .mv (.t 13)⟩,
 ⟨some 132, none, .mv (.t 14)⟩,
 ⟨some 133, none, .sh 8 (.t 9)⟩,
 ⟨some 134, none, .ld none (.t 133)⟩,
 ⟨some 135, none, .mv (.t 10)⟩,
 ⟨some 136, none, .sh 8 (.t 9)⟩,
 ⟨some 137, none, .ld none (.t 136)⟩,
 ⟨some 138, none, .bin .eql false (.t 137) (.k (.sc (.int .i64 5))) (pu (.binOp .eql 3 (.tmp 137) (.const (.int .i64 5)) 3) 4)⟩,
 ⟨some 139, none, .bld [.sc (.string ⟨#[]⟩), .sc (.string ⟨#[]⟩), .sc (.int .i64 0), .sc (.string ⟨#[]⟩), .sc (.int .i64 0), .sc (.int .i64 0), .sc (.slice none 0 0), .sc (.int .i64 0), .sc (.int .i64 0), .sc (.bool false), .sc (.bool false)] [(0, 1, (.t 120)), (1, 1, (.t 122)), (2, 1, (.t 124)), (3, 1, (.t 126)), (4, 1, (.t 128)), (5, 1, (.t 130)), (6, 1, (.t 131)), (7, 1, (.t 132)), (8, 1, (.t 134)), (9, 1, (.t 135)), (10, 1, (.t 138))]⟩,
 ⟨none, none, .st 11 (.t 4) (.t 139)⟩,
 ⟨some 5, none, .mv (.k (.sc (.int .i64 0)))⟩])
 .ret)))))))))))))))
def k9 : List Nat := [0, 1, 4, 5, 6, 7, 8, 9, 10, 11, 12, 13, 14, 17, 25, 30, 41, 42, 43, 44, 64, 78, 104, 113, 117]
theorem ic9 : factsI Try.prog 9 = some (140, [.cell 4 29, .tmp 5], c9) := by kernel_rfl
def c10 : IC :=
 (.seq (.reg [⟨some 1, none, .bx (.t 0)⟩,
 ⟨some 2, none, .mv (.k (.sc (.int .i64 0)))⟩])
 (.seq (.seq (.reg [⟨some 5, none, .sh 0 (.t 1)⟩,
 ⟨some 6, none, .ld none (.t 5)⟩,
 ⟨some 7, none, .call 20 [(.t 6)]⟩,
 ⟨some 8, none, .un .not (.t 7) (pu (.unOp .not 4 (.tmp 7)) 4)⟩,
 ⟨some 9, none, .mv (.t 8)⟩,
 ⟨some 10, (some ((some 9), false)), .sh 1 (.t 1)⟩,
 ⟨some 11, (some ((some 9), false)), .ld none (.t 10)⟩,
 ⟨some 12, (some ((some 9), false)), .call 20 [(.t 11)]⟩,
 ⟨some 13, (some ((some 9), false)), .un .not (.t 12) (pu (.unOp .not 4 (.tmp 12)) 4)⟩,
 ⟨some 14, none, .pick (.t 9) (.k (.sc (.bool true))) (.t 13)⟩])
 (.cond (.t 14) (.seq (.reg [⟨some 2, none, .mv (.k (.sc (.int .i64 4)))⟩])
 .ret)
 .skip))
 (.seq (.seq (.reg [⟨some 15, none, .sh 2 (.t 1)⟩,
 ⟨some 16, none, .ld none (.t 15)⟩,
 ⟨some 17, none, .call 21 [(.t 16), (.k (.sc (.int .i64 1))), (.k (.sc (.int .i64 32)))]⟩,
 ⟨some 18, none, .un .not (.t 17) (pu (.unOp .not 4 (.tmp 17)) 4)⟩,
 ⟨some 19, none, .mv (.t 18)⟩,
 ⟨some 20, (some ((some 19), false)), .sh 3 (.t 1)⟩,
 ⟨some 21, (some ((some 19), false)), .ld none (.t 20)⟩,
 ⟨some 22, (some ((some 19), false)), .call 21 [(.t 21), (.k (.sc (.int .i64 0))), (.k (.sc (.int .i64 2147483647)))]⟩,
 ⟨some 23, (some ((some 19), false)), .un .not (.t 22) (pu (.unOp .not 4 (.tmp 22)) 4)⟩,
 ⟨some 24, none, .pick (.t 19) (.k (.sc (.bool true))) (.t 23)⟩,
 ⟨some 25, none, .mv (.t 24)⟩,
 ⟨some 26, (some ((some 25), false)), .sh 5 (.t 1)⟩,
 ⟨some 27, (some ((some 25), false)), .ld none (.t 26)⟩,
 ⟨some 28, (some ((some 25), false)), .call 22 [(.t 27)]⟩,
 ⟨some 29, (some ((some 25), false)), .un .not (.t 28) (pu (.unOp .not 4 (.tmp 28)) 4)⟩,
 ⟨some 30, none, .pick (.t 25) (.k (.sc (.bool true))) (.t 29)⟩])
 (.cond (.t 30) (.seq (.reg [⟨some 2, none, .mv (.k (.sc (.int .i64 2)))⟩])
 .ret)
 .skip))
 (.seq (.drw [0, 1, 3, 0, 8, 24, 7, 127] [⟨some 31, none, .sh 4 (.t 1)⟩,
 ⟨some 32, none, .ld none (.t 31)⟩,
 ⟨some 33, none, .bin .eql false (.t 32) (.k (.sc (.int .i64 1))) (pu (.binOp .eql 3 (.tmp 32) (.const (.int .i64 1)) 3) 4)⟩,
 ⟨some 34, none, .sh 4 (.t 1)⟩,
 ⟨some 35, none, .ld none (.t 34)⟩,
 ⟨some 36, none, .bin .eql false (.t 35) (.k (.sc (.int .i64 3))) (pu (.binOp .eql 3 (.tmp 35) (.const (.int .i64 3)) 3) 4)⟩,
 ⟨some 3, none, .mv (.t 33)⟩,
 ⟨some 4, none, .mv (.t 36)⟩])
 (.seq (.seq (.reg [⟨some 37, none, .sh 4 (.t 1)⟩,
 ⟨some 38, none, .ld none (.t 37)⟩,
 ⟨some 39, none, .call 21 [(.t 38), (.k (.sc (.int .i64 1))), (.k (.sc (.int .i64 3)))]⟩,
 ⟨some 40, none, .un .not (.t 39) (pu (.unOp .not 4 (.tmp 39)) 4)⟩,
 ⟨some 41, none, .mv (.t 40)⟩,
 ⟨some 42, (some ((some 41), false)), .mv (.t 3)⟩,
 ⟨some 43, (some ((some 41), false)), .sh 3 (.t 1)⟩,
 ⟨some 44, (some ((some 41), false)), .ld none (.t 43)⟩,
 ⟨some 45, (some ((some 41), false)), .bin .eql false (.t 44) (.k (.sc (.int .i64 0))) (pu (.binOp .eql 3 (.tmp 44) (.const (.int .i64 0)) 3) 4)⟩,
 ⟨some 46, (some ((some 41), false)), .bin .neq true (.t 42) (.t 45) (pu (.binOp .neq 4 (.tmp 42) (.tmp 45) 4) 4)⟩,
 ⟨some 47, none, .pick (.t 41) (.k (.sc (.bool true))) (.t 46)⟩,
 ⟨some 48, none, .mv (.t 47)⟩,
 ⟨some 49, (some ((some 48), false)), .mv (.t 4)⟩,
 ⟨some 50, (some ((some 48), false)), .un .not (.t 49) (pu (.unOp .not 4 (.tmp 49)) 4)⟩,
 ⟨some 51, (some ((some 48), false)), .mv (.t 50)⟩,
 ⟨some 52, (some ((some 51), true)), .sh 8 (.t 1)⟩,
 ⟨some 53, (some ((some 51), true)), .ld none (.t 52)⟩,
 ⟨some 54, (some ((some 51), true)), .bin .neq false (.t 53) (.k (.sc (.int .i64 0))) (pu (.binOp .neq 3 (.tmp 53) (.const (.int .i64 0)) 3) 4)⟩,
 ⟨some 55, (some ((some 48), false)), .pick (.t 51) (.t 54) (.k (.sc (.bool false)))⟩,
 ⟨some 56, none, .pick (.t 48) (.k (.sc (.bool true))) (.t 55)⟩,
 ⟨some 57, none, .mv (.t 56)⟩,
 ⟨some 58, (some ((some 57), false)), .mv (.t 4)⟩,
 ⟨some 59, (some ((some 57), false)), .mv (.t 58)⟩,
 ⟨some 60, (some ((some 59), true)), .sh 8 (.t 1)⟩,
 ⟨some 61, (some ((some 59), true)), .ld none (.t 60)⟩,
 ⟨some 62, (some ((some 59), true)), .call 21 [(.t 61), (.k (.sc (.int .i64 1))), (.k (.sc (.int .i64 6)))]⟩,
 ⟨some 63, (some ((some 59), true)), .un .not (.t 62) (pu (.unOp .not 4 (.tmp 62)) 4)⟩,
 ⟨some 64, (some ((some 57), false)), .pick (.t 59) (.t 63) (.k (.sc (.bool false)))⟩,
 ⟨some 65, none, .pick (.t 57) (.k (.sc (.bool true))) (.t 64)⟩])
 (.cond (.t 65) (.seq (.reg [⟨some 2, none, .mv (.k (.sc (.int .i64 1)))⟩])
 .ret)
 .skip))
 (.seq (.seq (.reg [⟨some 66, none, .mv (.t 3)⟩,
 ⟨some 67, none, .mv (.t 66)⟩,
 ⟨some 68, (some ((some 67), true)), .sh 6 (.t 1)⟩,
 ⟨some 69, (some ((some 67), true)), .ld none (.t 68)⟩,
 ⟨some 70, (some ((some 67), true)), .call 20 [(.t 69)]⟩,
 ⟨some 71, (some ((some 67), true)), .un .not (.t 70) (pu (.unOp .not 4 (.tmp 70)) 4)⟩,
 ⟨some 72, none, .pick (.t 67) (.t 71) (.k (.sc (.bool false)))⟩])
 (.cond (.t 72) (.seq (.reg [⟨some 2, none, .mv (.k (.sc (.int .i64 4)))⟩])
 .ret)
 .skip))
 (.seq (.seq (.reg [⟨some 73, none, .mv (.t 3)⟩,
 ⟨some 74, none, .un .not (.t 73) (pu (.unOp .not 4 (.tmp 73)) 4)⟩,
 ⟨some 75, none, .mv (.t 74)⟩,
 ⟨some 76, (some ((some 75), true)), .sh 6 (.t 1)⟩,
 ⟨some 77, (some ((some 75), true)), .ld none (.t 76)⟩,
 ⟨some 78, (some ((some 75), true)), .bin .neq false (.t 77) (.k (.sc (.string ⟨#[]⟩))) (pu (.binOp .neq 9 (.tmp 77) (.const (.string ⟨#[]⟩)) 9) 4)⟩,
 ⟨some 79, none, .pick (.t 75) (.t 78) (.k (.sc (.bool false)))⟩])
 (.cond (.t 79) (.seq (.reg [⟨some 2, none, .mv (.k (.sc (.int .i64 1)))⟩])
 .ret)
 .skip))
 (.seq (.reg [⟨some 80, none, .ld (some 10) (.t 1)⟩,
 ⟨some 81, none, .call 23 [(.t 80)]⟩,
 ⟨some 2, none, .mv (.t 81)⟩])
 .ret))))))))
def k10 : List Nat := [0, 1, 2, 3, 4, 14, 30, 65, 72, 79]
theorem ic10 : factsI Try.prog 10 = some (82, [.tmp 2], c10) := by kernel_rfl
def c11 : IC :=
 (.seq (.reg [⟨some 2, none, .bx (.t 0)⟩,
 ⟨some 3, none, .bx (.t 1)⟩,
 ⟨some 4, none, .mv (.k (.sc (.bool false)))⟩])
 (.seq (.reg [⟨some 5, none, .sh 0 (.t 2)⟩,
 ⟨some 6, none, .ld none (.t 5)⟩,
 ⟨some 7, none, .sh 0 (.t 3)⟩,
 ⟨some 8, none, .ld none (.t 7)⟩,
 ⟨some 9, none, .bin .eql false (.t 6) (.t 8) (pu (.binOp .eql 9 (.tmp 6) (.tmp 8) 9) 4)⟩,
 ⟨some 10, none, .mv (.t 9)⟩,
 ⟨some 11, (some ((some 10), true)), .sh 1 (.t 2)⟩,
 ⟨some 12, (some ((some 10), true)), .ld none (.t 11)⟩,
 ⟨some 13, (some ((some 10), true)), .sh 1 (.t 3)⟩,
 ⟨some 14, (some ((some 10), true)), .ld none (.t 13)⟩,
 ⟨some 15, (some ((some 10), true)), .bin .eql false (.t 12) (.t 14) (pu (.binOp .eql 9 (.tmp 12) (.tmp 14) 9) 4)⟩,
 ⟨some 16, none, .pick (.t 10) (.t 15) (.k (.sc (.bool false)))⟩,
 ⟨some 17, none, .mv (.t 16)⟩,
 ⟨some 18, (some ((some 17), true)), .sh 2 (.t 2)⟩,
 ⟨some 19, (some ((some 17), true)), .ld none (.t 18)⟩,
 ⟨some 20, (some ((some 17), true)), .sh 2 (.t 3)⟩,
 ⟨some 21, (some ((some 17), true)), .ld none (.t 20)⟩,
 ⟨some 22, (some ((some 17), true)), .bin .eql false (.t 19) (.t 21) (pu (.binOp .eql 3 (.tmp 19) (.tmp 21) 3) 4)⟩,
 ⟨some 23, none, .pick (.t 17) (.t 22) (.k (.sc (.bool false)))⟩,
 ⟨some 24, none, .mv (.t 23)⟩,
 ⟨some 25, (some ((some 24), true)), .sh 3 (.t 2)⟩,
 ⟨some 26, (some ((some 24), true)), .ld none (.t 25)⟩,
 ⟨some 27, (some ((some 24), true)), .sh 3 (.t 3)⟩,
 ⟨some 28, (some ((some 24), true)), .ld none (.t 27)⟩,
 ⟨some 29, (some ((some 24), true)), .bin .eql false (.t 26) (.t 28) (pu (.binOp .eql 9 (.tmp 26) (.tmp 28) 9) 4)⟩,
 ⟨some 30, none, .pick (.t 24) (.t 29) (.k (.sc (.bool false)))⟩,
 ⟨some 31, none, .mv (.t 30)⟩,
 ⟨some 32, (some ((some 31), true)), .sh 4 (.t 2)⟩,
 ⟨some 33, (some ((some 31), true)), .ld none (.t 32)⟩,
 ⟨some 34, (some ((some 31), true)), .sh 4 (.t 3)⟩,
 ⟨some 35, (some ((some 31), true)), .ld none (.t 34)⟩,
 ⟨some 36, (some ((some 31), true)), .bin .eql false (.t 33) (.t 35) (pu (.binOp .eql 3 (.tmp 33) (.tmp 35) 3) 4)⟩,
 ⟨some 37, none, .pick (.t 31) (.t 36) (.k (.sc (.bool false)))⟩,
 ⟨some 38, none, .mv (.t 37)⟩,
 ⟨some 39, (some ((some 38), true)), .sh 5 (.t 2)⟩,
 ⟨some 40, (some ((some 38), true)), .ld none (.t 39)⟩,
 ⟨some 41, (some ((some 38), true)), .sh 5 (.t 3)⟩,
 ⟨some 42, (some ((some 38), true)), .ld none (.t 41)⟩,
 ⟨some 43, (some ((some 38), true)), .bin .eql false (.t 40) (.t 42) (pu (.binOp .eql 3 (.tmp 40) (.tmp 42) 3) 4)⟩,
 ⟨some 44, none, .pick (.t 38) (.t 43) (.k (.sc (.bool false)))⟩,
 ⟨some 45, none, .mv (.t 44)⟩,
 ⟨some 46, (some ((some 45), true)), .sh 6 (.t 2)⟩,
 ⟨some 47, (some ((some 45), true)), .ld none (.t 46)⟩,
 ⟨some 48, (some ((some 45), true)), .sh 6 (.t 3)⟩,
 ⟨some 49, (some ((some 45), true)), .ld none (.t 48)⟩,
 ⟨some 50, (some ((some 45), true)), .call 24 [(.t 47), (.t 49)]⟩,
 ⟨some 51, none, .pick (.t 45) (.t 50) (.k (.sc (.bool false)))⟩,
 ⟨some 52, none, .mv (.t 51)⟩,
 ⟨some 53, (some ((some 52), true)), .sh 7 (.t 2)⟩,
 ⟨some 54, (some ((some 52), true)), .ld none (.t 53)⟩,
 ⟨some 55, (some ((some 52), true)), .sh 7 (.t 3)⟩,
 ⟨some 56, (some ((some 52), true)), .ld none (.t 55)⟩,
 ⟨some 57, (some ((some 52), true)), .bin .eql false (.t 54) (.t 56) (pu (.binOp .eql 3 (.tmp 54) (.tmp 56) 3) 4)⟩,
 ⟨some 58, none, .pick (.t 52) (.t 57) (.k (.sc (.bool false)))⟩,
 ⟨some 59, none, .mv (.t 58)⟩,
 ⟨some 60, (some ((some 59), true)), .sh 8 (.t 2)⟩,
 ⟨some 61, (some ((some 59), true)), .ld none (.t 60)⟩,
 ⟨some 62, (some ((some 59), true)), .sh 8 (.t 3)⟩,
 ⟨some 63, (some ((some 59), true)), .ld none (.t 62)⟩,
 ⟨some 64, (some ((some 59), true)), .bin .eql false (.t 61) (.t 63) (pu (.binOp .eql 3 (.tmp 61) (.tmp 63) 3) 4)⟩,
 ⟨some 65, none, .pick (.t 59) (.t 64) (.k (.sc (.bool false)))⟩,
 ⟨some 66, none, .mv (.t 65)⟩,
 ⟨some 67, (some ((some 66), true)), .sh 10 (.t 2)⟩,
 ⟨some 68, (some ((some 66), true)), .ld none (.t 67)⟩,
 ⟨some 69, (some ((some 66), true)), .sh 10 (.t 3)⟩,
 ⟨some 70, (some ((some 66), true)), .ld none (.t 69)⟩,
 ⟨some 71, (some ((some 66), true)), .bin .eql true (.t 68) (.t 70) (pu (.binOp .eql 4 (.tmp 68) (.tmp 70) 4) 4)⟩,
 ⟨some 72, none, .pick (.t 66) (.t 71) (.k (.sc (.bool false)))⟩,
 ⟨some 4, none, .mv (.t 72)⟩])
 .ret))
def k11 : List Nat := [0, 1, 2, 3, 4]
theorem ic11 : factsI Try.prog 11 = some (73, [.tmp 4], c11) := by kernel_rfl
def c12 : IC :=
 (.seq (.reg [⟨some 3, none, .bx (.t 1)⟩,
 ⟨some 4, none, .mv (.k (.sc (.slice none 0 0)))⟩,
 ⟨some 5, none, .mv (.k (.sc (.int .i64 0)))⟩])
 (.seq (.seq (.reg [⟨some 11, none, .ld (some 10) (.t 3)⟩,
 ⟨some 12, none, .call 10 [(.t 11)]⟩,
 ⟨some 6, none, .mv (.t 12)⟩])
 (.seq (.reg [⟨some 13, none, .mv (.t 6)⟩,
 ⟨some 14, none, .bin .neq false (.t 13) (.k (.sc (.int .i64 0))) (pu (.binOp .neq 30 (.tmp 13) (.const (.int .i64 0)) 30) 4)⟩])
 (.cond (.t 14) (.seq (.reg [⟨some 15, none, .mv (.t 0)⟩,
 ⟨some 16, none, .mv (.t 6)⟩,
 ⟨some 4, none, .mv (.t 15)⟩,
 ⟨some 5, none, .mv (.t 16)⟩])
 .ret)
 .skip)))
 (.seq (.reg [⟨some 7, none, .mv (.k (.sc (.int .i64 0)))⟩])
 (.seq (.reg [⟨some 8, none, .mv (.k (.sc (.bool false)))⟩])
 (.seq (.seq (.reg [⟨some 9, none, .mv (.k (.sc (.int .i64 0)))⟩])
 (.block 0 (.loop (.seq (.seq (.reg [⟨some 17, none, .mv (.t 9)⟩,
 ⟨some 18, none, .mv (.t 0)⟩,
 ⟨some 19, none, .len (.t 18) (pu (.call ⟨.builtin .len, #[(.tmp 18)], #[22]⟩) 3)⟩,
 ⟨some 20, none, .bin .lss false (.t 17) (.t 19) (pu (.binOp .lss 3 (.tmp 17) (.tmp 19) 3) 4)⟩])
 (.cond (.t 20) .skip
 (.exit 0)))
 (.seq (.block 1 (.seq (.seq (.drw [0, 0, 3, 7, 0, 31, 63, 127, 127, 511, 1023, 2047, 127, 4223, 16383, 32767] [⟨some 23, none, .mv (.t 0)⟩,
 ⟨some 24, none, .mv (.t 9)⟩,
 ⟨some 25, none, .ixs 10 (.t 23) (.t 24)⟩,
 ⟨some 26, none, .ld (some 10) (.t 25)⟩,
 ⟨some 27, none, .ld (some 10) (.t 3)⟩,
 ⟨some 28, none, .call 25 [(.t 26), (.t 27)]⟩,
 ⟨some 29, none, .mv (.t 28)⟩,
 ⟨some 30, (some ((some 29), true)), .mv (.t 0)⟩,
 ⟨some 31, (some ((some 29), true)), .mv (.t 9)⟩,
 ⟨some 32, (some ((some 29), true)), .ixs 10 (.t 30) (.t 31)⟩,
 ⟨some 33, (some ((some 29), true)), .sh 3 (.t 32)⟩,
 ⟨some 34, (some ((some 29), true)), .ld none (.t 33)⟩,
 ⟨some 35, (some ((some 29), true)), .sh 3 (.t 3)⟩,
 ⟨some 36, (some ((some 29), true)), .ld none (.t 35)⟩,
 ⟨some 37, (some ((some 29), true)), .bin .eql false (.t 34) (.t 36) (pu (.binOp .eql 3 (.tmp 34) (.tmp 36) 3) 4)⟩,
 ⟨some 38, none, .pick (.t 29) (.t 37) (.k (.sc (.bool false)))⟩])
 (.cond (.t 38) (.seq (.seq (.drw [0, 0, 3, 7, 0, 31] [⟨some 39, none, .mv (.t 0)⟩,
 ⟨some 40, none, .mv (.t 9)⟩,
 ⟨some 41, none, .ixs 10 (.t 39) (.t 40)⟩,
 ⟨some 42, none, .ld (some 10) (.t 41)⟩,
 ⟨some 43, none, .ld (some 10) (.t 3)⟩,
 ⟨some 44, none, .call 26 [(.t 42), (.t 43)]⟩])
 (.cond (.t 44) (.seq (.reg [⟨some 45, none, .mv (.t 0)⟩,
 ⟨some 4, none, .mv (.t 45)⟩,
 ⟨some 5, none, .mv (.k (.sc (.int .i64 9)))⟩])
 .ret)
 .skip))
 (.seq (.reg [⟨some 46, none, .mv (.t 0)⟩,
 ⟨some 4, none, .mv (.t 46)⟩,
 ⟨some 5, none, .mv (.k (.sc (.int .i64 23)))⟩])
 .ret))
 .skip))
 (.seq (.drw [0, 1, 3, 3, 15, 31, 3, 127, 255, 511] [⟨some 47, none, .mv (.t 8)⟩,
 ⟨some 48, none, .mv (.t 47)⟩,
 ⟨some 49, (some ((some 48), false)), .mv (.t 0)⟩,
 ⟨some 50, (some ((some 48), false)), .mv (.t 9)⟩,
 ⟨some 51, (some ((some 48), false)), .ixs 10 (.t 49) (.t 50)⟩,
 ⟨some 52, (some ((some 48), false)), .ld (some 10) (.t 51)⟩,
 ⟨some 53, (some ((some 48), false)), .ld (some 10) (.t 3)⟩,
 ⟨some 54, (some ((some 48), false)), .call 27 [(.t 52), (.t 53)]⟩,
 ⟨some 55, none, .pick (.t 48) (.k (.sc (.bool true))) (.t 54)⟩,
 ⟨some 8, none, .mv (.t 55)⟩])
 (.seq (.drw [0, 0, 3, 7, 0, 31] [⟨some 56, none, .mv (.t 0)⟩,
 ⟨some 57, none, .mv (.t 9)⟩,
 ⟨some 58, none, .ixs 10 (.t 56) (.t 57)⟩,
 ⟨some 59, none, .ld (some 10) (.t 58)⟩,
 ⟨some 60, none, .ld (some 10) (.t 3)⟩,
 ⟨some 61, none, .call 28 [(.t 59), (.t 60)]⟩])
 (.cond (.t 61) (.reg [⟨some 62, none, .mv (.t 9)⟩,
 ⟨some 63, none, .bin .add false (.t 62) (.k (.sc (.int .i64 1))) (pu (.binOp .add 3 (.tmp 62) (.const (.int .i64 1)) 3) 3)⟩,
 ⟨some 7, none, .mv (.t 63)⟩])
 .skip)))))
 (.reg [⟨some 21, none, .mv (.t 9)⟩,
 ⟨some 22, none, .bin .add false (.t 21) (.k (.sc (.int .i64 1))) (pu (.binOp .add 3 (.tmp 21) (.const (.int .i64 1)) 3) 3)⟩,
 ⟨some 9, none, .mv (.t 22)⟩]))))))
 (.seq (.seq (.reg [⟨some 64, none, .mv (.t 8)⟩])
 (.cond (.t 64) (.seq (.reg [⟨some 65, none, .mv (.t 0)⟩,
 ⟨some 4, none, .mv (.t 65)⟩,
 ⟨some 5, none, .mv (.k (.sc (.int .i64 1)))⟩])
 .ret)
 .skip))
 (.seq (.seq (.reg [⟨some 66, none, .mv (.t 0)⟩,
 ⟨some 67, none, .len (.t 66) (pu (.call ⟨.builtin .len, #[(.tmp 66)], #[22]⟩) 3)⟩,
 ⟨some 68, none, .bin .geq false (.t 67) (.k (.sc (.int .i64 4096))) (pu (.binOp .geq 3 (.tmp 67) (.const (.int .i64 4096)) 3) 4)⟩])
 (.cond (.t 68) (.seq (.reg [⟨some 69, none, .mv (.t 0)⟩,
 ⟨some 4, none, .mv (.t 69)⟩,
 ⟨some 5, none, .mv (.k (.sc (.int .i64 3)))⟩])
 .ret)
 .skip))
 (.seq (.reg [⟨some 10, none, .mv (.k (.sc (.slice none 0 0)))⟩])
 (.seq (.reg [⟨some 70, none, .mv (.t 10)⟩,
 ⟨some 71, none, .mv (.t 0)⟩,
 ⟨some 72, none, .mv (.t 7)⟩,
 ⟨some 73, none, .sl 10 (.t 71) none (some (.t 72)) none (pu (.slice 22 (.tmp 71) none (some (.tmp 72)) none) 22)⟩,
 ⟨some 74, none, .app 10 120 (.t 70) (.t 73)⟩,
 ⟨some 10, none, .mv (.t 74)⟩])
 (.seq (.reg [⟨some 75, none, .mv (.t 10)⟩,
 ⟨some 76, none, .ld (some 10) (.t 3)⟩,
 ⟨some 77, none, .bsl 10 1 true [.sc (.string ⟨#[]⟩), .sc (.string ⟨#[]⟩), .sc (.int .i64 0), .sc (.int .i64 0), .sc (.int .i64 0), .sc (.int .i64 0), .sc (.string ⟨#[]⟩), .sc (.bool false), .sc (.int .i64 0), .sc (.slice none 0 0)] [(0, 10, (.t 76))]⟩,
 ⟨some 78, none, .app 10 120 (.t 75) (.t 77)⟩,
 ⟨some 10, none, .mv (.t 78)⟩])
 (.seq (.reg [⟨some 79, none, .mv (.t 10)⟩,
 ⟨some 80, none, .mv (.t 0)⟩,
 ⟨some 81, none, .mv (.t 7)⟩,
 ⟨some 82, none, .sl 10 (.t 80) (some (.t 81)) none none (pu (.slice 22 (.tmp 80) (some (.tmp 81)) none none) 22)⟩,
 ⟨some 83, none, .app 10 120 (.t 79) (.t 82)⟩,
 ⟨some 4, none, .mv (.t 83)⟩,
 ⟨some 5, none, .mv (.k (.sc (.int .i64 0)))⟩])
 .ret)))))))))))
def k12 : List Nat := [0, 1, 3, 4, 5, 6, 7, 8, 9, 10, 14, 20, 38, 44, 61, 64, 68]
theorem ic12 : factsI Try.prog 12 = some (84, [.tmp 4, .tmp 5], c12) := by kernel_rfl
def c13 : IC :=
 (.seq (.reg [⟨some 4, none, .mv (.k (.sc (.slice none 0 0)))⟩])
 (.seq (.reg [⟨some 5, none, .mv (.k (.sc (.slice none 0 0)))⟩])
 (.seq (.seq (.reg [⟨some 6, none, .mv (.k (.sc (.int .i64 0)))⟩,
 ⟨some 7, none, .mv (.k (.sc (.int .i64 0)))⟩])
 (.block 0 (.loop (.seq (.seq (.reg [⟨some 10, none, .mv (.t 6)⟩,
 ⟨some 11, none, .mv (.t 0)⟩,
 ⟨some 12, none, .len (.t 11) (pu (.call ⟨.builtin .len, #[(.tmp 11)], #[22]⟩) 3)⟩,
 ⟨some 13, none, .bin .lss false (.t 10) (.t 12) (pu (.binOp .lss 3 (.tmp 10) (.tmp 12) 3) 4)⟩])
 (.cond (.t 13) .skip
 (.exit 0)))
 (.seq (.block 1 (.seq (.seq (.reg [⟨some 15, none, .mv (.t 6)⟩,
 ⟨some 7, none, .mv (.t 15)⟩])
 (.block 2 (.loop (.seq (.seq (.drw [0, 0, 2, 7, 15, 31, 31, 127, 255, 511, 31, 31, 3103, 7199, 15391, 32767, 65535, 131071, 262143, 262143, 1048575, 2097151, 4194303, 262143, 262143, 25427967, 58982399, 126091263, 268435455, 536870911] [⟨some 16, none, .mv (.t 7)⟩,
 ⟨some 17, none, .mv (.t 0)⟩,
 ⟨some 18, none, .len (.t 17) (pu (.call ⟨.builtin .len, #[(.tmp 17)], #[22]⟩) 3)⟩,
 ⟨some 19, none, .bin .lss false (.t 16) (.t 18) (pu (.binOp .lss 3 (.tmp 16) (.tmp 18) 3) 4)⟩,
 ⟨some 20, none, .mv (.t 19)⟩,
 ⟨some 21, (some ((some 20), true)), .mv (.t 0)⟩,
 ⟨some 22, (some ((some 20), true)), .mv (.t 7)⟩,
 ⟨some 23, (some ((some 20), true)), .ixs 10 (.t 21) (.t 22)⟩,
 ⟨some 24, (some ((some 20), true)), .sh 0 (.t 23)⟩,
 ⟨some 25, (some ((some 20), true)), .ld none (.t 24)⟩,
 ⟨some 26, (some ((some 20), true)), .mv (.t 0)⟩,
 ⟨some 27, (some ((some 20), true)), .mv (.t 6)⟩,
 ⟨some 28, (some ((some 20), true)), .ixs 10 (.t 26) (.t 27)⟩,
 ⟨some 29, (some ((some 20), true)), .sh 0 (.t 28)⟩,
 ⟨some 30, (some ((some 20), true)), .ld none (.t 29)⟩,
 ⟨some 31, (some ((some 20), true)), .bin .eql false (.t 25) (.t 30) (pu (.binOp .eql 9 (.tmp 25) (.tmp 30) 9) 4)⟩,
 ⟨some 32, none, .pick (.t 20) (.t 31) (.k (.sc (.bool false)))⟩,
 ⟨some 33, none, .mv (.t 32)⟩,
 ⟨some 34, (some ((some 33), true)), .mv (.t 0)⟩,
 ⟨some 35, (some ((some 33), true)), .mv (.t 7)⟩,
 ⟨some 36, (some ((some 33), true)), .ixs 10 (.t 34) (.t 35)⟩,
 ⟨some 37, (some ((some 33), true)), .sh 1 (.t 36)⟩,
 ⟨some 38, (some ((some 33), true)), .ld none (.t 37)⟩,
 ⟨some 39, (some ((some 33), true)), .mv (.t 0)⟩,
 ⟨some 40, (some ((some 33), true)), .mv (.t 6)⟩,
 ⟨some 41, (some ((some 33), true)), .ixs 10 (.t 39) (.t 40)⟩,
 ⟨some 42, (some ((some 33), true)), .sh 1 (.t 41)⟩,
 ⟨some 43, (some ((some 33), true)), .ld none (.t 42)⟩,
 ⟨some 44, (some ((some 33), true)), .bin .eql false (.t 38) (.t 43) (pu (.binOp .eql 9 (.tmp 38) (.tmp 43) 9) 4)⟩,
 ⟨some 45, none, .pick (.t 33) (.t 44) (.k (.sc (.bool false)))⟩])
 (.cond (.t 45) .skip
 (.exit 2)))
 (.block 3 (.reg [⟨some 46, none, .mv (.t 7)⟩,
 ⟨some 47, none, .bin .add false (.t 46) (.k (.sc (.int .i64 1))) (pu (.binOp .add 3 (.tmp 46) (.const (.int .i64 1)) 3) 3)⟩,
 ⟨some 7, none, .mv (.t 47)⟩]))))))
 (.seq (.reg [⟨some 49, none, .mv (.t 0)⟩,
 ⟨some 50, none, .mv (.t 6)⟩,
 ⟨some 51, none, .mv (.t 7)⟩,
 ⟨some 52, none, .sl 10 (.t 49) (some (.t 50)) (some (.t 51)) none (pu (.slice 22 (.tmp 49) (some (.tmp 50)) (some (.tmp 51)) none) 22)⟩,
 ⟨some 53, none, .mv (.t 1)⟩,
 ⟨some 54, none, .call 9 [(.t 52), (.t 53)]⟩,
 ⟨some 48, none, .mv (.t 54)⟩,
 ⟨some 55, none, .ext (.t 48) 0⟩,
 ⟨some 56, none, .ext (.t 48) 1⟩,
 ⟨some 8, none, .al (.agg [.sc (.string ⟨#[]⟩), .sc (.string ⟨#[]⟩), .sc (.int .i64 0), .sc (.string ⟨#[]⟩), .sc (.int .i64 0), .sc (.int .i64 0), .sc (.slice none 0 0), .sc (.int .i64 0), .sc (.int .i64 0), .sc (.bool false), .sc (.bool false)]) 11⟩,
 ⟨none, none, .st 11 (.t 8) (.t 55)⟩,
 ⟨some 9, none, .mv (.t 56)⟩])
 (.seq (.reg [⟨some 57, none, .mv (.t 9)⟩,
 ⟨some 58, none, .bin .eql false (.t 57) (.k (.sc (.int .i64 0))) (pu (.binOp .eql 30 (.tmp 57) (.const (.int .i64 0)) 30) 4)⟩])
 (.cond (.t 58) (.reg [⟨some 59, none, .mv (.t 5)⟩,
 ⟨some 60, none, .ld (some 11) (.t 8)⟩,
 ⟨some 61, none, .bsl 11 1 true [.sc (.string ⟨#[]⟩), .sc (.string ⟨#[]⟩), .sc (.int .i64 0), .sc (.string ⟨#[]⟩), .sc (.int .i64 0), .sc (.int .i64 0), .sc (.slice none 0 0), .sc (.int .i64 0), .sc (.int .i64 0), .sc (.bool false), .sc (.bool false)] [(0, 11, (.t 60))]⟩,
 ⟨some 62, none, .app 11 120 (.t 59) (.t 61)⟩,
 ⟨some 5, none, .mv (.t 62)⟩])
 .skip)))))
 (.reg [⟨some 14, none, .mv (.t 7)⟩,
 ⟨some 6, none, .mv (.t 14)⟩]))))))
 (.seq (.reg [⟨some 63, none, .mv (.t 5)⟩,
 ⟨some 4, none, .mv (.t 63)⟩])
 .ret))))
def k13 : List Nat := [0, 1, 4, 5, 6, 7, 8, 9, 13, 45, 58]
theorem ic13 : factsI Try.prog 13 = some (64, [.tmp 4], c13) := by kernel_rfl
def c14 : IC :=
 (.seq (.reg [⟨some 4, none, .mv (.k (.sc (.slice none 0 0)))⟩])
 (.seq (.reg [⟨some 5, none, .mv (.k (.sc (.slice none 0 0)))⟩])
 (.seq (.seq (.reg [⟨some 10, none, .mv (.t 0)⟩,
 ⟨some 11, none, .call 29 [(.t 10)]⟩,
 ⟨some 12, none, .len (.t 11) (pu (.call ⟨.builtin .len, #[(.tmp 11)], #[54]⟩) 3)⟩,
 ⟨some 13, none, .mv (.k (.sc (.int .i64 0)))⟩])
 (.block 0 (.loop (.seq (.reg [⟨some 14, none, .bin .lss false (.t 13) (.t 12) (pu (.binOp .lss 3 (.tmp 13) (.tmp 12) 3) 0)⟩])
 (.seq (.cond (.t 14) .skip
 (.exit 0))
 (.seq (.block 1 (.seq (.reg [⟨some 15, none, .ixs 1 (.t 11) (.t 13)⟩,
 ⟨some 16, none, .ld none (.t 15)⟩,
 ⟨some 7, none, .mv (.t 16)⟩])
 (.seq (.drw [0, 0, 2, 6, 0, 16, 48, 127, 0, 511, 1023, 2047, 2047, 0, 12287, 32767] [⟨some 18, none, .mv (.t 0)⟩,
 ⟨some 19, none, .mv (.t 7)⟩,
 ⟨some 20, none, .ixs 1 (.t 19) (.k (.sc (.int .i64 0)))⟩,
 ⟨some 21, none, .ld none (.t 20)⟩,
 ⟨some 22, none, .mv (.t 7)⟩,
 ⟨some 23, none, .ixs 1 (.t 22) (.k (.sc (.int .i64 1)))⟩,
 ⟨some 24, none, .ld none (.t 23)⟩,
 ⟨some 25, none, .call 31 [(.t 18), (.t 21), (.t 24)]⟩,
 ⟨some 26, none, .mv (.t 1)⟩,
 ⟨some 27, none, .call 30 [(.t 25), (.t 26)]⟩,
 ⟨some 17, none, .mv (.t 27)⟩,
 ⟨some 28, none, .ext (.t 17) 0⟩,
 ⟨some 29, none, .ext (.t 17) 1⟩,
 ⟨some 8, none, .al (.agg [.sc (.string ⟨#[]⟩), .sc (.string ⟨#[]⟩), .sc (.int .i64 0), .sc (.string ⟨#[]⟩), .sc (.int .i64 0), .sc (.int .i64 0), .sc (.slice none 0 0), .sc (.int .i64 0), .sc (.int .i64 0), .sc (.bool false), .sc (.bool false)]) 11⟩,
 ⟨none, none, .st 11 (.t 8) (.t 28)⟩,
 ⟨some 9, none, .mv (.t 29)⟩])
 (.seq (.reg [⟨some 30, none, .mv (.t 9)⟩,
 ⟨some 31, none, .bin .eql false (.t 30) (.k (.sc (.int .i64 0))) (pu (.binOp .eql 30 (.tmp 30) (.const (.int .i64 0)) 30) 4)⟩])
 (.cond (.t 31) (.reg [⟨some 32, none, .mv (.t 5)⟩,
 ⟨some 33, none, .ld (some 11) (.t 8)⟩,
 ⟨some 34, none, .bsl 11 1 true [.sc (.string ⟨#[]⟩), .sc (.string ⟨#[]⟩), .sc (.int .i64 0), .sc (.string ⟨#[]⟩), .sc (.int .i64 0), .sc (.int .i64 0), .sc (.slice none 0 0), .sc (.int .i64 0), .sc (.int .i64 0), .sc (.bool false), .sc (.bool false)] [(0, 11, (.t 33))]⟩,
 ⟨some 35, none, .app 11 120 (.t 32) (.t 34)⟩,
 ⟨some 5, none, .mv (.t 35)⟩])
 .skip)))))
 (.reg [⟨some 36, none, .bin .add false (.t 13) (.k (.sc (.int .i64 1))) (pu (.binOp .add 3 (.tmp 13) (.const (.int .i64 1)) 3) 3)⟩,
 ⟨some 13, none, .mv (.t 36)⟩])))))))
 (.seq (.reg [⟨some 37, none, .mv (.t 5)⟩,
 ⟨some 4, none, .mv (.t 37)⟩])
 .ret))))
def k14 : List Nat := [0, 1, 4, 5, 7, 8, 9, 11, 12, 13, 14, 31]
theorem ic14 : factsI Try.prog 14 = some (38, [.tmp 4], c14) := by kernel_rfl
def c15 : IC :=
 (.seq (.reg [⟨some 2, none, .bx (.t 0)⟩,
 ⟨some 3, none, .bx (.t 1)⟩,
 ⟨some 4, none, .mv (.k (.sc (.bool false)))⟩])
 (.seq (.reg [⟨some 5, none, .ld (some 11) (.t 2)⟩,
 ⟨some 6, none, .ld (some 11) (.t 3)⟩,
 ⟨some 7, none, .call 32 [(.t 5), (.t 6)]⟩,
 ⟨some 8, none, .mv (.t 7)⟩,
 ⟨some 9, (some ((some 8), true)), .sh 9 (.t 2)⟩,
 ⟨some 10, (some ((some 8), true)), .ld none (.t 9)⟩,
 ⟨some 11, (some ((some 8), true)), .sh 9 (.t 3)⟩,
 ⟨some 12, (some ((some 8), true)), .ld none (.t 11)⟩,
 ⟨some 13, (some ((some 8), true)), .bin .eql true (.t 10) (.t 12) (pu (.binOp .eql 4 (.tmp 10) (.tmp 12) 4) 4)⟩,
 ⟨some 14, none, .pick (.t 8) (.t 13) (.k (.sc (.bool false)))⟩,
 ⟨some 4, none, .mv (.t 14)⟩])
 .ret))
def k15 : List Nat := [0, 1, 2, 3, 4]
theorem ic15 : factsI Try.prog 15 = some (15, [.tmp 4], c15) := by kernel_rfl
def c16 : IC :=
 (.seq (.reg [⟨some 2, none, .mv (.k (.sc (.slice none 0 0)))⟩,
 ⟨some 3, none, .mv (.k (.sc (.int .i64 0)))⟩])
 (.seq (.seq (.reg [⟨some 14, none, .mv (.t 0)⟩,
 ⟨some 15, none, .len (.t 14) (pu (.call ⟨.builtin .len, #[(.tmp 14)], #[22]⟩) 3)⟩,
 ⟨some 16, none, .mv (.k (.sc (.int .i64 0)))⟩])
 (.block 0 (.loop (.seq (.reg [⟨some 17, none, .bin .lss false (.t 16) (.t 15) (pu (.binOp .lss 3 (.tmp 16) (.tmp 15) 3) 0)⟩])
 (.seq (.cond (.t 17) .skip
 (.exit 0))
 (.seq (.block 1 (.seq (.reg [⟨some 18, none, .ixs 10 (.t 14) (.t 16)⟩,
 ⟨some 19, none, .ld (some 10) (.t 18)⟩,
 ⟨some 5, none, .al (.agg [.sc (.string ⟨#[]⟩), .sc (.string ⟨#[]⟩), .sc (.int .i64 0), .sc (.int .i64 0), .sc (.int .i64 0), .sc (.int .i64 0), .sc (.string ⟨#[]⟩), .sc (.bool false), .sc (.int .i64 0), .sc (.slice none 0 0)]) 10⟩,
 ⟨none, none, .st 10 (.t 5) (.t 19)⟩])
 (.seq (.reg [⟨some 20, none, .ld (some 10) (.t 5)⟩,
 ⟨some 21, none, .call 33 [(.t 20)]⟩,
 ⟨some 6, none, .mv (.t 21)⟩])
 (.seq (.reg [⟨some 22, none, .mv (.t 6)⟩,
 ⟨some 23, none, .bin .neq false (.t 22) (.k (.sc (.int .i64 0))) (pu (.binOp .neq 30 (.tmp 22) (.const (.int .i64 0)) 30) 4)⟩])
 (.cond (.t 23) (.seq (.reg [⟨some 24, none, .mv (.t 6)⟩,
 ⟨some 2, none, .mv (.k (.sc (.slice none 0 0)))⟩,
 ⟨some 3, none, .mv (.t 24)⟩])
 .ret)
 .skip)))))
 (.reg [⟨some 25, none, .bin .add false (.t 16) (.k (.sc (.int .i64 1))) (pu (.binOp .add 3 (.tmp 16) (.const (.int .i64 1)) 3) 3)⟩,
 ⟨some 16, none, .mv (.t 25)⟩])))))))
 (.seq (.seq (.reg [⟨some 26, none, .mv (.t 0)⟩,
 ⟨some 27, none, .len (.t 26) (pu (.call ⟨.builtin .len, #[(.tmp 26)], #[22]⟩) 3)⟩,
 ⟨some 28, none, .mv (.k (.sc (.int .i64 0)))⟩])
 (.block 2 (.loop (.seq (.reg [⟨some 29, none, .bin .lss false (.t 28) (.t 27) (pu (.binOp .lss 3 (.tmp 28) (.tmp 27) 3) 0)⟩])
 (.seq (.cond (.t 29) .skip
 (.exit 2))
 (.seq (.block 3 (.seq (.reg [⟨some 30, none, .ixs 10 (.t 26) (.t 28)⟩,
 ⟨some 31, none, .ld (some 10) (.t 30)⟩,
 ⟨some 8, none, .al (.agg [.sc (.string ⟨#[]⟩), .sc (.string ⟨#[]⟩), .sc (.int .i64 0), .sc (.int .i64 0), .sc (.int .i64 0), .sc (.int .i64 0), .sc (.string ⟨#[]⟩), .sc (.bool false), .sc (.int .i64 0), .sc (.slice none 0 0)]) 10⟩,
 ⟨none, none, .st 10 (.t 8) (.t 31)⟩])
 (.seq (.drw [0, 1, 0, 4, 12, 28, 63, 127, 255, 511, 255, 1279, 3327, 7423, 16383, 32767] [⟨some 32, none, .sh 0 (.t 8)⟩,
 ⟨some 33, none, .ld none (.t 32)⟩,
 ⟨some 34, none, .mv (.t 0)⟩,
 ⟨some 35, none, .ixs 10 (.t 34) (.k (.sc (.int .i64 0)))⟩,
 ⟨some 36, none, .sh 0 (.t 35)⟩,
 ⟨some 37, none, .ld none (.t 36)⟩,
 ⟨some 38, none, .bin .neq false (.t 33) (.t 37) (pu (.binOp .neq 9 (.tmp 33) (.tmp 37) 9) 4)⟩,
 ⟨some 39, none, .mv (.t 38)⟩,
 ⟨some 40, (some ((some 39), false)), .sh 1 (.t 8)⟩,
 ⟨some 41, (some ((some 39), false)), .ld none (.t 40)⟩,
 ⟨some 42, (some ((some 39), false)), .mv (.t 0)⟩,
 ⟨some 43, (some ((some 39), false)), .ixs 10 (.t 42) (.k (.sc (.int .i64 0)))⟩,
 ⟨some 44, (some ((some 39), false)), .sh 1 (.t 43)⟩,
 ⟨some 45, (some ((some 39), false)), .ld none (.t 44)⟩,
 ⟨some 46, (some ((some 39), false)), .bin .neq false (.t 41) (.t 45) (pu (.binOp .neq 9 (.tmp 41) (.tmp 45) 9) 4)⟩,
 ⟨some 47, none, .pick (.t 39) (.k (.sc (.bool true))) (.t 46)⟩])
 (.cond (.t 47) (.seq (.reg [⟨some 2, none, .mv (.k (.sc (.slice none 0 0)))⟩,
 ⟨some 3, none, .mv (.k (.sc (.int .i64 23)))⟩])
 .ret)
 .skip))))
 (.reg [⟨some 48, none, .bin .add false (.t 28) (.k (.sc (.int .i64 1))) (pu (.binOp .add 3 (.tmp 28) (.const (.int .i64 1)) 3) 3)⟩,
 ⟨some 28, none, .mv (.t 48)⟩])))))))
 (.seq (.reg [⟨some 49, none, .mv (.t 0)⟩,
 ⟨some 50, none, .call 34 [(.t 49)]⟩,
 ⟨some 9, none, .mv (.t 50)⟩])
 (.seq (.reg [⟨some 51, none, .mv (.t 9)⟩,
 ⟨some 52, none, .call 35 [(.t 51), (.k (.sc (.func (.func 36) #[] #[])))]⟩])
 (.seq (.reg [⟨some 10, none, .mv (.k (.sc (.slice none 0 0)))⟩])
 (.seq (.seq (.reg [⟨some 53, none, .mv (.t 9)⟩,
 ⟨some 54, none, .len (.t 53) (pu (.call ⟨.builtin .len, #[(.tmp 53)], #[22]⟩) 3)⟩,
 ⟨some 55, none, .mv (.k (.sc (.int .i64 0)))⟩])
 (.block 4 (.loop (.seq (.reg [⟨some 56, none, .bin .lss false (.t 55) (.t 54) (pu (.binOp .lss 3 (.tmp 55) (.tmp 54) 3) 0)⟩])
 (.seq (.cond (.t 56) .skip
 (.exit 4))
 (.seq (.block 5 (.seq (.reg [⟨some 57, none, .ixs 10 (.t 53) (.t 55)⟩,
 ⟨some 58, none, .ld (some 10) (.t 57)⟩,
 ⟨some 12, none, .al (.agg [.sc (.string ⟨#[]⟩), .sc (.string ⟨#[]⟩), .sc (.int .i64 0), .sc (.int .i64 0), .sc (.int .i64 0), .sc (.int .i64 0), .sc (.string ⟨#[]⟩), .sc (.bool false), .sc (.int .i64 0), .sc (.slice none 0 0)]) 10⟩,
 ⟨none, none, .st 10 (.t 12) (.t 58)⟩])
 (.seq (.reg [⟨some 59, none, .mv (.t 10)⟩,
 ⟨some 60, none, .len (.t 59) (pu (.call ⟨.builtin .len, #[(.tmp 59)], #[22]⟩) 3)⟩,
 ⟨some 13, none, .mv (.t 60)⟩])
 (.seq (.drw [0, 1, 3, 7, 7, 23, 63, 127, 255, 7, 519, 2047, 4095] [⟨some 61, none, .mv (.t 13)⟩,
 ⟨some 62, none, .bin .eql false (.t 61) (.k (.sc (.int .i64 0))) (pu (.binOp .eql 3 (.tmp 61) (.const (.int .i64 0)) 3) 4)⟩,
 ⟨some 63, none, .mv (.t 62)⟩,
 ⟨some 64, (some ((some 63), false)), .mv (.t 10)⟩,
 ⟨some 65, (some ((some 63), false)), .mv (.t 13)⟩,
 ⟨some 66, (some ((some 63), false)), .bin .sub false (.t 65) (.k (.sc (.int .i64 1))) (pu (.binOp .sub 3 (.tmp 65) (.const (.int .i64 1)) 3) 3)⟩,
 ⟨some 67, (some ((some 63), false)), .ixs 10 (.t 64) (.t 66)⟩,
 ⟨some 68, (some ((some 63), false)), .sh 3 (.t 67)⟩,
 ⟨some 69, (some ((some 63), false)), .ld none (.t 68)⟩,
 ⟨some 70, (some ((some 63), false)), .sh 3 (.t 12)⟩,
 ⟨some 71, (some ((some 63), false)), .ld none (.t 70)⟩,
 ⟨some 72, (some ((some 63), false)), .bin .neq false (.t 69) (.t 71) (pu (.binOp .neq 3 (.tmp 69) (.tmp 71) 3) 4)⟩,
 ⟨some 73, none, .pick (.t 63) (.k (.sc (.bool true))) (.t 72)⟩])
 (.cond (.t 73) (.reg [⟨some 74, none, .mv (.t 10)⟩,
 ⟨some 75, none, .ld (some 10) (.t 12)⟩,
 ⟨some 76, none, .bsl 10 1 true [.sc (.string ⟨#[]⟩), .sc (.string ⟨#[]⟩), .sc (.int .i64 0), .sc (.int .i64 0), .sc (.int .i64 0), .sc (.int .i64 0), .sc (.string ⟨#[]⟩), .sc (.bool false), .sc (.int .i64 0), .sc (.slice none 0 0)] [(0, 10, (.t 75))]⟩,
 ⟨some 77, none, .app 10 120 (.t 74) (.t 76)⟩,
 ⟨some 10, none, .mv (.t 77)⟩])
 (.seq (.drw [0, 0, 2, 7, 15, 0, 63, 127] [⟨some 78, none, .mv (.t 10)⟩,
 ⟨some 79, none, .mv (.t 13)⟩,
 ⟨some 80, none, .bin .sub false (.t 79) (.k (.sc (.int .i64 1))) (pu (.binOp .sub 3 (.tmp 79) (.const (.int .i64 1)) 3) 3)⟩,
 ⟨some 81, none, .ixs 10 (.t 78) (.t 80)⟩,
 ⟨some 82, none, .ld (some 10) (.t 81)⟩,
 ⟨some 83, none, .ld (some 10) (.t 12)⟩,
 ⟨some 84, none, .call 37 [(.t 82), (.t 83)]⟩,
 ⟨some 85, none, .un .not (.t 84) (pu (.unOp .not 4 (.tmp 84)) 4)⟩])
 (.cond (.t 85) (.seq (.reg [⟨some 2, none, .mv (.k (.sc (.slice none 0 0)))⟩,
 ⟨some 3, none, .mv (.k (.sc (.int .i64 23)))⟩])
 .ret)
 .skip)))))))
 (.reg [⟨some 86, none, .bin .add false (.t 55) (.k (.sc (.int .i64 1))) (pu (.binOp .add 3 (.tmp 55) (.const (.int .i64 1)) 3) 3)⟩,
 ⟨some 55, none, .mv (.t 86)⟩])))))))
 (.seq (.reg [⟨some 87, none, .mv (.t 10)⟩,
 ⟨some 2, none, .mv (.t 87)⟩,
 ⟨some 3, none, .mv (.k (.sc (.int .i64 0)))⟩])
 .ret))))))))
def k16 : List Nat := [0, 2, 3, 5, 6, 8, 9, 10, 12, 13, 14, 15, 16, 17, 23, 26, 27, 28, 29, 47, 53, 54, 55, 56, 73, 85]
theorem ic16 : factsI Try.prog 16 = some (88, [.tmp 2, .tmp 3], c16) := by kernel_rfl
def c17 : IC :=
 (.seq (.reg [⟨some 2, none, .mv (.k (.sc (.bool false)))⟩])
 (.scope (.seq (.reg [⟨some 3, none, .mv (.k (.sc (.bool false)))⟩,
 ⟨some 4, none, .mv (.k (.sc (.bool false)))⟩])
 (.seq .skip
 (.seq (.seq (.reg [⟨some 7, none, .mv (.t 0)⟩,
 ⟨some 8, none, .len (.t 7) (pu (.call ⟨.builtin .len, #[(.tmp 7)], #[22]⟩) 3)⟩,
 ⟨some 9, none, .mv (.k (.sc (.int .i64 0)))⟩])
 (.block 0 (.loop (.seq (.reg [⟨some 10, none, .bin .lss false (.t 9) (.t 8) (pu (.binOp .lss 3 (.tmp 9) (.tmp 8) 3) 0)⟩])
 (.seq (.cond (.t 10) .skip
 (.exit 0))
 (.seq (.block 1 (.seq (.reg [⟨some 11, none, .ixs 10 (.t 7) (.t 9)⟩,
 ⟨some 12, none, .ld (some 10) (.t 11)⟩,
 ⟨some 6, none, .al (.agg [.sc (.string ⟨#[]⟩), .sc (.string ⟨#[]⟩), .sc (.int .i64 0), .sc (.int .i64 0), .sc (.int .i64 0), .sc (.int .i64 0), .sc (.string ⟨#[]⟩), .sc (.bool false), .sc (.int .i64 0), .sc (.slice none 0 0)]) 10⟩,
 ⟨none, none, .st 10 (.t 6) (.t 12)⟩])
 (.seq (.block 2 (.seq (.reg [⟨some 14, none, .sh 3 (.t 6)⟩,
 ⟨some 15, none, .ld none (.t 14)⟩,
 ⟨some 16, none, .bin .eql false (.t 15) (.k (.sc (.int .i64 0))) (pu (.binOp .eql 3 (.tmp 15) (.const (.int .i64 0)) 3) 4)⟩,
 ⟨some 13, none, .mv (.t 16)⟩])
 (.cond (.t 13) (.reg [⟨some 3, none, .mv (.k (.sc (.bool true)))⟩])
 (.seq (.reg [⟨some 18, none, .sh 4 (.t 6)⟩,
 ⟨some 19, none, .ld none (.t 18)⟩,
 ⟨some 20, none, .bin .eql false (.t 19) (.k (.sc (.int .i64 3))) (pu (.binOp .eql 3 (.tmp 19) (.const (.int .i64 3)) 3) 4)⟩,
 ⟨some 17, none, .mv (.t 20)⟩])
 (.cond (.t 17) (.reg [⟨some 4, none, .mv (.k (.sc (.bool true)))⟩])
 .skip)))))
 (.seq (.reg [⟨some 21, none, .mv (.t 3)⟩,
 ⟨some 22, none, .mv (.t 21)⟩,
 ⟨some 23, (some ((some 22), true)), .mv (.t 4)⟩,
 ⟨some 24, none, .pick (.t 22) (.t 23) (.k (.sc (.bool false)))⟩])
 (.cond (.t 24) (.exit 0)
 .skip)))))
 (.reg [⟨some 25, none, .bin .add false (.t 9) (.k (.sc (.int .i64 1))) (pu (.binOp .add 3 (.tmp 9) (.const (.int .i64 1)) 3) 3)⟩,
 ⟨some 9, none, .mv (.t 25)⟩])))))))
 (.seq (.reg [⟨some 26, none, .mv (.t 3)⟩,
 ⟨some 27, none, .mv (.t 26)⟩,
 ⟨some 28, (some ((some 27), true)), .mv (.t 4)⟩,
 ⟨some 29, none, .pick (.t 27) (.t 28) (.k (.sc (.bool false)))⟩,
 ⟨some 2, none, .mv (.t 29)⟩])
 .ret))))))
def k17 : List Nat := [0, 2, 3, 4, 6, 7, 8, 9, 10, 13, 17, 24]
theorem ic17 : factsI Try.prog 17 = some (30, [.tmp 2], c17) := by kernel_rfl
def c18 : IC :=
 (.seq (.reg [⟨some 2, none, .mv (.k (.sc (.slice none 0 0)))⟩,
 ⟨some 3, none, .mv (.k (.sc (.int .i64 0)))⟩])
 (.seq (.reg [⟨some 4, none, .mv (.k (.sc (.slice none 0 0)))⟩])
 (.seq (.seq (.reg [⟨some 8, none, .mv (.t 0)⟩,
 ⟨some 9, none, .len (.t 8) (pu (.call ⟨.builtin .len, #[(.tmp 8)], #[22]⟩) 3)⟩,
 ⟨some 10, none, .mv (.k (.sc (.int .i64 0)))⟩])
 (.block 0 (.loop (.seq (.reg [⟨some 11, none, .bin .lss false (.t 10) (.t 9) (pu (.binOp .lss 3 (.tmp 10) (.tmp 9) 3) 0)⟩])
 (.seq (.cond (.t 11) .skip
 (.exit 0))
 (.seq (.block 1 (.seq (.reg [⟨some 12, none, .ixs 10 (.t 8) (.t 10)⟩,
 ⟨some 13, none, .ld (some 10) (.t 12)⟩,
 ⟨some 6, none, .al (.agg [.sc (.string ⟨#[]⟩), .sc (.string ⟨#[]⟩), .sc (.int .i64 0), .sc (.int .i64 0), .sc (.int .i64 0), .sc (.int .i64 0), .sc (.string ⟨#[]⟩), .sc (.bool false), .sc (.int .i64 0), .sc (.slice none 0 0)]) 10⟩,
 ⟨none, none, .st 10 (.t 6) (.t 13)⟩])
 (.seq (.reg [⟨some 7, none, .mv (.k (.sc (.int .i64 0)))⟩])
 (.seq (.reg [⟨some 15, none, .mv (.t 4)⟩,
 ⟨some 16, none, .sh 9 (.t 6)⟩,
 ⟨some 17, none, .ld none (.t 16)⟩,
 ⟨some 18, none, .call 38 [(.t 15), (.t 17)]⟩,
 ⟨some 14, none, .mv (.t 18)⟩,
 ⟨some 19, none, .ext (.t 14) 0⟩,
 ⟨some 20, none, .ext (.t 14) 1⟩,
 ⟨some 4, none, .mv (.t 19)⟩,
 ⟨some 7, none, .mv (.t 20)⟩])
 (.seq (.reg [⟨some 21, none, .mv (.t 7)⟩,
 ⟨some 22, none, .bin .neq false (.t 21) (.k (.sc (.int .i64 0))) (pu (.binOp .neq 30 (.tmp 21) (.const (.int .i64 0)) 30) 4)⟩])
 (.cond (.t 22) (.seq (.reg [⟨some 23, none, .mv (.t 7)⟩,
 ⟨some 2, none, .mv (.k (.sc (.slice none 0 0)))⟩,
 ⟨some 3, none, .mv (.t 23)⟩])
 .ret)
 .skip))))))
 (.reg [⟨some 24, none, .bin .add false (.t 10) (.k (.sc (.int .i64 1))) (pu (.binOp .add 3 (.tmp 10) (.const (.int .i64 1)) 3) 3)⟩,
 ⟨some 10, none, .mv (.t 24)⟩])))))))
 (.seq (.reg [⟨some 25, none, .mv (.t 4)⟩,
 ⟨some 2, none, .mv (.t 25)⟩,
 ⟨some 3, none, .mv (.k (.sc (.int .i64 0)))⟩])
 .ret))))
def k18 : List Nat := [0, 2, 3, 4, 6, 7, 8, 9, 10, 11, 22]
theorem ic18 : factsI Try.prog 18 = some (26, [.tmp 2, .tmp 3], c18) := by kernel_rfl
def c19 : IC :=
 (.seq (.reg [⟨some 3, none, .bx (.t 1)⟩,
 ⟨some 4, none, .al (.sc (.int .i64 0)) 1⟩,
 ⟨some 5, none, .al (.sc (.int .i64 0)) 1⟩])
 (.seq (.seq (.reg [⟨some 12, none, .mv (.t 0)⟩,
 ⟨some 13, none, .ld none (.t 3)⟩,
 ⟨some 14, none, .call 39 [(.t 12), (.t 13)]⟩,
 ⟨some 6, none, .mv (.t 14)⟩])
 (.seq (.reg [⟨some 15, none, .mv (.t 6)⟩,
 ⟨some 16, none, .bin .neq false (.t 15) (.k (.sc (.int .i64 0))) (pu (.binOp .neq 30 (.tmp 15) (.const (.int .i64 0)) 30) 4)⟩])
 (.cond (.t 16) (.seq (.reg [⟨some 17, none, .mv (.t 6)⟩,
 ⟨none, none, .st 1 (.t 4) (.k (.sc (.int .i64 0)))⟩,
 ⟨none, none, .st 1 (.t 5) (.t 17)⟩])
 .ret)
 .skip)))
 (.seq (.reg [⟨some 7, none, .al (.sc (.int .i64 0)) 1⟩,
 ⟨none, none, .st 1 (.t 7) (.k (.sc (.int .i64 0)))⟩])
 (.seq (.seq (.reg [⟨some 18, none, .mv (.t 0)⟩,
 ⟨some 19, none, .call 40 [(.t 18)]⟩])
 (.block 0 (.rfn (.t 19) [20, 21] (.seq (.reg [⟨some 8, none, .al (.agg [.sc (.int .i64 0), .sc (.int .i64 0)]) 2⟩,
 ⟨none, none, .st 2 (.t 8) (.t 20)⟩])
 (.reg [⟨some 9, none, .al (.agg [.sc (.int .i64 0), .sc (.int .i64 0)]) 2⟩,
 ⟨none, none, .st 2 (.t 9) (.t 21)⟩]))
 (.block 1 (.seq (.reg [⟨some 23, none, .sh 1 (.t 8)⟩,
 ⟨some 24, none, .ld none (.t 23)⟩,
 ⟨some 25, none, .sh 1 (.t 9)⟩,
 ⟨some 26, none, .ld none (.t 25)⟩,
 ⟨some 27, none, .ld none (.t 3)⟩,
 ⟨some 28, none, .call 41 [(.t 24), (.t 26), (.t 27)]⟩,
 ⟨some 22, none, .mv (.t 28)⟩,
 ⟨some 29, none, .ext (.t 22) 0⟩,
 ⟨some 30, none, .ext (.t 22) 1⟩,
 ⟨some 10, none, .mv (.t 29)⟩,
 ⟨some 11, none, .mv (.t 30)⟩])
 (.seq (.seq (.reg [⟨some 31, none, .mv (.t 11)⟩,
 ⟨some 32, none, .bin .neq false (.t 31) (.k (.sc (.int .i64 0))) (pu (.binOp .neq 30 (.tmp 31) (.const (.int .i64 0)) 30) 4)⟩])
 (.cond (.t 32) (.seq (.reg [⟨some 33, none, .mv (.t 11)⟩,
 ⟨none, none, .st 1 (.t 4) (.k (.sc (.int .i64 0)))⟩,
 ⟨none, none, .st 1 (.t 5) (.t 33)⟩])
 .ret)
 .skip))
 (.reg [⟨some 34, none, .ld none (.t 7)⟩,
 ⟨some 35, none, .mv (.t 10)⟩,
 ⟨some 36, none, .bin .add false (.t 34) (.t 35) (pu (.binOp .add 3 (.tmp 34) (.tmp 35) 3) 3)⟩,
 ⟨none, none, .st 1 (.t 7) (.t 36)⟩])))))))
 (.seq (.reg [⟨some 37, none, .ld none (.t 7)⟩,
 ⟨none, none, .st 1 (.t 4) (.t 37)⟩,
 ⟨none, none, .st 1 (.t 5) (.k (.sc (.int .i64 0)))⟩])
 .ret)))))
def k19 : List Nat := [0, 1, 3, 4, 5, 6, 7, 8, 9, 10, 11, 16, 19, 20, 21, 32]
theorem ic19 : factsI Try.prog 19 = some (38, [.cell 4 3, .cell 5 30], c19) := by kernel_rfl
def c20 : IC :=
 (.seq (.reg [⟨some 2, none, .mv (.k (.sc (.bool false)))⟩])
 (.seq (.seq (.reg [⟨some 5, none, .mv (.t 0)⟩,
 ⟨some 6, none, .lens (.t 5) (pu (.call ⟨.builtin .len, #[(.tmp 5)], #[9]⟩) 3)⟩,
 ⟨some 7, none, .bin .lss false (.t 6) (.k (.sc (.int .i64 1))) (pu (.binOp .lss 3 (.tmp 6) (.const (.int .i64 1)) 3) 4)⟩,
 ⟨some 8, none, .mv (.t 7)⟩,
 ⟨some 9, (some ((some 8), false)), .mv (.t 0)⟩,
 ⟨some 10, (some ((some 8), false)), .lens (.t 9) (pu (.call ⟨.builtin .len, #[(.tmp 9)], #[9]⟩) 3)⟩,
 ⟨some 11, (some ((some 8), false)), .bin .gtr false (.t 10) (.k (.sc (.int .i64 36))) (pu (.binOp .gtr 3 (.tmp 10) (.const (.int .i64 36)) 3) 4)⟩,
 ⟨some 12, none, .pick (.t 8) (.k (.sc (.bool true))) (.t 11)⟩])
 (.cond (.t 12) (.seq (.reg [⟨some 2, none, .mv (.k (.sc (.bool false)))⟩])
 .ret)
 .skip))
 (.seq (.seq (.reg [⟨some 3, none, .mv (.k (.sc (.int .i64 0)))⟩])
 (.block 0 (.loop (.seq (.seq (.reg [⟨some 13, none, .mv (.t 3)⟩,
 ⟨some 14, none, .mv (.t 0)⟩,
 ⟨some 15, none, .lens (.t 14) (pu (.call ⟨.builtin .len, #[(.tmp 14)], #[9]⟩) 3)⟩,
 ⟨some 16, none, .bin .lss false (.t 13) (.t 15) (pu (.binOp .lss 3 (.tmp 13) (.tmp 15) 3) 4)⟩])
 (.cond (.t 16) .skip
 (.exit 0)))
 (.seq (.block 1 (.seq (.reg [⟨some 19, none, .mv (.t 0)⟩,
 ⟨some 20, none, .mv (.t 3)⟩,
 ⟨some 21, none, .pur (pu (.index 9 (.tmp 19) (.tmp 20)) 5)⟩,
 ⟨some 4, none, .mv (.t 21)⟩])
 (.seq (.reg [⟨some 22, none, .mv (.t 4)⟩,
 ⟨some 23, none, .call 42 [(.t 22)]⟩,
 ⟨some 24, none, .bin .lss false (.t 23) (.k (.sc (.int .i64 0))) (pu (.binOp .lss 3 (.tmp 23) (.const (.int .i64 0)) 3) 4)⟩,
 ⟨some 25, none, .mv (.t 24)⟩,
 ⟨some 26, (some ((some 25), true)), .mv (.t 4)⟩,
 ⟨some 27, (some ((some 25), true)), .bin .neq false (.t 26) (.k (.sc (.int .u8 45))) (pu (.binOp .neq 5 (.tmp 26) (.const (.int .u8 45)) 5) 4)⟩,
 ⟨some 28, none, .pick (.t 25) (.t 27) (.k (.sc (.bool false)))⟩,
 ⟨some 29, none, .mv (.t 28)⟩,
 ⟨some 30, (some ((some 29), true)), .mv (.t 4)⟩,
 ⟨some 31, (some ((some 29), true)), .bin .neq false (.t 30) (.k (.sc (.int .u8 95))) (pu (.binOp .neq 5 (.tmp 30) (.const (.int .u8 95)) 5) 4)⟩,
 ⟨some 32, none, .pick (.t 29) (.t 31) (.k (.sc (.bool false)))⟩,
 ⟨some 33, none, .mv (.t 32)⟩,
 ⟨some 34, (some ((some 33), true)), .mv (.t 4)⟩,
 ⟨some 35, (some ((some 33), true)), .bin .neq false (.t 34) (.k (.sc (.int .u8 46))) (pu (.binOp .neq 5 (.tmp 34) (.const (.int .u8 46)) 5) 4)⟩,
 ⟨some 36, none, .pick (.t 33) (.t 35) (.k (.sc (.bool false)))⟩,
 ⟨some 37, none, .mv (.t 36)⟩,
 ⟨some 38, (some ((some 37), true)), .mv (.t 4)⟩,
 ⟨some 39, (some ((some 37), true)), .bin .neq false (.t 38) (.k (.sc (.int .u8 58))) (pu (.binOp .neq 5 (.tmp 38) (.const (.int .u8 58)) 5) 4)⟩,
 ⟨some 40, none, .pick (.t 37) (.t 39) (.k (.sc (.bool false)))⟩,
 ⟨some 41, none, .mv (.t 40)⟩,
 ⟨some 42, (some ((some 41), true)), .mv (.t 4)⟩,
 ⟨some 43, (some ((some 41), true)), .bin .neq false (.t 42) (.k (.sc (.int .u8 42))) (pu (.binOp .neq 5 (.tmp 42) (.const (.int .u8 42)) 5) 4)⟩,
 ⟨some 44, none, .pick (.t 41) (.t 43) (.k (.sc (.bool false)))⟩])
 (.cond (.t 44) (.seq (.reg [⟨some 2, none, .mv (.k (.sc (.bool false)))⟩])
 .ret)
 .skip))))
 (.reg [⟨some 17, none, .mv (.t 3)⟩,
 ⟨some 18, none, .bin .add false (.t 17) (.k (.sc (.int .i64 1))) (pu (.binOp .add 3 (.tmp 17) (.const (.int .i64 1)) 3) 3)⟩,
 ⟨some 3, none, .mv (.t 18)⟩]))))))
 (.seq (.reg [⟨some 2, none, .mv (.k (.sc (.bool true)))⟩])
 .ret))))
def k20 : List Nat := [0, 2, 3, 4, 12, 16, 44]
theorem ic20 : factsI Try.prog 20 = some (45, [.tmp 2], c20) := by kernel_rfl
def c21 : IC :=
 (.seq (.reg [⟨some 6, none, .mv (.k (.sc (.bool false)))⟩])
 (.seq (.reg [⟨some 7, none, .mv (.t 0)⟩,
 ⟨some 8, none, .mv (.t 1)⟩,
 ⟨some 9, none, .bin .geq false (.t 7) (.t 8) (pu (.binOp .geq 3 (.tmp 7) (.tmp 8) 3) 4)⟩,
 ⟨some 10, none, .mv (.t 9)⟩,
 ⟨some 11, (some ((some 10), true)), .mv (.t 0)⟩,
 ⟨some 12, (some ((some 10), true)), .mv (.t 2)⟩,
 ⟨some 13, (some ((some 10), true)), .bin .leq false (.t 11) (.t 12) (pu (.binOp .leq 3 (.tmp 11) (.tmp 12) 3) 4)⟩,
 ⟨some 14, none, .pick (.t 10) (.t 13) (.k (.sc (.bool false)))⟩,
 ⟨some 6, none, .mv (.t 14)⟩])
 .ret))
def k21 : List Nat := [0, 1, 2, 6]
theorem ic21 : factsI Try.prog 21 = some (15, [.tmp 6], c21) := by kernel_rfl
def c22 : IC :=
 (.seq (.reg [⟨some 2, none, .mv (.k (.sc (.bool false)))⟩])
 (.seq (.reg [⟨some 3, none, .mv (.t 0)⟩,
 ⟨some 4, none, .bin .geq false (.t 3) (.k (.sc (.int .i64 0))) (pu (.binOp .geq 3 (.tmp 3) (.const (.int .i64 0)) 3) 4)⟩,
 ⟨some 5, none, .mv (.t 4)⟩,
 ⟨some 6, (some ((some 5), true)), .mv (.t 0)⟩,
 ⟨some 7, (some ((some 5), true)), .bin .leq false (.t 6) (.k (.sc (.int .i64 268435456))) (pu (.binOp .leq 3 (.tmp 6) (.const (.int .i64 268435456)) 3) 4)⟩,
 ⟨some 8, none, .pick (.t 5) (.t 7) (.k (.sc (.bool false)))⟩,
 ⟨some 2, none, .mv (.t 8)⟩])
 .ret))
def k22 : List Nat := [0, 2]
theorem ic22 : factsI Try.prog 22 = some (9, [.tmp 2], c22) := by kernel_rfl
def c23 : IC :=
 (.seq (.reg [⟨some 1, none, .bx (.t 0)⟩,
 ⟨some 2, none, .mv (.k (.sc (.int .i64 0)))⟩])
 (.seq (.seq (.reg [⟨some 4, none, .sh 9 (.t 1)⟩,
 ⟨some 5, none, .ld none (.t 4)⟩,
 ⟨some 6, none, .len (.t 5) (pu (.call ⟨.builtin .len, #[(.tmp 5)], #[25]⟩) 3)⟩,
 ⟨some 7, none, .bin .gtr false (.t 6) (.k (.sc (.int .i64 16))) (pu (.binOp .gtr 3 (.tmp 6) (.const (.int .i64 16)) 3) 4)⟩])
 (.cond (.t 7) (.seq (.reg [⟨some 2, none, .mv (.k (.sc (.int .i64 3)))⟩])
 .ret)
 .skip))
 (.seq (.seq (.reg [⟨some 8, none, .sh 9 (.t 1)⟩,
 ⟨some 9, none, .ld none (.t 8)⟩,
 ⟨some 10, none, .len (.t 9) (pu (.call ⟨.builtin .len, #[(.tmp 9)], #[25]⟩) 3)⟩,
 ⟨some 11, none, .bin .eql false (.t 10) (.k (.sc (.int .i64 0))) (pu (.binOp .eql 3 (.tmp 10) (.const (.int .i64 0)) 3) 4)⟩])
 (.cond (.t 11) (.seq (.reg [⟨some 2, none, .mv (.k (.sc (.int .i64 1)))⟩])
 .ret)
 .skip))
 (.seq (.seq (.reg [⟨some 3, none, .mv (.k (.sc (.int .i64 0)))⟩])
 (.block 0 (.loop (.seq (.seq (.reg [⟨some 12, none, .mv (.t 3)⟩,
 ⟨some 13, none, .sh 9 (.t 1)⟩,
 ⟨some 14, none, .ld none (.t 13)⟩,
 ⟨some 15, none, .len (.t 14) (pu (.call ⟨.builtin .len, #[(.tmp 14)], #[25]⟩) 3)⟩,
 ⟨some 16, none, .bin .lss false (.t 12) (.t 15) (pu (.binOp .lss 3 (.tmp 12) (.tmp 15) 3) 4)⟩])
 (.cond (.t 16) .skip
 (.exit 0)))
 (.seq (.block 1 (.seq (.seq (.reg [⟨some 19, none, .sh 9 (.t 1)⟩,
 ⟨some 20, none, .ld none (.t 19)⟩,
 ⟨some 21, none, .mv (.t 3)⟩,
 ⟨some 22, none, .ixs 2 (.t 20) (.t 21)⟩,
 ⟨some 23, none, .ld (some 2) (.t 22)⟩,
 ⟨some 24, none, .call 43 [(.t 23)]⟩,
 ⟨some 25, none, .un .not (.t 24) (pu (.unOp .not 4 (.tmp 24)) 4)⟩])
 (.cond (.t 25) (.seq (.reg [⟨some 2, none, .mv (.k (.sc (.int .i64 2)))⟩])
 .ret)
 .skip))
 (.seq (.drw [0, 1, 3, 7, 15, 7, 63, 127, 255, 7, 519, 7, 2055, 7687, 15879, 32263, 65535, 131071] [⟨some 26, none, .mv (.t 3)⟩,
 ⟨some 27, none, .bin .gtr false (.t 26) (.k (.sc (.int .i64 0))) (pu (.binOp .gtr 3 (.tmp 26) (.const (.int .i64 0)) 3) 4)⟩,
 ⟨some 28, none, .mv (.t 27)⟩,
 ⟨some 29, (some ((some 28), true)), .sh 9 (.t 1)⟩,
 ⟨some 30, (some ((some 28), true)), .ld none (.t 29)⟩,
 ⟨some 31, (some ((some 28), true)), .mv (.t 3)⟩,
 ⟨some 32, (some ((some 28), true)), .ixs 2 (.t 30) (.t 31)⟩,
 ⟨some 33, (some ((some 28), true)), .sh 0 (.t 32)⟩,
 ⟨some 34, (some ((some 28), true)), .ld none (.t 33)⟩,
 ⟨some 35, (some ((some 28), true)), .sh 9 (.t 1)⟩,
 ⟨some 36, (some ((some 28), true)), .ld none (.t 35)⟩,
 ⟨some 37, (some ((some 28), true)), .mv (.t 3)⟩,
 ⟨some 38, (some ((some 28), true)), .bin .sub false (.t 37) (.k (.sc (.int .i64 1))) (pu (.binOp .sub 3 (.tmp 37) (.const (.int .i64 1)) 3) 3)⟩,
 ⟨some 39, (some ((some 28), true)), .ixs 2 (.t 36) (.t 38)⟩,
 ⟨some 40, (some ((some 28), true)), .sh 0 (.t 39)⟩,
 ⟨some 41, (some ((some 28), true)), .ld none (.t 40)⟩,
 ⟨some 42, (some ((some 28), true)), .bin .leq false (.t 34) (.t 41) (pu (.binOp .leq 3 (.tmp 34) (.tmp 41) 3) 4)⟩,
 ⟨some 43, none, .pick (.t 28) (.t 42) (.k (.sc (.bool false)))⟩])
 (.cond (.t 43) (.seq (.reg [⟨some 2, none, .mv (.k (.sc (.int .i64 1)))⟩])
 .ret)
 .skip))))
 (.reg [⟨some 17, none, .mv (.t 3)⟩,
 ⟨some 18, none, .bin .add false (.t 17) (.k (.sc (.int .i64 1))) (pu (.binOp .add 3 (.tmp 17) (.const (.int .i64 1)) 3) 3)⟩,
 ⟨some 3, none, .mv (.t 18)⟩]))))))
 (.seq (.seq (.drw [0, 1, 0, 4, 12, 28, 63, 127, 255, 0, 512, 2047] [⟨some 44, none, .sh 9 (.t 1)⟩,
 ⟨some 45, none, .ld none (.t 44)⟩,
 ⟨some 46, none, .sh 9 (.t 1)⟩,
 ⟨some 47, none, .ld none (.t 46)⟩,
 ⟨some 48, none, .len (.t 47) (pu (.call ⟨.builtin .len, #[(.tmp 47)], #[25]⟩) 3)⟩,
 ⟨some 49, none, .bin .sub false (.t 48) (.k (.sc (.int .i64 1))) (pu (.binOp .sub 3 (.tmp 48) (.const (.int .i64 1)) 3) 3)⟩,
 ⟨some 50, none, .ixs 2 (.t 45) (.t 49)⟩,
 ⟨some 51, none, .sh 0 (.t 50)⟩,
 ⟨some 52, none, .ld none (.t 51)⟩,
 ⟨some 53, none, .sh 5 (.t 1)⟩,
 ⟨some 54, none, .ld none (.t 53)⟩,
 ⟨some 55, none, .bin .neq false (.t 52) (.t 54) (pu (.binOp .neq 3 (.tmp 52) (.tmp 54) 3) 4)⟩])
 (.cond (.t 55) (.seq (.reg [⟨some 2, none, .mv (.k (.sc (.int .i64 1)))⟩])
 .ret)
 .skip))
 (.seq (.reg [⟨some 2, none, .mv (.k (.sc (.int .i64 0)))⟩])
 .ret))))))
def k23 : List Nat := [0, 1, 2, 3, 7, 11, 16, 25, 43, 55]
theorem ic23 : factsI Try.prog 23 = some (56, [.tmp 2], c23) := by kernel_rfl
def c24 : IC :=
 (.seq (.reg [⟨some 4, none, .mv (.k (.sc (.bool false)))⟩])
 (.seq (.seq (.reg [⟨some 6, none, .mv (.t 0)⟩,
 ⟨some 7, none, .len (.t 6) (pu (.call ⟨.builtin .len, #[(.tmp 6)], #[25]⟩) 3)⟩,
 ⟨some 8, none, .mv (.t 1)⟩,
 ⟨some 9, none, .len (.t 8) (pu (.call ⟨.builtin .len, #[(.tmp 8)], #[25]⟩) 3)⟩,
 ⟨some 10, none, .bin .neq false (.t 7) (.t 9) (pu (.binOp .neq 3 (.tmp 7) (.tmp 9) 3) 4)⟩])
 (.cond (.t 10) (.seq (.reg [⟨some 4, none, .mv (.k (.sc (.bool false)))⟩])
 .ret)
 .skip))
 (.seq (.seq (.reg [⟨some 11, none, .mv (.t 0)⟩,
 ⟨some 12, none, .len (.t 11) (pu (.call ⟨.builtin .len, #[(.tmp 11)], #[25]⟩) 3)⟩,
 ⟨some 13, none, .mv (.k (.sc (.int .i64 0)))⟩])
 (.block 0 (.loop (.seq (.reg [⟨some 14, none, .bin .lss false (.t 13) (.t 12) (pu (.binOp .lss 3 (.tmp 13) (.tmp 12) 3) 0)⟩])
 (.seq (.cond (.t 14) .skip
 (.exit 0))
 (.seq (.block 1 (.seq (.reg [⟨some 15, none, .mv (.t 13)⟩,
 ⟨some 5, none, .mv (.t 15)⟩])
 (.seq (.drw [0, 0, 3, 7, 0, 0, 48, 112, 255] [⟨some 16, none, .mv (.t 0)⟩,
 ⟨some 17, none, .mv (.t 5)⟩,
 ⟨some 18, none, .ixs 2 (.t 16) (.t 17)⟩,
 ⟨some 19, none, .ld (some 2) (.t 18)⟩,
 ⟨some 20, none, .mv (.t 1)⟩,
 ⟨some 21, none, .mv (.t 5)⟩,
 ⟨some 22, none, .ixs 2 (.t 20) (.t 21)⟩,
 ⟨some 23, none, .ld (some 2) (.t 22)⟩,
 ⟨some 24, none, .bin .neq false (.t 19) (.t 23) (pu (.binOp .neq 34 (.tmp 19) (.tmp 23) 34) 4)⟩])
 (.cond (.t 24) (.seq (.reg [⟨some 4, none, .mv (.k (.sc (.bool false)))⟩])
 .ret)
 .skip))))
 (.reg [⟨some 25, none, .bin .add false (.t 13) (.k (.sc (.int .i64 1))) (pu (.binOp .add 3 (.tmp 13) (.const (.int .i64 1)) 3) 3)⟩,
 ⟨some 13, none, .mv (.t 25)⟩])))))))
 (.seq (.reg [⟨some 4, none, .mv (.k (.sc (.bool true)))⟩])
 .ret))))
def k24 : List Nat := [0, 1, 4, 5, 10, 12, 13, 14, 24]
theorem ic24 : factsI Try.prog 24 = some (26, [.tmp 4], c24) := by kernel_rfl
def c25 : IC :=
 (.seq (.reg [⟨some 2, none, .bx (.t 0)⟩,
 ⟨some 3, none, .bx (.t 1)⟩,
 ⟨some 4, none, .mv (.k (.sc (.bool false)))⟩])
 (.seq (.reg [⟨some 5, none, .sh 0 (.t 2)⟩,
 ⟨some 6, none, .ld none (.t 5)⟩,
 ⟨some 7, none, .sh 0 (.t 3)⟩,
 ⟨some 8, none, .ld none (.t 7)⟩,
 ⟨some 9, none, .bin .eql false (.t 6) (.t 8) (pu (.binOp .eql 9 (.tmp 6) (.tmp 8) 9) 4)⟩,
 ⟨some 10, none, .mv (.t 9)⟩,
 ⟨some 11, (some ((some 10), true)), .sh 1 (.t 2)⟩,
 ⟨some 12, (some ((some 10), true)), .ld none (.t 11)⟩,
 ⟨some 13, (some ((some 10), true)), .sh 1 (.t 3)⟩,
 ⟨some 14, (some ((some 10), true)), .ld none (.t 13)⟩,
 ⟨some 15, (some ((some 10), true)), .bin .eql false (.t 12) (.t 14) (pu (.binOp .eql 9 (.tmp 12) (.tmp 14) 9) 4)⟩,
 ⟨some 16, none, .pick (.t 10) (.t 15) (.k (.sc (.bool false)))⟩,
 ⟨some 4, none, .mv (.t 16)⟩])
 .ret))
def k25 : List Nat := [0, 1, 2, 3, 4]
theorem ic25 : factsI Try.prog 25 = some (17, [.tmp 4], c25) := by kernel_rfl
def c26 : IC :=
 (.seq (.reg [⟨some 2, none, .bx (.t 0)⟩,
 ⟨some 3, none, .bx (.t 1)⟩,
 ⟨some 4, none, .mv (.k (.sc (.bool false)))⟩])
 (.seq (.seq (.reg [⟨some 5, none, .sh 0 (.t 2)⟩,
 ⟨some 6, none, .ld none (.t 5)⟩,
 ⟨some 7, none, .sh 0 (.t 3)⟩,
 ⟨some 8, none, .ld none (.t 7)⟩,
 ⟨some 9, none, .bin .neq false (.t 6) (.t 8) (pu (.binOp .neq 9 (.tmp 6) (.tmp 8) 9) 4)⟩,
 ⟨some 10, none, .mv (.t 9)⟩,
 ⟨some 11, (some ((some 10), false)), .sh 1 (.t 2)⟩,
 ⟨some 12, (some ((some 10), false)), .ld none (.t 11)⟩,
 ⟨some 13, (some ((some 10), false)), .sh 1 (.t 3)⟩,
 ⟨some 14, (some ((some 10), false)), .ld none (.t 13)⟩,
 ⟨some 15, (some ((some 10), false)), .bin .neq false (.t 12) (.t 14) (pu (.binOp .neq 9 (.tmp 12) (.tmp 14) 9) 4)⟩,
 ⟨some 16, none, .pick (.t 10) (.k (.sc (.bool true))) (.t 15)⟩,
 ⟨some 17, none, .mv (.t 16)⟩,
 ⟨some 18, (some ((some 17), false)), .sh 2 (.t 2)⟩,
 ⟨some 19, (some ((some 17), false)), .ld none (.t 18)⟩,
 ⟨some 20, (some ((some 17), false)), .sh 2 (.t 3)⟩,
 ⟨some 21, (some ((some 17), false)), .ld none (.t 20)⟩,
 ⟨some 22, (some ((some 17), false)), .bin .neq false (.t 19) (.t 21) (pu (.binOp .neq 3 (.tmp 19) (.tmp 21) 3) 4)⟩,
 ⟨some 23, none, .pick (.t 17) (.k (.sc (.bool true))) (.t 22)⟩,
 ⟨some 24, none, .mv (.t 23)⟩,
 ⟨some 25, (some ((some 24), false)), .sh 3 (.t 2)⟩,
 ⟨some 26, (some ((some 24), false)), .ld none (.t 25)⟩,
 ⟨some 27, (some ((some 24), false)), .sh 3 (.t 3)⟩,
 ⟨some 28, (some ((some 24), false)), .ld none (.t 27)⟩,
 ⟨some 29, (some ((some 24), false)), .bin .neq false (.t 26) (.t 28) (pu (.binOp .neq 3 (.tmp 26) (.tmp 28) 3) 4)⟩,
 ⟨some 30, none, .pick (.t 24) (.k (.sc (.bool true))) (.t 29)⟩,
 ⟨some 31, none, .mv (.t 30)⟩,
 ⟨some 32, (some ((some 31), false)), .sh 4 (.t 2)⟩,
 ⟨some 33, (some ((some 31), false)), .ld none (.t 32)⟩,
 ⟨some 34, (some ((some 31), false)), .sh 4 (.t 3)⟩,
 ⟨some 35, (some ((some 31), false)), .ld none (.t 34)⟩,
 ⟨some 36, (some ((some 31), false)), .bin .neq false (.t 33) (.t 35) (pu (.binOp .neq 3 (.tmp 33) (.tmp 35) 3) 4)⟩,
 ⟨some 37, none, .pick (.t 31) (.k (.sc (.bool true))) (.t 36)⟩,
 ⟨some 38, none, .mv (.t 37)⟩,
 ⟨some 39, (some ((some 38), false)), .sh 5 (.t 2)⟩,
 ⟨some 40, (some ((some 38), false)), .ld none (.t 39)⟩,
 ⟨some 41, (some ((some 38), false)), .sh 5 (.t 3)⟩,
 ⟨some 42, (some ((some 38), false)), .ld none (.t 41)⟩,
 ⟨some 43, (some ((some 38), false)), .bin .neq false (.t 40) (.t 42) (pu (.binOp .neq 3 (.tmp 40) (.tmp 42) 3) 4)⟩,
 ⟨some 44, none, .pick (.t 38) (.k (.sc (.bool true))) (.t 43)⟩])
 (.cond (.t 44) (.seq (.reg [⟨some 4, none, .mv (.k (.sc (.bool false)))⟩])
 .ret)
 .skip))
 (.seq (.reg [⟨some 45, none, .sh 6 (.t 2)⟩,
 ⟨some 46, none, .ld none (.t 45)⟩,
 ⟨some 47, none, .sh 6 (.t 3)⟩,
 ⟨some 48, none, .ld none (.t 47)⟩,
 ⟨some 49, none, .bin .eql false (.t 46) (.t 48) (pu (.binOp .eql 9 (.tmp 46) (.tmp 48) 9) 4)⟩,
 ⟨some 50, none, .mv (.t 49)⟩,
 ⟨some 51, (some ((some 50), true)), .sh 7 (.t 2)⟩,
 ⟨some 52, (some ((some 50), true)), .ld none (.t 51)⟩,
 ⟨some 53, (some ((some 50), true)), .sh 7 (.t 3)⟩,
 ⟨some 54, (some ((some 50), true)), .ld none (.t 53)⟩,
 ⟨some 55, (some ((some 50), true)), .bin .eql true (.t 52) (.t 54) (pu (.binOp .eql 4 (.tmp 52) (.tmp 54) 4) 4)⟩,
 ⟨some 56, none, .pick (.t 50) (.t 55) (.k (.sc (.bool false)))⟩,
 ⟨some 57, none, .mv (.t 56)⟩,
 ⟨some 58, (some ((some 57), true)), .sh 8 (.t 2)⟩,
 ⟨some 59, (some ((some 57), true)), .ld none (.t 58)⟩,
 ⟨some 60, (some ((some 57), true)), .sh 8 (.t 3)⟩,
 ⟨some 61, (some ((some 57), true)), .ld none (.t 60)⟩,
 ⟨some 62, (some ((some 57), true)), .bin .eql false (.t 59) (.t 61) (pu (.binOp .eql 3 (.tmp 59) (.tmp 61) 3) 4)⟩,
 ⟨some 63, none, .pick (.t 57) (.t 62) (.k (.sc (.bool false)))⟩,
 ⟨some 64, none, .mv (.t 63)⟩,
 ⟨some 65, (some ((some 64), true)), .sh 9 (.t 2)⟩,
 ⟨some 66, (some ((some 64), true)), .ld none (.t 65)⟩,
 ⟨some 67, (some ((some 64), true)), .sh 9 (.t 3)⟩,
 ⟨some 68, (some ((some 64), true)), .ld none (.t 67)⟩,
 ⟨some 69, (some ((some 64), true)), .call 44 [(.t 66), (.t 68)]⟩,
 ⟨some 70, none, .pick (.t 64) (.t 69) (.k (.sc (.bool false)))⟩,
 ⟨some 4, none, .mv (.t 70)⟩])
 .ret)))
def k26 : List Nat := [0, 1, 2, 3, 4, 44]
theorem ic26 : factsI Try.prog 26 = some (71, [.tmp 4], c26) := by kernel_rfl
def c27 : IC :=
 (.seq (.reg [⟨some 2, none, .bx (.t 0)⟩,
 ⟨some 3, none, .bx (.t 1)⟩,
 ⟨some 4, none, .mv (.k (.sc (.bool false)))⟩])
 (.seq (.seq (.reg [⟨some 5, none, .ld (some 10) (.t 2)⟩,
 ⟨some 6, none, .ld (some 10) (.t 3)⟩,
 ⟨some 7, none, .call 25 [(.t 5), (.t 6)]⟩,
 ⟨some 8, none, .un .not (.t 7) (pu (.unOp .not 4 (.tmp 7)) 4)⟩,
 ⟨some 9, none, .mv (.t 8)⟩,
 ⟨some 10, (some ((some 9), false)), .sh 3 (.t 2)⟩,
 ⟨some 11, (some ((some 9), false)), .ld none (.t 10)⟩,
 ⟨some 12, (some ((some 9), false)), .sh 3 (.t 3)⟩,
 ⟨some 13, (some ((some 9), false)), .ld none (.t 12)⟩,
 ⟨some 14, (some ((some 9), false)), .bin .eql false (.t 11) (.t 13) (pu (.binOp .eql 3 (.tmp 11) (.tmp 13) 3) 4)⟩,
 ⟨some 15, none, .pick (.t 9) (.k (.sc (.bool true))) (.t 14)⟩])
 (.cond (.t 15) (.seq (.reg [⟨some 4, none, .mv (.k (.sc (.bool false)))⟩])
 .ret)
 .skip))
 (.seq (.seq (.reg [⟨some 16, none, .sh 3 (.t 2)⟩,
 ⟨some 17, none, .ld none (.t 16)⟩,
 ⟨some 18, none, .sh 3 (.t 3)⟩,
 ⟨some 19, none, .ld none (.t 18)⟩,
 ⟨some 20, none, .bin .gtr false (.t 17) (.t 19) (pu (.binOp .gtr 3 (.tmp 17) (.tmp 19) 3) 4)⟩])
 (.cond (.t 20) (.reg [⟨some 21, none, .ld (some 10) (.t 3)⟩,
 ⟨some 22, none, .ld (some 10) (.t 2)⟩,
 ⟨none, none, .st 10 (.t 2) (.t 21)⟩,
 ⟨none, none, .st 10 (.t 3) (.t 22)⟩])
 .skip))
 (.seq (.reg [⟨some 23, none, .sh 4 (.t 2)⟩,
 ⟨some 24, none, .ld none (.t 23)⟩,
 ⟨some 25, none, .bin .eql false (.t 24) (.k (.sc (.int .i64 3))) (pu (.binOp .eql 3 (.tmp 24) (.const (.int .i64 3)) 3) 4)⟩,
 ⟨some 26, none, .mv (.t 25)⟩,
 ⟨some 27, (some ((some 26), false)), .sh 5 (.t 2)⟩,
 ⟨some 28, (some ((some 26), false)), .ld none (.t 27)⟩,
 ⟨some 29, (some ((some 26), false)), .sh 5 (.t 3)⟩,
 ⟨some 30, (some ((some 26), false)), .ld none (.t 29)⟩,
 ⟨some 31, (some ((some 26), false)), .bin .gtr false (.t 28) (.t 30) (pu (.binOp .gtr 3 (.tmp 28) (.tmp 30) 3) 4)⟩,
 ⟨some 32, none, .pick (.t 26) (.k (.sc (.bool true))) (.t 31)⟩,
 ⟨some 4, none, .mv (.t 32)⟩])
 .ret))))
def k27 : List Nat := [0, 1, 2, 3, 4, 15, 20]
theorem ic27 : factsI Try.prog 27 = some (33, [.tmp 4], c27) := by kernel_rfl
def c28 : IC :=
 (.seq (.reg [⟨some 2, none, .bx (.t 0)⟩,
 ⟨some 3, none, .bx (.t 1)⟩,
 ⟨some 4, none, .mv (.k (.sc (.bool false)))⟩])
 (.seq (.seq (.reg [⟨some 5, none, .sh 0 (.t 2)⟩,
 ⟨some 6, none, .ld none (.t 5)⟩,
 ⟨some 7, none, .sh 0 (.t 3)⟩,
 ⟨some 8, none, .ld none (.t 7)⟩,
 ⟨some 9, none, .bin .neq false (.t 6) (.t 8) (pu (.binOp .neq 9 (.tmp 6) (.tmp 8) 9) 4)⟩])
 (.cond (.t 9) (.seq (.reg [⟨some 10, none, .sh 0 (.t 2)⟩,
 ⟨some 11, none, .ld none (.t 10)⟩,
 ⟨some 12, none, .sh 0 (.t 3)⟩,
 ⟨some 13, none, .ld none (.t 12)⟩,
 ⟨some 14, none, .bin .lss false (.t 11) (.t 13) (pu (.binOp .lss 9 (.tmp 11) (.tmp 13) 9) 4)⟩,
 ⟨some 4, none, .mv (.t 14)⟩])
 .ret)
 .skip))
 (.seq (.seq (.reg [⟨some 15, none, .sh 1 (.t 2)⟩,
 ⟨some 16, none, .ld none (.t 15)⟩,
 ⟨some 17, none, .sh 1 (.t 3)⟩,
 ⟨some 18, none, .ld none (.t 17)⟩,
 ⟨some 19, none, .bin .neq false (.t 16) (.t 18) (pu (.binOp .neq 9 (.tmp 16) (.tmp 18) 9) 4)⟩])
 (.cond (.t 19) (.seq (.reg [⟨some 20, none, .sh 1 (.t 2)⟩,
 ⟨some 21, none, .ld none (.t 20)⟩,
 ⟨some 22, none, .sh 1 (.t 3)⟩,
 ⟨some 23, none, .ld none (.t 22)⟩,
 ⟨some 24, none, .bin .lss false (.t 21) (.t 23) (pu (.binOp .lss 9 (.tmp 21) (.tmp 23) 9) 4)⟩,
 ⟨some 4, none, .mv (.t 24)⟩])
 .ret)
 .skip))
 (.seq (.reg [⟨some 25, none, .sh 3 (.t 2)⟩,
 ⟨some 26, none, .ld none (.t 25)⟩,
 ⟨some 27, none, .sh 3 (.t 3)⟩,
 ⟨some 28, none, .ld none (.t 27)⟩,
 ⟨some 29, none, .bin .lss false (.t 26) (.t 28) (pu (.binOp .lss 3 (.tmp 26) (.tmp 28) 3) 4)⟩,
 ⟨some 4, none, .mv (.t 29)⟩])
 .ret))))
def k28 : List Nat := [0, 1, 2, 3, 4, 9, 19]
theorem ic28 : factsI Try.prog 28 = some (30, [.tmp 4], c28) := by kernel_rfl
def c29 : IC :=
 (.seq (.reg [⟨some 2, none, .mv (.k (.sc (.slice none 0 0)))⟩])
 (.seq (.reg [⟨some 3, none, .mv (.k (.sc (.slice none 0 0)))⟩])
 (.seq (.seq (.reg [⟨some 4, none, .mv (.k (.sc (.int .i64 0)))⟩])
 (.block 0 (.loop (.seq (.seq (.reg [⟨some 5, none, .mv (.t 4)⟩,
 ⟨some 6, none, .mv (.t 0)⟩,
 ⟨some 7, none, .len (.t 6) (pu (.call ⟨.builtin .len, #[(.tmp 6)], #[22]⟩) 3)⟩,
 ⟨some 8, none, .bin .lss false (.t 5) (.t 7) (pu (.binOp .lss 3 (.tmp 5) (.tmp 7) 3) 4)⟩])
 (.cond (.t 8) .skip
 (.exit 0)))
 (.seq (.block 1 (.seq (.drw [0, 1, 3, 7, 7, 23, 63, 127, 7, 7, 775, 1799, 4095, 8191, 16383] [⟨some 11, none, .mv (.t 4)⟩,
 ⟨some 12, none, .bin .eql false (.t 11) (.k (.sc (.int .i64 0))) (pu (.binOp .eql 3 (.tmp 11) (.const (.int .i64 0)) 3) 4)⟩,
 ⟨some 13, none, .mv (.t 12)⟩,
 ⟨some 14, (some ((some 13), false)), .mv (.t 0)⟩,
 ⟨some 15, (some ((some 13), false)), .mv (.t 4)⟩,
 ⟨some 16, (some ((some 13), false)), .bin .sub false (.t 15) (.k (.sc (.int .i64 1))) (pu (.binOp .sub 3 (.tmp 15) (.const (.int .i64 1)) 3) 3)⟩,
 ⟨some 17, (some ((some 13), false)), .ixs 10 (.t 14) (.t 16)⟩,
 ⟨some 18, (some ((some 13), false)), .ld (some 10) (.t 17)⟩,
 ⟨some 19, (some ((some 13), false)), .mv (.t 0)⟩,
 ⟨some 20, (some ((some 13), false)), .mv (.t 4)⟩,
 ⟨some 21, (some ((some 13), false)), .ixs 10 (.t 19) (.t 20)⟩,
 ⟨some 22, (some ((some 13), false)), .ld (some 10) (.t 21)⟩,
 ⟨some 23, (some ((some 13), false)), .call 25 [(.t 18), (.t 22)]⟩,
 ⟨some 24, (some ((some 13), false)), .un .not (.t 23) (pu (.unOp .not 4 (.tmp 23)) 4)⟩,
 ⟨some 25, none, .pick (.t 13) (.k (.sc (.bool true))) (.t 24)⟩])
 (.cond (.t 25) (.drw [0, 0, 0, 6, 14, 30, 0, 0, 192, 448, 960, 2046, 4094, 8191, 16383] [⟨some 26, none, .mv (.t 3)⟩,
 ⟨some 27, none, .mv (.t 0)⟩,
 ⟨some 28, none, .mv (.t 4)⟩,
 ⟨some 29, none, .ixs 10 (.t 27) (.t 28)⟩,
 ⟨some 30, none, .sh 0 (.t 29)⟩,
 ⟨some 31, none, .ld none (.t 30)⟩,
 ⟨some 32, none, .mv (.t 0)⟩,
 ⟨some 33, none, .mv (.t 4)⟩,
 ⟨some 34, none, .ixs 10 (.t 32) (.t 33)⟩,
 ⟨some 35, none, .sh 1 (.t 34)⟩,
 ⟨some 36, none, .ld none (.t 35)⟩,
 ⟨some 37, none, .bsl 1 2 false [.sc (.string ⟨#[]⟩), .sc (.string ⟨#[]⟩)] [(0, 1, (.t 31)), (1, 1, (.t 36))]⟩,
 ⟨some 38, none, .bsl 1 1 false [.sc (.slice none 0 0)] [(0, 1, (.t 37))]⟩,
 ⟨some 39, none, .app 1 24 (.t 26) (.t 38)⟩,
 ⟨some 3, none, .mv (.t 39)⟩])
 .skip)))
 (.reg [⟨some 9, none, .mv (.t 4)⟩,
 ⟨some 10, none, .bin .add false (.t 9) (.k (.sc (.int .i64 1))) (pu (.binOp .add 3 (.tmp 9) (.const (.int .i64 1)) 3) 3)⟩,
 ⟨some 4, none, .mv (.t 10)⟩]))))))
 (.seq (.reg [⟨some 40, none, .mv (.t 3)⟩,
 ⟨some 2, none, .mv (.t 40)⟩])
 .ret))))
def k29 : List Nat := [0, 2, 3, 4, 8, 25]
theorem ic29 : factsI Try.prog 29 = some (41, [.tmp 2], c29) := by kernel_rfl
def c30 : IC :=
 (.seq (.reg [⟨some 4, none, .al (.agg [.sc (.string ⟨#[]⟩), .sc (.string ⟨#[]⟩), .sc (.int .i64 0), .sc (.string ⟨#[]⟩), .sc (.int .i64 0), .sc (.int .i64 0), .sc (.slice none 0 0), .sc (.int .i64 0), .sc (.int .i64 0), .sc (.bool false), .sc (.bool false)]) 11⟩,
 ⟨some 5, none, .mv (.k (.sc (.int .i64 0)))⟩])
 (.seq (.seq (.reg [⟨some 17, none, .mv (.t 0)⟩,
 ⟨some 18, none, .len (.t 17) (pu (.call ⟨.builtin .len, #[(.tmp 17)], #[22]⟩) 3)⟩,
 ⟨some 19, none, .bin .eql false (.t 18) (.k (.sc (.int .i64 0))) (pu (.binOp .eql 3 (.tmp 18) (.const (.int .i64 0)) 3) 4)⟩])
 (.cond (.t 19) (.seq (.reg [⟨some 20, none, .bld [.sc (.string ⟨#[]⟩), .sc (.string ⟨#[]⟩), .sc (.int .i64 0), .sc (.string ⟨#[]⟩), .sc (.int .i64 0), .sc (.int .i64 0), .sc (.slice none 0 0), .sc (.int .i64 0), .sc (.int .i64 0), .sc (.bool false), .sc (.bool false)] []⟩,
 ⟨none, none, .st 11 (.t 4) (.t 20)⟩,
 ⟨some 5, none, .mv (.k (.sc (.int .i64 8)))⟩])
 .ret)
 .skip))
 (.seq (.seq (.reg [⟨some 21, none, .mv (.t 0)⟩,
 ⟨some 22, none, .len (.t 21) (pu (.call ⟨.builtin .len, #[(.tmp 21)], #[22]⟩) 3)⟩,
 ⟨some 23, none, .mv (.k (.sc (.int .i64 0)))⟩])
 (.block 0 (.loop (.seq (.reg [⟨some 24, none, .bin .lss false (.t 23) (.t 22) (pu (.binOp .lss 3 (.tmp 23) (.tmp 22) 3) 0)⟩])
 (.seq (.cond (.t 24) .skip
 (.exit 0))
 (.seq (.block 1 (.seq (.reg [⟨some 25, none, .ixs 10 (.t 21) (.t 23)⟩,
 ⟨some 26, none, .ld (some 10) (.t 25)⟩,
 ⟨some 7, none, .al (.agg [.sc (.string ⟨#[]⟩), .sc (.string ⟨#[]⟩), .sc (.int .i64 0), .sc (.int .i64 0), .sc (.int .i64 0), .sc (.int .i64 0), .sc (.string ⟨#[]⟩), .sc (.bool false), .sc (.int .i64 0), .sc (.slice none 0 0)]) 10⟩,
 ⟨none, none, .st 10 (.t 7) (.t 26)⟩])
 (.seq (.reg [⟨some 27, none, .ld (some 10) (.t 7)⟩,
 ⟨some 28, none, .call 10 [(.t 27)]⟩,
 ⟨some 8, none, .mv (.t 28)⟩])
 (.seq (.reg [⟨some 29, none, .mv (.t 8)⟩,
 ⟨some 30, none, .bin .neq false (.t 29) (.k (.sc (.int .i64 0))) (pu (.binOp .neq 30 (.tmp 29) (.const (.int .i64 0)) 30) 4)⟩])
 (.cond (.t 30) (.seq (.reg [⟨some 31, none, .bld [.sc (.string ⟨#[]⟩), .sc (.string ⟨#[]⟩), .sc (.int .i64 0), .sc (.string ⟨#[]⟩), .sc (.int .i64 0), .sc (.int .i64 0), .sc (.slice none 0 0), .sc (.int .i64 0), .sc (.int .i64 0), .sc (.bool false), .sc (.bool false)] []⟩,
 ⟨some 32, none, .mv (.t 8)⟩,
 ⟨none, none, .st 11 (.t 4) (.t 31)⟩,
 ⟨some 5, none, .mv (.t 32)⟩])
 .ret)
 .skip)))))
 (.reg [⟨some 33, none, .bin .add false (.t 23) (.k (.sc (.int .i64 1))) (pu (.binOp .add 3 (.tmp 23) (.const (.int .i64 1)) 3) 3)⟩,
 ⟨some 23, none, .mv (.t 33)⟩])))))))
 (.seq (.reg [⟨some 35, none, .mv (.t 0)⟩,
 ⟨some 36, none, .call 45 [(.t 35)]⟩,
 ⟨some 34, none, .mv (.t 36)⟩,
 ⟨some 37, none, .ext (.t 34) 0⟩,
 ⟨some 38, none, .ext (.t 34) 1⟩,
 ⟨some 9, none, .mv (.t 37)⟩,
 ⟨some 10, none, .mv (.t 38)⟩])
 (.seq (.seq (.reg [⟨some 39, none, .mv (.t 10)⟩,
 ⟨some 40, none, .bin .neq false (.t 39) (.k (.sc (.int .i64 0))) (pu (.binOp .neq 30 (.tmp 39) (.const (.int .i64 0)) 30) 4)⟩])
 (.cond (.t 40) (.seq (.reg [⟨some 41, none, .bld [.sc (.string ⟨#[]⟩), .sc (.string ⟨#[]⟩), .sc (.int .i64 0), .sc (.string ⟨#[]⟩), .sc (.int .i64 0), .sc (.int .i64 0), .sc (.slice none 0 0), .sc (.int .i64 0), .sc (.int .i64 0), .sc (.bool false), .sc (.bool false)] []⟩,
 ⟨some 42, none, .mv (.t 10)⟩,
 ⟨none, none, .st 11 (.t 4) (.t 41)⟩,
 ⟨some 5, none, .mv (.t 42)⟩])
 .ret)
 .skip))
 (.seq (.reg [⟨some 44, none, .mv (.t 9)⟩,
 ⟨some 45, none, .call 46 [(.t 44)]⟩,
 ⟨some 43, none, .mv (.t 45)⟩,
 ⟨some 46, none, .ext (.t 43) 0⟩,
 ⟨some 47, none, .ext (.t 43) 1⟩,
 ⟨some 11, none, .al (.agg [.sc (.string ⟨#[]⟩), .sc (.string ⟨#[]⟩), .sc (.int .i64 0), .sc (.int .i64 0), .sc (.int .i64 0), .sc (.int .i64 0), .sc (.string ⟨#[]⟩), .sc (.bool false), .sc (.int .i64 0), .sc (.slice none 0 0)]) 10⟩,
 ⟨none, none, .st 10 (.t 11) (.t 46)⟩,
 ⟨some 10, none, .mv (.t 47)⟩])
 (.seq (.seq (.reg [⟨some 48, none, .mv (.t 10)⟩,
 ⟨some 49, none, .bin .neq false (.t 48) (.k (.sc (.int .i64 0))) (pu (.binOp .neq 30 (.tmp 48) (.const (.int .i64 0)) 30) 4)⟩])
 (.cond (.t 49) (.seq (.reg [⟨some 50, none, .bld [.sc (.string ⟨#[]⟩), .sc (.string ⟨#[]⟩), .sc (.int .i64 0), .sc (.string ⟨#[]⟩), .sc (.int .i64 0), .sc (.int .i64 0), .sc (.slice none 0 0), .sc (.int .i64 0), .sc (.int .i64 0), .sc (.bool false), .sc (.bool false)] []⟩,
 ⟨some 51, none, .mv (.t 10)⟩,
 ⟨none, none, .st 11 (.t 4) (.t 50)⟩,
 ⟨some 5, none, .mv (.t 51)⟩])
 .ret)
 .skip))
 (.seq (.reg [⟨some 52, none, .mv (.t 9)⟩,
 ⟨some 53, none, .ixs 10 (.t 52) (.k (.sc (.int .i64 0)))⟩,
 ⟨some 54, none, .ld (some 10) (.t 53)⟩,
 ⟨some 12, none, .al (.agg [.sc (.string ⟨#[]⟩), .sc (.string ⟨#[]⟩), .sc (.int .i64 0), .sc (.int .i64 0), .sc (.int .i64 0), .sc (.int .i64 0), .sc (.string ⟨#[]⟩), .sc (.bool false), .sc (.int .i64 0), .sc (.slice none 0 0)]) 10⟩,
 ⟨none, none, .st 10 (.t 12) (.t 54)⟩])
 (.seq (.reg [⟨some 55, none, .sh 0 (.t 12)⟩,
 ⟨some 56, none, .ld none (.t 55)⟩,
 ⟨some 57, none, .sh 1 (.t 12)⟩,
 ⟨some 58, none, .ld none (.t 57)⟩,
 ⟨some 59, none, .sh 2 (.t 12)⟩,
 ⟨some 60, none, .ld none (.t 59)⟩,
 ⟨some 61, none, .sh 6 (.t 12)⟩,
 ⟨some 62, none, .ld none (.t 61)⟩,
 ⟨some 63, none, .sh 5 (.t 12)⟩,
 ⟨some 64, none, .ld none (.t 63)⟩,
 ⟨some 65, none, .sh 5 (.t 11)⟩,
 ⟨some 66, none, .ld none (.t 65)⟩,
 ⟨some 67, none, .sh 8 (.t 11)⟩,
 ⟨some 68, none, .ld none (.t 67)⟩,
 ⟨some 69, none, .sh 8 (.t 11)⟩,
 ⟨some 70, none, .ld none (.t 69)⟩,
 ⟨some 71, none, .bin .eql false (.t 70) (.k (.sc (.int .i64 5))) (pu (.binOp .eql 3 (.tmp 70) (.const (.int .i64 5)) 3) 4)⟩,
 ⟨some 72, none, .bld [.sc (.string ⟨#[]⟩), .sc (.string ⟨#[]⟩), .sc (.int .i64 0), .sc (.string ⟨#[]⟩), .sc (.int .i64 0), .sc (.int .i64 0), .sc (.slice none 0 0), .sc (.int .i64 0), .sc (.int .i64 0), .sc (.bool false), .sc (.bool false)] [(0, 1, (.t 56)), (1, 1, (.t 58)), (2, 1, (.t 60)), (3, 1, (.t 62)), (4, 1, (.t 64)), (5, 1, (.t 66)), (8, 1, (.t 68)), (10, 1, (.t 71))]⟩,
 ⟨some 13, none, .al (.agg [.sc (.string ⟨#[]⟩), .sc (.string ⟨#[]⟩), .sc (.int .i64 0), .sc (.string ⟨#[]⟩), .sc (.int .i64 0), .sc (.int .i64 0), .sc (.slice none 0 0), .sc (.int .i64 0), .sc (.int .i64 0), .sc (.bool false), .sc (.bool false)]) 11⟩,
 ⟨none, none, .st 11 (.t 13) (.t 72)⟩])
 (.seq (.seq (.reg [⟨some 73, none, .mv (.t 9)⟩,
 ⟨some 74, none, .len (.t 73) (pu (.call ⟨.builtin .len, #[(.tmp 73)], #[22]⟩) 3)⟩,
 ⟨some 75, none, .mv (.k (.sc (.int .i64 0)))⟩])
 (.block 2 (.loop (.seq (.reg [⟨some 76, none, .bin .lss false (.t 75) (.t 74) (pu (.binOp .lss 3 (.tmp 75) (.tmp 74) 3) 0)⟩])
 (.seq (.cond (.t 76) .skip
 (.exit 2))
 (.seq (.block 3 (.seq (.reg [⟨some 77, none, .ixs 10 (.t 73) (.t 75)⟩,
 ⟨some 78, none, .ld (some 10) (.t 77)⟩,
 ⟨some 15, none, .al (.agg [.sc (.string ⟨#[]⟩), .sc (.string ⟨#[]⟩), .sc (.int .i64 0), .sc (.int .i64 0), .sc (.int .i64 0), .sc (.int .i64 0), .sc (.string ⟨#[]⟩), .sc (.bool false), .sc (.int .i64 0), .sc (.slice none 0 0)]) 10⟩,
 ⟨none, none, .st 10 (.t 15) (.t 78)⟩])
 (.seq (.seq (.reg [⟨some 80, none, .sh 6 (.t 13)⟩,
 ⟨some 81, none, .ld none (.t 80)⟩,
 ⟨some 82, none, .sh 9 (.t 15)⟩,
 ⟨some 83, none, .ld none (.t 82)⟩,
 ⟨some 84, none, .call 47 [(.t 81), (.t 83)]⟩,
 ⟨some 79, none, .mv (.t 84)⟩,
 ⟨some 85, none, .ext (.t 79) 0⟩,
 ⟨some 86, none, .ext (.t 79) 1⟩,
 ⟨some 87, none, .sh 6 (.t 13)⟩,
 ⟨none, none, .st 1 (.t 87) (.t 85)⟩,
 ⟨some 10, none, .mv (.t 86)⟩])
 (.seq (.reg [⟨some 88, none, .mv (.t 10)⟩,
 ⟨some 89, none, .bin .neq false (.t 88) (.k (.sc (.int .i64 0))) (pu (.binOp .neq 30 (.tmp 88) (.const (.int .i64 0)) 30) 4)⟩])
 (.cond (.t 89) (.seq (.reg [⟨some 90, none, .bld [.sc (.string ⟨#[]⟩), .sc (.string ⟨#[]⟩), .sc (.int .i64 0), .sc (.string ⟨#[]⟩), .sc (.int .i64 0), .sc (.int .i64 0), .sc (.slice none 0 0), .sc (.int .i64 0), .sc (.int .i64 0), .sc (.bool false), .sc (.bool false)] []⟩,
 ⟨some 91, none, .mv (.t 10)⟩,
 ⟨none, none, .st 11 (.t 4) (.t 90)⟩,
 ⟨some 5, none, .mv (.t 91)⟩])
 .ret)
 .skip)))
 (.reg [⟨some 92, none, .sh 9 (.t 13)⟩,
 ⟨some 93, none, .ld none (.t 92)⟩,
 ⟨some 94, none, .mv (.t 93)⟩,
 ⟨some 95, (some ((some 94), false)), .sh 7 (.t 15)⟩,
 ⟨some 96, (some ((some 94), false)), .ld none (.t 95)⟩,
 ⟨some 97, none, .pick (.t 94) (.k (.sc (.bool true))) (.t 96)⟩,
 ⟨some 98, none, .sh 9 (.t 13)⟩,
 ⟨none, none, .st 1 (.t 98) (.t 97)⟩]))))
 (.reg [⟨some 99, none, .bin .add false (.t 75) (.k (.sc (.int .i64 1))) (pu (.binOp .add 3 (.tmp 75) (.const (.int .i64 1)) 3) 3)⟩,
 ⟨some 75, none, .mv (.t 99)⟩])))))))
 (.seq (.seq (.reg [⟨some 100, none, .sh 6 (.t 13)⟩,
 ⟨some 101, none, .ld none (.t 100)⟩,
 ⟨some 102, none, .len (.t 101) (pu (.call ⟨.builtin .len, #[(.tmp 101)], #[25]⟩) 3)⟩,
 ⟨some 16, none, .mv (.t 102)⟩])
 (.seq (.drw [0, 1, 3, 7, 15, 31, 63, 127, 7, 263, 1023, 2047, 4095, 8191, 16383, 8191, 40959, 131071, 262143, 524287, 8191, 1056767, 4194303, 8388607] [⟨some 103, none, .mv (.t 16)⟩,
 ⟨some 104, none, .bin .lss false (.t 103) (.k (.sc (.int .i64 1))) (pu (.binOp .lss 3 (.tmp 103) (.const (.int .i64 1)) 3) 4)⟩,
 ⟨some 105, none, .mv (.t 104)⟩,
 ⟨some 106, (some ((some 105), false)), .sh 6 (.t 13)⟩,
 ⟨some 107, (some ((some 105), false)), .ld none (.t 106)⟩,
 ⟨some 108, (some ((some 105), false)), .ixs 2 (.t 107) (.k (.sc (.int .i64 0)))⟩,
 ⟨some 109, (some ((some 105), false)), .sh 0 (.t 108)⟩,
 ⟨some 110, (some ((some 105), false)), .ld none (.t 109)⟩,
 ⟨some 111, (some ((some 105), false)), .sh 4 (.t 13)⟩,
 ⟨some 112, (some ((some 105), false)), .ld none (.t 111)⟩,
 ⟨some 113, (some ((some 105), false)), .bin .neq false (.t 110) (.t 112) (pu (.binOp .neq 3 (.tmp 110) (.tmp 112) 3) 4)⟩,
 ⟨some 114, none, .pick (.t 105) (.k (.sc (.bool true))) (.t 113)⟩,
 ⟨some 115, none, .mv (.t 114)⟩,
 ⟨some 116, (some ((some 115), false)), .sh 6 (.t 13)⟩,
 ⟨some 117, (some ((some 115), false)), .ld none (.t 116)⟩,
 ⟨some 118, (some ((some 115), false)), .mv (.t 16)⟩,
 ⟨some 119, (some ((some 115), false)), .bin .sub false (.t 118) (.k (.sc (.int .i64 1))) (pu (.binOp .sub 3 (.tmp 118) (.const (.int .i64 1)) 3) 3)⟩,
 ⟨some 120, (some ((some 115), false)), .ixs 2 (.t 117) (.t 119)⟩,
 ⟨some 121, (some ((some 115), false)), .sh 0 (.t 120)⟩,
 ⟨some 122, (some ((some 115), false)), .ld none (.t 121)⟩,
 ⟨some 123, (some ((some 115), false)), .sh 5 (.t 13)⟩,
 ⟨some 124, (some ((some 115), false)), .ld none (.t 123)⟩,
 ⟨some 125, (some ((some 115), false)), .bin .neq false (.t 122) (.t 124) (pu (.binOp .neq 3 (.tmp 122) (.tmp 124) 3) 4)⟩,
 ⟨some 126, none, .pick (.t 115) (.k (.sc (.bool true))) (.t 125)⟩])
 (.cond (.t 126) (.seq (.reg [⟨some 127, none, .bld [.sc (.string ⟨#[]⟩), .sc (.string ⟨#[]⟩), .sc (.int .i64 0), .sc (.string ⟨#[]⟩), .sc (.int .i64 0), .sc (.int .i64 0), .sc (.slice none 0 0), .sc (.int .i64 0), .sc (.int .i64 0), .sc (.bool false), .sc (.bool false)] []⟩,
 ⟨none, none, .st 11 (.t 4) (.t 127)⟩,
 ⟨some 5, none, .mv (.k (.sc (.int .i64 1)))⟩])
 .ret)
 .skip)))
 (.seq (.seq (.reg [⟨some 129, none, .sh 6 (.t 13)⟩,
 ⟨some 130, none, .ld none (.t 129)⟩,
 ⟨some 131, none, .mv (.t 1)⟩,
 ⟨some 132, none, .call 48 [(.t 130), (.t 131)]⟩,
 ⟨some 128, none, .mv (.t 132)⟩,
 ⟨some 133, none, .ext (.t 128) 0⟩,
 ⟨some 134, none, .ext (.t 128) 1⟩,
 ⟨some 135, none, .sh 7 (.t 13)⟩,
 ⟨none, none, .st 1 (.t 135) (.t 133)⟩,
 ⟨some 10, none, .mv (.t 134)⟩])
 (.seq (.reg [⟨some 136, none, .mv (.t 10)⟩,
 ⟨some 137, none, .bin .neq false (.t 136) (.k (.sc (.int .i64 0))) (pu (.binOp .neq 30 (.tmp 136) (.const (.int .i64 0)) 30) 4)⟩])
 (.cond (.t 137) (.seq (.reg [⟨some 138, none, .bld [.sc (.string ⟨#[]⟩), .sc (.string ⟨#[]⟩), .sc (.int .i64 0), .sc (.string ⟨#[]⟩), .sc (.int .i64 0), .sc (.int .i64 0), .sc (.slice none 0 0), .sc (.int .i64 0), .sc (.int .i64 0), .sc (.bool false), .sc (.bool false)] []⟩,
 ⟨some 139, none, .mv (.t 10)⟩,
 ⟨none, none, .st 11 (.t 4) (.t 138)⟩,
 ⟨some 5, none, .mv (.t 139)⟩])
 .ret)
 .skip)))
 (.seq (.seq (.reg [⟨some 140, none, .sh 7 (.t 13)⟩,
 ⟨some 141, none, .ld none (.t 140)⟩,
 ⟨some 142, none, .bin .gtr false (.t 141) (.k (.sc (.int .i64 1099511627776))) (pu (.binOp .gtr 3 (.tmp 141) (.const (.int .i64 1099511627776)) 3) 4)⟩])
 (.cond (.t 142) (.seq (.reg [⟨some 143, none, .bld [.sc (.string ⟨#[]⟩), .sc (.string ⟨#[]⟩), .sc (.int .i64 0), .sc (.string ⟨#[]⟩), .sc (.int .i64 0), .sc (.int .i64 0), .sc (.slice none 0 0), .sc (.int .i64 0), .sc (.int .i64 0), .sc (.bool false), .sc (.bool false)] []⟩,
 ⟨none, none, .st 11 (.t 4) (.t 143)⟩,
 ⟨some 5, none, .mv (.k (.sc (.int .i64 2)))⟩])
 .ret)
 .skip))
 (.seq (.reg [⟨some 144, none, .ld (some 11) (.t 13)⟩,
 ⟨none, none, .st 11 (.t 4) (.t 144)⟩,
 ⟨some 5, none, .mv (.k (.sc (.int .i64 0)))⟩])
 .ret))))))))))))))
def k30 : List Nat := [0, 1, 4, 5, 7, 8, 9, 10, 11, 12, 13, 15, 16, 19, 21, 22, 23, 24, 30, 40, 49, 73, 74, 75, 76, 89, 126, 137, 142]
theorem ic30 : factsI Try.prog 30 = some (145, [.cell 4 29, .tmp 5], c30) := by kernel_rfl
def c31 : IC :=
 (.seq (.reg [⟨some 6, none, .mv (.k (.sc (.slice none 0 0)))⟩])
 (.seq (.reg [⟨some 7, none, .mv (.k (.sc (.slice none 0 0)))⟩])
 (.seq (.seq (.reg [⟨some 8, none, .mv (.k (.sc (.int .i64 0)))⟩])
 (.block 0 (.loop (.seq (.seq (.reg [⟨some 9, none, .mv (.t 8)⟩,
 ⟨some 10, none, .mv (.t 0)⟩,
 ⟨some 11, none, .len (.t 10) (pu (.call ⟨.builtin .len, #[(.tmp 10)], #[22]⟩) 3)⟩,
 ⟨some 12, none, .bin .lss false (.t 9) (.t 11) (pu (.binOp .lss 3 (.tmp 9) (.tmp 11) 3) 4)⟩])
 (.cond (.t 12) .skip
 (.exit 0)))
 (.seq (.block 1 (.seq (.reg [⟨some 15, none, .mv (.t 0)⟩,
 ⟨some 16, none, .mv (.t 8)⟩,
 ⟨some 17, none, .ixs 10 (.t 15) (.t 16)⟩,
 ⟨some 18, none, .sh 0 (.t 17)⟩,
 ⟨some 19, none, .ld none (.t 18)⟩,
 ⟨some 20, none, .mv (.t 1)⟩,
 ⟨some 21, none, .bin .eql false (.t 19) (.t 20) (pu (.binOp .eql 9 (.tmp 19) (.tmp 20) 9) 4)⟩,
 ⟨some 22, none, .mv (.t 21)⟩,
 ⟨some 23, (some ((some 22), true)), .mv (.t 0)⟩,
 ⟨some 24, (some ((some 22), true)), .mv (.t 8)⟩,
 ⟨some 25, (some ((some 22), true)), .ixs 10 (.t 23) (.t 24)⟩,
 ⟨some 26, (some ((some 22), true)), .sh 1 (.t 25)⟩,
 ⟨some 27, (some ((some 22), true)), .ld none (.t 26)⟩,
 ⟨some 28, (some ((some 22), true)), .mv (.t 2)⟩,
 ⟨some 29, (some ((some 22), true)), .bin .eql false (.t 27) (.t 28) (pu (.binOp .eql 9 (.tmp 27) (.tmp 28) 9) 4)⟩,
 ⟨some 30, none, .pick (.t 22) (.t 29) (.k (.sc (.bool false)))⟩])
 (.cond (.t 30) (.reg [⟨some 31, none, .mv (.t 7)⟩,
 ⟨some 32, none, .mv (.t 0)⟩,
 ⟨some 33, none, .mv (.t 8)⟩,
 ⟨some 34, none, .ixs 10 (.t 32) (.t 33)⟩,
 ⟨some 35, none, .ld (some 10) (.t 34)⟩,
 ⟨some 36, none, .bsl 10 1 true [.sc (.string ⟨#[]⟩), .sc (.string ⟨#[]⟩), .sc (.int .i64 0), .sc (.int .i64 0), .sc (.int .i64 0), .sc (.int .i64 0), .sc (.string ⟨#[]⟩), .sc (.bool false), .sc (.int .i64 0), .sc (.slice none 0 0)] [(0, 10, (.t 35))]⟩,
 ⟨some 37, none, .app 10 120 (.t 31) (.t 36)⟩,
 ⟨some 7, none, .mv (.t 37)⟩])
 .skip)))
 (.reg [⟨some 13, none, .mv (.t 8)⟩,
 ⟨some 14, none, .bin .add false (.t 13) (.k (.sc (.int .i64 1))) (pu (.binOp .add 3 (.tmp 13) (.const (.int .i64 1)) 3) 3)⟩,
 ⟨some 8, none, .mv (.t 14)⟩]))))))
 (.seq (.reg [⟨some 38, none, .mv (.t 7)⟩,
 ⟨some 6, none, .mv (.t 38)⟩])
 .ret))))
def k31 : List Nat := [0, 1, 2, 6, 7, 8, 12, 30]
theorem ic31 : factsI Try.prog 31 = some (39, [.tmp 6], c31) := by kernel_rfl
def c32 : IC :=
 (.seq (.reg [⟨some 2, none, .bx (.t 0)⟩,
 ⟨some 3, none, .bx (.t 1)⟩,
 ⟨some 4, none, .mv (.k (.sc (.bool false)))⟩])
 (.seq (.seq (.reg [⟨some 6, none, .sh 0 (.t 2)⟩,
 ⟨some 7, none, .ld none (.t 6)⟩,
 ⟨some 8, none, .sh 0 (.t 3)⟩,
 ⟨some 9, none, .ld none (.t 8)⟩,
 ⟨some 10, none, .bin .neq false (.t 7) (.t 9) (pu (.binOp .neq 9 (.tmp 7) (.tmp 9) 9) 4)⟩,
 ⟨some 11, none, .mv (.t 10)⟩,
 ⟨some 12, (some ((some 11), false)), .sh 1 (.t 2)⟩,
 ⟨some 13, (some ((some 11), false)), .ld none (.t 12)⟩,
 ⟨some 14, (some ((some 11), false)), .sh 1 (.t 3)⟩,
 ⟨some 15, (some ((some 11), false)), .ld none (.t 14)⟩,
 ⟨some 16, (some ((some 11), false)), .bin .neq false (.t 13) (.t 15) (pu (.binOp .neq 9 (.tmp 13) (.tmp 15) 9) 4)⟩,
 ⟨some 17, none, .pick (.t 11) (.k (.sc (.bool true))) (.t 16)⟩,
 ⟨some 18, none, .mv (.t 17)⟩,
 ⟨some 19, (some ((some 18), false)), .sh 2 (.t 2)⟩,
 ⟨some 20, (some ((some 18), false)), .ld none (.t 19)⟩,
 ⟨some 21, (some ((some 18), false)), .sh 2 (.t 3)⟩,
 ⟨some 22, (some ((some 18), false)), .ld none (.t 21)⟩,
 ⟨some 23, (some ((some 18), false)), .bin .neq false (.t 20) (.t 22) (pu (.binOp .neq 3 (.tmp 20) (.tmp 22) 3) 4)⟩,
 ⟨some 24, none, .pick (.t 18) (.k (.sc (.bool true))) (.t 23)⟩,
 ⟨some 25, none, .mv (.t 24)⟩,
 ⟨some 26, (some ((some 25), false)), .sh 3 (.t 2)⟩,
 ⟨some 27, (some ((some 25), false)), .ld none (.t 26)⟩,
 ⟨some 28, (some ((some 25), false)), .sh 3 (.t 3)⟩,
 ⟨some 29, (some ((some 25), false)), .ld none (.t 28)⟩,
 ⟨some 30, (some ((some 25), false)), .bin .neq false (.t 27) (.t 29) (pu (.binOp .neq 9 (.tmp 27) (.tmp 29) 9) 4)⟩,
 ⟨some 31, none, .pick (.t 25) (.k (.sc (.bool true))) (.t 30)⟩,
 ⟨some 32, none, .mv (.t 31)⟩,
 ⟨some 33, (some ((some 32), false)), .sh 4 (.t 2)⟩,
 ⟨some 34, (some ((some 32), false)), .ld none (.t 33)⟩,
 ⟨some 35, (some ((some 32), false)), .sh 4 (.t 3)⟩,
 ⟨some 36, (some ((some 32), false)), .ld none (.t 35)⟩,
 ⟨some 37, (some ((some 32), false)), .bin .neq false (.t 34) (.t 36) (pu (.binOp .neq 3 (.tmp 34) (.tmp 36) 3) 4)⟩,
 ⟨some 38, none, .pick (.t 32) (.k (.sc (.bool true))) (.t 37)⟩,
 ⟨some 39, none, .mv (.t 38)⟩,
 ⟨some 40, (some ((some 39), false)), .sh 5 (.t 2)⟩,
 ⟨some 41, (some ((some 39), false)), .ld none (.t 40)⟩,
 ⟨some 42, (some ((some 39), false)), .sh 5 (.t 3)⟩,
 ⟨some 43, (some ((some 39), false)), .ld none (.t 42)⟩,
 ⟨some 44, (some ((some 39), false)), .bin .neq false (.t 41) (.t 43) (pu (.binOp .neq 3 (.tmp 41) (.tmp 43) 3) 4)⟩,
 ⟨some 45, none, .pick (.t 39) (.k (.sc (.bool true))) (.t 44)⟩])
 (.cond (.t 45) (.seq (.reg [⟨some 4, none, .mv (.k (.sc (.bool false)))⟩])
 .ret)
 .skip))
 (.seq (.seq (.reg [⟨some 46, none, .sh 7 (.t 2)⟩,
 ⟨some 47, none, .ld none (.t 46)⟩,
 ⟨some 48, none, .sh 7 (.t 3)⟩,
 ⟨some 49, none, .ld none (.t 48)⟩,
 ⟨some 50, none, .bin .neq false (.t 47) (.t 49) (pu (.binOp .neq 3 (.tmp 47) (.tmp 49) 3) 4)⟩,
 ⟨some 51, none, .mv (.t 50)⟩,
 ⟨some 52, (some ((some 51), false)), .sh 8 (.t 2)⟩,
 ⟨some 53, (some ((some 51), false)), .ld none (.t 52)⟩,
 ⟨some 54, (some ((some 51), false)), .sh 8 (.t 3)⟩,
 ⟨some 55, (some ((some 51), false)), .ld none (.t 54)⟩,
 ⟨some 56, (some ((some 51), false)), .bin .neq false (.t 53) (.t 55) (pu (.binOp .neq 3 (.tmp 53) (.tmp 55) 3) 4)⟩,
 ⟨some 57, none, .pick (.t 51) (.k (.sc (.bool true))) (.t 56)⟩,
 ⟨some 58, none, .mv (.t 57)⟩,
 ⟨some 59, (some ((some 58), false)), .sh 10 (.t 2)⟩,
 ⟨some 60, (some ((some 58), false)), .ld none (.t 59)⟩,
 ⟨some 61, (some ((some 58), false)), .sh 10 (.t 3)⟩,
 ⟨some 62, (some ((some 58), false)), .ld none (.t 61)⟩,
 ⟨some 63, (some ((some 58), false)), .bin .neq true (.t 60) (.t 62) (pu (.binOp .neq 4 (.tmp 60) (.tmp 62) 4) 4)⟩,
 ⟨some 64, none, .pick (.t 58) (.k (.sc (.bool true))) (.t 63)⟩,
 ⟨some 65, none, .mv (.t 64)⟩,
 ⟨some 66, (some ((some 65), false)), .sh 6 (.t 2)⟩,
 ⟨some 67, (some ((some 65), false)), .ld none (.t 66)⟩,
 ⟨some 68, (some ((some 65), false)), .len (.t 67) (pu (.call ⟨.builtin .len, #[(.tmp 67)], #[25]⟩) 3)⟩,
 ⟨some 69, (some ((some 65), false)), .sh 6 (.t 3)⟩,
 ⟨some 70, (some ((some 65), false)), .ld none (.t 69)⟩,
 ⟨some 71, (some ((some 65), false)), .len (.t 70) (pu (.call ⟨.builtin .len, #[(.tmp 70)], #[25]⟩) 3)⟩,
 ⟨some 72, (some ((some 65), false)), .bin .neq false (.t 68) (.t 71) (pu (.binOp .neq 3 (.tmp 68) (.tmp 71) 3) 4)⟩,
 ⟨some 73, none, .pick (.t 65) (.k (.sc (.bool true))) (.t 72)⟩])
 (.cond (.t 73) (.seq (.reg [⟨some 4, none, .mv (.k (.sc (.bool false)))⟩])
 .ret)
 .skip))
 (.seq (.seq (.reg [⟨some 74, none, .sh 6 (.t 2)⟩,
 ⟨some 75, none, .ld none (.t 74)⟩,
 ⟨some 76, none, .len (.t 75) (pu (.call ⟨.builtin .len, #[(.tmp 75)], #[25]⟩) 3)⟩,
 ⟨some 77, none, .mv (.k (.sc (.int .i64 0)))⟩])
 (.block 0 (.loop (.seq (.reg [⟨some 78, none, .bin .lss false (.t 77) (.t 76) (pu (.binOp .lss 3 (.tmp 77) (.tmp 76) 3) 0)⟩])
 (.seq (.cond (.t 78) .skip
 (.exit 0))
 (.seq (.block 1 (.seq (.reg [⟨some 79, none, .mv (.t 77)⟩,
 ⟨some 5, none, .mv (.t 79)⟩])
 (.seq (.drw [0, 1, 0, 7, 15, 0, 32, 0, 224, 480, 1023] [⟨some 80, none, .sh 6 (.t 2)⟩,
 ⟨some 81, none, .ld none (.t 80)⟩,
 ⟨some 82, none, .mv (.t 5)⟩,
 ⟨some 83, none, .ixs 2 (.t 81) (.t 82)⟩,
 ⟨some 84, none, .ld (some 2) (.t 83)⟩,
 ⟨some 85, none, .sh 6 (.t 3)⟩,
 ⟨some 86, none, .ld none (.t 85)⟩,
 ⟨some 87, none, .mv (.t 5)⟩,
 ⟨some 88, none, .ixs 2 (.t 86) (.t 87)⟩,
 ⟨some 89, none, .ld (some 2) (.t 88)⟩,
 ⟨some 90, none, .bin .neq false (.t 84) (.t 89) (pu (.binOp .neq 34 (.tmp 84) (.tmp 89) 34) 4)⟩])
 (.cond (.t 90) (.seq (.reg [⟨some 4, none, .mv (.k (.sc (.bool false)))⟩])
 .ret)
 .skip))))
 (.reg [⟨some 91, none, .bin .add false (.t 77) (.k (.sc (.int .i64 1))) (pu (.binOp .add 3 (.tmp 77) (.const (.int .i64 1)) 3) 3)⟩,
 ⟨some 77, none, .mv (.t 91)⟩])))))))
 (.seq (.reg [⟨some 4, none, .mv (.k (.sc (.bool true)))⟩])
 .ret)))))
def k32 : List Nat := [0, 1, 2, 3, 4, 5, 45, 73, 76, 77, 78, 90]
theorem ic32 : factsI Try.prog 32 = some (92, [.tmp 4], c32) := by kernel_rfl
def c33 : IC :=
 (.seq (.reg [⟨some 1, none, .bx (.t 0)⟩,
 ⟨some 2, none, .mv (.k (.sc (.int .i64 0)))⟩])
 (.seq (.seq (.reg [⟨some 4, none, .sh 0 (.t 1)⟩,
 ⟨some 5, none, .ld none (.t 4)⟩,
 ⟨some 6, none, .call 49 [(.t 5)]⟩,
 ⟨some 7, none, .un .not (.t 6) (pu (.unOp .not 4 (.tmp 6)) 4)⟩,
 ⟨some 8, none, .mv (.t 7)⟩,
 ⟨some 9, (some ((some 8), false)), .sh 1 (.t 1)⟩,
 ⟨some 10, (some ((some 8), false)), .ld none (.t 9)⟩,
 ⟨some 11, (some ((some 8), false)), .call 49 [(.t 10)]⟩,
 ⟨some 12, (some ((some 8), false)), .un .not (.t 11) (pu (.unOp .not 4 (.tmp 11)) 4)⟩,
 ⟨some 13, none, .pick (.t 8) (.k (.sc (.bool true))) (.t 12)⟩])
 (.cond (.t 13) (.seq (.reg [⟨some 2, none, .mv (.k (.sc (.int .i64 4)))⟩])
 .ret)
 .skip))
 (.seq (.seq (.reg [⟨some 14, none, .sh 2 (.t 1)⟩,
 ⟨some 15, none, .ld none (.t 14)⟩,
 ⟨some 16, none, .bin .lss false (.t 15) (.k (.sc (.int .i64 1))) (pu (.binOp .lss 3 (.tmp 15) (.const (.int .i64 1)) 3) 4)⟩,
 ⟨some 17, none, .mv (.t 16)⟩,
 ⟨some 18, (some ((some 17), false)), .sh 2 (.t 1)⟩,
 ⟨some 19, (some ((some 17), false)), .ld none (.t 18)⟩,
 ⟨some 20, (some ((some 17), false)), .bin .gtr false (.t 19) (.k (.sc (.int .i64 32))) (pu (.binOp .gtr 3 (.tmp 19) (.const (.int .i64 32)) 3) 4)⟩,
 ⟨some 21, none, .pick (.t 17) (.k (.sc (.bool true))) (.t 20)⟩,
 ⟨some 22, none, .mv (.t 21)⟩,
 ⟨some 23, (some ((some 22), false)), .sh 3 (.t 1)⟩,
 ⟨some 24, (some ((some 22), false)), .ld none (.t 23)⟩,
 ⟨some 25, (some ((some 22), false)), .bin .lss false (.t 24) (.k (.sc (.int .i64 0))) (pu (.binOp .lss 3 (.tmp 24) (.const (.int .i64 0)) 3) 4)⟩,
 ⟨some 26, none, .pick (.t 22) (.k (.sc (.bool true))) (.t 25)⟩,
 ⟨some 27, none, .mv (.t 26)⟩,
 ⟨some 28, (some ((some 27), false)), .sh 3 (.t 1)⟩,
 ⟨some 29, (some ((some 27), false)), .ld none (.t 28)⟩,
 ⟨some 30, (some ((some 27), false)), .bin .gtr false (.t 29) (.k (.sc (.int .i64 2147483647))) (pu (.binOp .gtr 3 (.tmp 29) (.const (.int .i64 2147483647)) 3) 4)⟩,
 ⟨some 31, none, .pick (.t 27) (.k (.sc (.bool true))) (.t 30)⟩,
 ⟨some 32, none, .mv (.t 31)⟩,
 ⟨some 33, (some ((some 32), false)), .sh 5 (.t 1)⟩,
 ⟨some 34, (some ((some 32), false)), .ld none (.t 33)⟩,
 ⟨some 35, (some ((some 32), false)), .bin .lss false (.t 34) (.k (.sc (.int .i64 0))) (pu (.binOp .lss 3 (.tmp 34) (.const (.int .i64 0)) 3) 4)⟩,
 ⟨some 36, none, .pick (.t 32) (.k (.sc (.bool true))) (.t 35)⟩,
 ⟨some 37, none, .mv (.t 36)⟩,
 ⟨some 38, (some ((some 37), false)), .sh 5 (.t 1)⟩,
 ⟨some 39, (some ((some 37), false)), .ld none (.t 38)⟩,
 ⟨some 40, (some ((some 37), false)), .bin .gtr false (.t 39) (.k (.sc (.int .i64 268435456))) (pu (.binOp .gtr 3 (.tmp 39) (.const (.int .i64 268435456)) 3) 4)⟩,
 ⟨some 41, none, .pick (.t 37) (.k (.sc (.bool true))) (.t 40)⟩])
 (.cond (.t 41) (.seq (.reg [⟨some 2, none, .mv (.k (.sc (.int .i64 2)))⟩])
 .ret)
 .skip))
 (.seq (.seq (.reg [⟨some 42, none, .ld (some 10) (.t 1)⟩,
 ⟨some 43, none, .call 50 [(.t 42)]⟩,
 ⟨some 3, none, .mv (.t 43)⟩])
 (.seq (.reg [⟨some 44, none, .mv (.t 3)⟩,
 ⟨some 45, none, .bin .neq false (.t 44) (.k (.sc (.int .i64 0))) (pu (.binOp .neq 30 (.tmp 44) (.const (.int .i64 0)) 30) 4)⟩])
 (.cond (.t 45) (.seq (.reg [⟨some 46, none, .mv (.t 3)⟩,
 ⟨some 2, none, .mv (.t 46)⟩])
 .ret)
 .skip)))
 (.seq (.reg [⟨some 47, none, .ld (some 10) (.t 1)⟩,
 ⟨some 48, none, .call 51 [(.t 47)]⟩,
 ⟨some 2, none, .mv (.t 48)⟩])
 .ret)))))
def k33 : List Nat := [0, 1, 2, 3, 13, 41, 45]
theorem ic33 : factsI Try.prog 33 = some (49, [.tmp 2], c33) := by kernel_rfl
def c34 : IC :=
 (.seq (.reg [⟨some 2, none, .mv (.k (.sc (.slice none 0 0)))⟩])
 (.seq (.seq (.reg [⟨some 3, none, .mv (.t 0)⟩,
 ⟨some 4, none, .bin .eql false (.t 3) (.k (.sc (.slice none 0 0))) (pu (.binOp .eql 22 (.tmp 3) (.const (.slice none 0 0)) 22) 4)⟩])
 (.cond (.t 4) (.seq (.reg [⟨some 2, none, .mv (.k (.sc (.slice none 0 0)))⟩])
 .ret)
 .skip))
 (.seq (.reg [⟨some 5, none, .bsl 10 0 true [] []⟩,
 ⟨some 6, none, .mv (.t 0)⟩,
 ⟨some 7, none, .app 10 120 (.t 5) (.t 6)⟩,
 ⟨some 2, none, .mv (.t 7)⟩])
 .ret)))
def k34 : List Nat := [0, 2, 4]
theorem ic34 : factsI Try.prog 34 = some (8, [.tmp 2], c34) := by kernel_rfl
def c35 : IC :=
 (.reg [⟨some 4, none, .mv (.t 0)⟩,
 ⟨some 5, none, .mv (.t 0)⟩,
 ⟨some 6, none, .len (.t 5) (pu (.call ⟨.builtin .len, #[(.tmp 5)], #[22]⟩) 3)⟩,
 ⟨some 7, none, .mv (.t 1)⟩,
 ⟨some 8, none, .call 52 [(.t 4), (.t 6), (.t 7)]⟩])
def k35 : List Nat := [0, 1]
theorem ic35 : factsI Try.prog 35 = some (9, [], c35) := by kernel_rfl
def c36 : IC :=
 (.seq (.reg [⟨some 2, none, .bx (.t 0)⟩,
 ⟨some 3, none, .bx (.t 1)⟩,
 ⟨some 4, none, .mv (.k (.sc (.int .i64 0)))⟩])
 (.seq (.reg [⟨some 5, none, .sh 3 (.t 2)⟩,
 ⟨some 6, none, .ld none (.t 5)⟩,
 ⟨some 7, none, .sh 3 (.t 3)⟩,
 ⟨some 8, none, .ld none (.t 7)⟩,
 ⟨some 9, none, .bin .sub false (.t 6) (.t 8) (pu (.binOp .sub 3 (.tmp 6) (.tmp 8) 3) 3)⟩,
 ⟨some 4, none, .mv (.t 9)⟩])
 .ret))
def k36 : List Nat := [0, 1, 2, 3, 4]
theorem ic36 : factsI Try.prog 36 = some (10, [.tmp 4], c36) := by kernel_rfl
def c37 : IC :=
 (.seq (.reg [⟨some 2, none, .bx (.t 0)⟩,
 ⟨some 3, none, .bx (.t 1)⟩,
 ⟨some 4, none, .mv (.k (.sc (.bool false)))⟩])
 (.seq (.reg [⟨some 5, none, .sh 0 (.t 2)⟩,
 ⟨some 6, none, .ld none (.t 5)⟩,
 ⟨some 7, none, .sh 0 (.t 3)⟩,
 ⟨some 8, none, .ld none (.t 7)⟩,
 ⟨some 9, none, .bin .eql false (.t 6) (.t 8) (pu (.binOp .eql 9 (.tmp 6) (.tmp 8) 9) 4)⟩,
 ⟨some 10, none, .mv (.t 9)⟩,
 ⟨some 11, (some ((some 10), true)), .sh 1 (.t 2)⟩,
 ⟨some 12, (some ((some 10), true)), .ld none (.t 11)⟩,
 ⟨some 13, (some ((some 10), true)), .sh 1 (.t 3)⟩,
 ⟨some 14, (some ((some 10), true)), .ld none (.t 13)⟩,
 ⟨some 15, (some ((some 10), true)), .bin .eql false (.t 12) (.t 14) (pu (.binOp .eql 9 (.tmp 12) (.tmp 14) 9) 4)⟩,
 ⟨some 16, none, .pick (.t 10) (.t 15) (.k (.sc (.bool false)))⟩,
 ⟨some 17, none, .mv (.t 16)⟩,
 ⟨some 18, (some ((some 17), true)), .sh 2 (.t 2)⟩,
 ⟨some 19, (some ((some 17), true)), .ld none (.t 18)⟩,
 ⟨some 20, (some ((some 17), true)), .sh 2 (.t 3)⟩,
 ⟨some 21, (some ((some 17), true)), .ld none (.t 20)⟩,
 ⟨some 22, (some ((some 17), true)), .bin .eql false (.t 19) (.t 21) (pu (.binOp .eql 3 (.tmp 19) (.tmp 21) 3) 4)⟩,
 ⟨some 23, none, .pick (.t 17) (.t 22) (.k (.sc (.bool false)))⟩,
 ⟨some 24, none, .mv (.t 23)⟩,
 ⟨some 25, (some ((some 24), true)), .sh 3 (.t 2)⟩,
 ⟨some 26, (some ((some 24), true)), .ld none (.t 25)⟩,
 ⟨some 27, (some ((some 24), true)), .sh 3 (.t 3)⟩,
 ⟨some 28, (some ((some 24), true)), .ld none (.t 27)⟩,
 ⟨some 29, (some ((some 24), true)), .bin .eql false (.t 26) (.t 28) (pu (.binOp .eql 3 (.tmp 26) (.tmp 28) 3) 4)⟩,
 ⟨some 30, none, .pick (.t 24) (.t 29) (.k (.sc (.bool false)))⟩,
 ⟨some 31, none, .mv (.t 30)⟩,
 ⟨some 32, (some ((some 31), true)), .sh 4 (.t 2)⟩,
 ⟨some 33, (some ((some 31), true)), .ld none (.t 32)⟩,
 ⟨some 34, (some ((some 31), true)), .sh 4 (.t 3)⟩,
 ⟨some 35, (some ((some 31), true)), .ld none (.t 34)⟩,
 ⟨some 36, (some ((some 31), true)), .bin .eql false (.t 33) (.t 35) (pu (.binOp .eql 3 (.tmp 33) (.tmp 35) 3) 4)⟩,
 ⟨some 37, none, .pick (.t 31) (.t 36) (.k (.sc (.bool false)))⟩,
 ⟨some 38, none, .mv (.t 37)⟩,
 ⟨some 39, (some ((some 38), true)), .sh 5 (.t 2)⟩,
 ⟨some 40, (some ((some 38), true)), .ld none (.t 39)⟩,
 ⟨some 41, (some ((some 38), true)), .sh 5 (.t 3)⟩,
 ⟨some 42, (some ((some 38), true)), .ld none (.t 41)⟩,
 ⟨some 43, (some ((some 38), true)), .bin .eql false (.t 40) (.t 42) (pu (.binOp .eql 3 (.tmp 40) (.tmp 42) 3) 4)⟩,
 ⟨some 44, none, .pick (.t 38) (.t 43) (.k (.sc (.bool false)))⟩,
 ⟨some 45, none, .mv (.t 44)⟩,
 ⟨some 46, (some ((some 45), true)), .sh 6 (.t 2)⟩,
 ⟨some 47, (some ((some 45), true)), .ld none (.t 46)⟩,
 ⟨some 48, (some ((some 45), true)), .sh 6 (.t 3)⟩,
 ⟨some 49, (some ((some 45), true)), .ld none (.t 48)⟩,
 ⟨some 50, (some ((some 45), true)), .bin .eql false (.t 47) (.t 49) (pu (.binOp .eql 9 (.tmp 47) (.tmp 49) 9) 4)⟩,
 ⟨some 51, none, .pick (.t 45) (.t 50) (.k (.sc (.bool false)))⟩,
 ⟨some 52, none, .mv (.t 51)⟩,
 ⟨some 53, (some ((some 52), true)), .sh 7 (.t 2)⟩,
 ⟨some 54, (some ((some 52), true)), .ld none (.t 53)⟩,
 ⟨some 55, (some ((some 52), true)), .sh 7 (.t 3)⟩,
 ⟨some 56, (some ((some 52), true)), .ld none (.t 55)⟩,
 ⟨some 57, (some ((some 52), true)), .bin .eql true (.t 54) (.t 56) (pu (.binOp .eql 4 (.tmp 54) (.tmp 56) 4) 4)⟩,
 ⟨some 58, none, .pick (.t 52) (.t 57) (.k (.sc (.bool false)))⟩,
 ⟨some 59, none, .mv (.t 58)⟩,
 ⟨some 60, (some ((some 59), true)), .sh 8 (.t 2)⟩,
 ⟨some 61, (some ((some 59), true)), .ld none (.t 60)⟩,
 ⟨some 62, (some ((some 59), true)), .sh 8 (.t 3)⟩,
 ⟨some 63, (some ((some 59), true)), .ld none (.t 62)⟩,
 ⟨some 64, (some ((some 59), true)), .bin .eql false (.t 61) (.t 63) (pu (.binOp .eql 3 (.tmp 61) (.tmp 63) 3) 4)⟩,
 ⟨some 65, none, .pick (.t 59) (.t 64) (.k (.sc (.bool false)))⟩,
 ⟨some 66, none, .mv (.t 65)⟩,
 ⟨some 67, (some ((some 66), true)), .sh 9 (.t 2)⟩,
 ⟨some 68, (some ((some 66), true)), .ld none (.t 67)⟩,
 ⟨some 69, (some ((some 66), true)), .sh 9 (.t 3)⟩,
 ⟨some 70, (some ((some 66), true)), .ld none (.t 69)⟩,
 ⟨some 71, (some ((some 66), true)), .call 24 [(.t 68), (.t 70)]⟩,
 ⟨some 72, none, .pick (.t 66) (.t 71) (.k (.sc (.bool false)))⟩,
 ⟨some 4, none, .mv (.t 72)⟩])
 .ret))
def k37 : List Nat := [0, 1, 2, 3, 4]
theorem ic37 : factsI Try.prog 37 = some (73, [.tmp 4], c37) := by kernel_rfl
def c38 : IC :=
 (.seq (.reg [⟨some 4, none, .mv (.k (.sc (.slice none 0 0)))⟩,
 ⟨some 5, none, .mv (.k (.sc (.int .i64 0)))⟩])
 (.seq (.seq (.reg [⟨some 9, none, .mv (.t 0)⟩,
 ⟨some 10, none, .call 53 [(.t 9)]⟩,
 ⟨some 11, none, .un .not (.t 10) (pu (.unOp .not 4 (.tmp 10)) 4)⟩,
 ⟨some 12, none, .mv (.t 11)⟩,
 ⟨some 13, (some ((some 12), false)), .mv (.t 1)⟩,
 ⟨some 14, (some ((some 12), false)), .call 53 [(.t 13)]⟩,
 ⟨some 15, (some ((some 12), false)), .un .not (.t 14) (pu (.unOp .not 4 (.tmp 14)) 4)⟩,
 ⟨some 16, none, .pick (.t 12) (.k (.sc (.bool true))) (.t 15)⟩])
 (.cond (.t 16) (.seq (.reg [⟨some 4, none, .mv (.k (.sc (.slice none 0 0)))⟩,
 ⟨some 5, none, .mv (.k (.sc (.int .i64 1)))⟩])
 .ret)
 .skip))
 (.seq (.reg [⟨some 6, none, .mv (.k (.sc (.slice none 0 0)))⟩])
 (.seq (.reg [⟨some 7, none, .mv (.k (.sc (.int .i64 0)))⟩,
 ⟨some 8, none, .mv (.k (.sc (.int .i64 0)))⟩])
 (.seq (.block 0 (.loop (.seq (.seq (.reg [⟨some 17, none, .mv (.t 7)⟩,
 ⟨some 18, none, .mv (.t 0)⟩,
 ⟨some 19, none, .len (.t 18) (pu (.call ⟨.builtin .len, #[(.tmp 18)], #[25]⟩) 3)⟩,
 ⟨some 20, none, .bin .lss false (.t 17) (.t 19) (pu (.binOp .lss 3 (.tmp 17) (.tmp 19) 3) 4)⟩,
 ⟨some 21, none, .mv (.t 20)⟩,
 ⟨some 22, (some ((some 21), true)), .mv (.t 8)⟩,
 ⟨some 23, (some ((some 21), true)), .mv (.t 1)⟩,
 ⟨some 24, (some ((some 21), true)), .len (.t 23) (pu (.call ⟨.builtin .len, #[(.tmp 23)], #[25]⟩) 3)⟩,
 ⟨some 25, (some ((some 21), true)), .bin .lss false (.t 22) (.t 24) (pu (.binOp .lss 3 (.tmp 22) (.tmp 24) 3) 4)⟩,
 ⟨some 26, none, .pick (.t 21) (.t 25) (.k (.sc (.bool false)))⟩])
 (.cond (.t 26) .skip
 (.exit 0)))
 (.block 1 (.block 2 (.seq (.drw [0, 0, 3, 7, 15, 0, 0, 96, 224, 480, 1023, 2047] [⟨some 39, none, .mv (.t 0)⟩,
 ⟨some 40, none, .mv (.t 7)⟩,
 ⟨some 41, none, .ixs 2 (.t 39) (.t 40)⟩,
 ⟨some 42, none, .sh 0 (.t 41)⟩,
 ⟨some 43, none, .ld none (.t 42)⟩,
 ⟨some 44, none, .mv (.t 1)⟩,
 ⟨some 45, none, .mv (.t 8)⟩,
 ⟨some 46, none, .ixs 2 (.t 44) (.t 45)⟩,
 ⟨some 47, none, .sh 0 (.t 46)⟩,
 ⟨some 48, none, .ld none (.t 47)⟩,
 ⟨some 49, none, .bin .lss false (.t 43) (.t 48) (pu (.binOp .lss 3 (.tmp 43) (.tmp 48) 3) 4)⟩,
 ⟨some 38, none, .mv (.t 49)⟩])
 (.cond (.t 38) (.seq (.reg [⟨some 50, none, .mv (.t 6)⟩,
 ⟨some 51, none, .mv (.t 0)⟩,
 ⟨some 52, none, .mv (.t 7)⟩,
 ⟨some 53, none, .ixs 2 (.t 51) (.t 52)⟩,
 ⟨some 54, none, .ld (some 2) (.t 53)⟩,
 ⟨some 55, none, .bsl 2 1 true [.sc (.int .i64 0), .sc (.int .i64 0)] [(0, 2, (.t 54))]⟩,
 ⟨some 56, none, .app 2 16 (.t 50) (.t 55)⟩,
 ⟨some 6, none, .mv (.t 56)⟩])
 (.reg [⟨some 57, none, .mv (.t 7)⟩,
 ⟨some 58, none, .bin .add false (.t 57) (.k (.sc (.int .i64 1))) (pu (.binOp .add 3 (.tmp 57) (.const (.int .i64 1)) 3) 3)⟩,
 ⟨some 7, none, .mv (.t 58)⟩]))
 (.seq (.drw [0, 0, 3, 7, 15, 0, 0, 96, 224, 480, 1023, 2047] [⟨some 60, none, .mv (.t 0)⟩,
 ⟨some 61, none, .mv (.t 7)⟩,
 ⟨some 62, none, .ixs 2 (.t 60) (.t 61)⟩,
 ⟨some 63, none, .sh 0 (.t 62)⟩,
 ⟨some 64, none, .ld none (.t 63)⟩,
 ⟨some 65, none, .mv (.t 1)⟩,
 ⟨some 66, none, .mv (.t 8)⟩,
 ⟨some 67, none, .ixs 2 (.t 65) (.t 66)⟩,
 ⟨some 68, none, .sh 0 (.t 67)⟩,
 ⟨some 69, none, .ld none (.t 68)⟩,
 ⟨some 70, none, .bin .gtr false (.t 64) (.t 69) (pu (.binOp .gtr 3 (.tmp 64) (.tmp 69) 3) 4)⟩,
 ⟨some 59, none, .mv (.t 70)⟩])
 (.cond (.t 59) (.seq (.reg [⟨some 71, none, .mv (.t 6)⟩,
 ⟨some 72, none, .mv (.t 1)⟩,
 ⟨some 73, none, .mv (.t 8)⟩,
 ⟨some 74, none, .ixs 2 (.t 72) (.t 73)⟩,
 ⟨some 75, none, .ld (some 2) (.t 74)⟩,
 ⟨some 76, none, .bsl 2 1 true [.sc (.int .i64 0), .sc (.int .i64 0)] [(0, 2, (.t 75))]⟩,
 ⟨some 77, none, .app 2 16 (.t 71) (.t 76)⟩,
 ⟨some 6, none, .mv (.t 77)⟩])
 (.reg [⟨some 78, none, .mv (.t 8)⟩,
 ⟨some 79, none, .bin .add false (.t 78) (.k (.sc (.int .i64 1))) (pu (.binOp .add 3 (.tmp 78) (.const (.int .i64 1)) 3) 3)⟩,
 ⟨some 8, none, .mv (.t 79)⟩]))
 (.seq (.drw [0, 0, 3, 7, 15, 0, 0, 96, 224, 480, 1023, 2047] [⟨some 81, none, .mv (.t 0)⟩,
 ⟨some 82, none, .mv (.t 7)⟩,
 ⟨some 83, none, .ixs 2 (.t 81) (.t 82)⟩,
 ⟨some 84, none, .sh 1 (.t 83)⟩,
 ⟨some 85, none, .ld none (.t 84)⟩,
 ⟨some 86, none, .mv (.t 1)⟩,
 ⟨some 87, none, .mv (.t 8)⟩,
 ⟨some 88, none, .ixs 2 (.t 86) (.t 87)⟩,
 ⟨some 89, none, .sh 1 (.t 88)⟩,
 ⟨some 90, none, .ld none (.t 89)⟩,
 ⟨some 91, none, .bin .neq false (.t 85) (.t 90) (pu (.binOp .neq 3 (.tmp 85) (.tmp 90) 3) 4)⟩,
 ⟨some 80, none, .mv (.t 91)⟩])
 (.cond (.t 80) (.seq (.reg [⟨some 4, none, .mv (.k (.sc (.slice none 0 0)))⟩,
 ⟨some 5, none, .mv (.k (.sc (.int .i64 23)))⟩])
 .ret)
 (.seq (.reg [⟨some 27, none, .mv (.t 6)⟩,
 ⟨some 28, none, .mv (.t 0)⟩,
 ⟨some 29, none, .mv (.t 7)⟩,
 ⟨some 30, none, .ixs 2 (.t 28) (.t 29)⟩,
 ⟨some 31, none, .ld (some 2) (.t 30)⟩,
 ⟨some 32, none, .bsl 2 1 true [.sc (.int .i64 0), .sc (.int .i64 0)] [(0, 2, (.t 31))]⟩,
 ⟨some 33, none, .app 2 16 (.t 27) (.t 32)⟩,
 ⟨some 6, none, .mv (.t 33)⟩])
 (.seq (.reg [⟨some 34, none, .mv (.t 7)⟩,
 ⟨some 35, none, .bin .add false (.t 34) (.k (.sc (.int .i64 1))) (pu (.binOp .add 3 (.tmp 34) (.const (.int .i64 1)) 3) 3)⟩,
 ⟨some 7, none, .mv (.t 35)⟩])
 (.reg [⟨some 36, none, .mv (.t 8)⟩,
 ⟨some 37, none, .bin .add false (.t 36) (.k (.sc (.int .i64 1))) (pu (.binOp .add 3 (.tmp 36) (.const (.int .i64 1)) 3) 3)⟩,
 ⟨some 8, none, .mv (.t 37)⟩]))))))))))))))
 (.seq (.reg [⟨some 92, none, .mv (.t 6)⟩,
 ⟨some 93, none, .mv (.t 0)⟩,
 ⟨some 94, none, .mv (.t 7)⟩,
 ⟨some 95, none, .sl 2 (.t 93) (some (.t 94)) none none (pu (.slice 25 (.tmp 93) (some (.tmp 94)) none none) 25)⟩,
 ⟨some 96, none, .app 2 16 (.t 92) (.t 95)⟩,
 ⟨some 6, none, .mv (.t 96)⟩])
 (.seq (.reg [⟨some 97, none, .mv (.t 6)⟩,
 ⟨some 98, none, .mv (.t 1)⟩,
 ⟨some 99, none, .mv (.t 8)⟩,
 ⟨some 100, none, .sl 2 (.t 98) (some (.t 99)) none none (pu (.slice 25 (.tmp 98) (some (.tmp 99)) none none) 25)⟩,
 ⟨some 101, none, .app 2 16 (.t 97) (.t 100)⟩,
 ⟨some 6, none, .mv (.t 101)⟩])
 (.seq (.seq (.reg [⟨some 102, none, .mv (.t 6)⟩,
 ⟨some 103, none, .len (.t 102) (pu (.call ⟨.builtin .len, #[(.tmp 102)], #[25]⟩) 3)⟩,
 ⟨some 104, none, .bin .gtr false (.t 103) (.k (.sc (.int .i64 1024))) (pu (.binOp .gtr 3 (.tmp 103) (.const (.int .i64 1024)) 3) 4)⟩])
 (.cond (.t 104) (.seq (.reg [⟨some 4, none, .mv (.k (.sc (.slice none 0 0)))⟩,
 ⟨some 5, none, .mv (.k (.sc (.int .i64 3)))⟩])
 .ret)
 .skip))
 (.seq (.reg [⟨some 105, none, .mv (.t 6)⟩,
 ⟨some 4, none, .mv (.t 105)⟩,
 ⟨some 5, none, .mv (.k (.sc (.int .i64 0)))⟩])
 .ret)))))))))
def k38 : List Nat := [0, 1, 4, 5, 6, 7, 8, 16, 26, 38, 59, 80, 104]
theorem ic38 : factsI Try.prog 38 = some (106, [.tmp 4, .tmp 5], c38) := by kernel_rfl
def c39 : IC :=
 (.seq (.reg [⟨some 4, none, .mv (.k (.sc (.int .i64 0)))⟩])
 (.seq (.seq (.reg [⟨some 7, none, .mv (.t 1)⟩,
 ⟨some 8, none, .bin .lss false (.t 7) (.k (.sc (.int .i64 1000))) (pu (.binOp .lss 3 (.tmp 7) (.const (.int .i64 1000)) 3) 4)⟩,
 ⟨some 9, none, .mv (.t 8)⟩,
 ⟨some 10, (some ((some 9), false)), .mv (.t 1)⟩,
 ⟨some 11, (some ((some 9), false)), .bin .gtr false (.t 10) (.k (.sc (.int .i64 1099511627776))) (pu (.binOp .gtr 3 (.tmp 10) (.const (.int .i64 1099511627776)) 3) 4)⟩,
 ⟨some 12, none, .pick (.t 9) (.k (.sc (.bool true))) (.t 11)⟩])
 (.cond (.t 12) (.seq (.reg [⟨some 4, none, .mv (.k (.sc (.int .i64 2)))⟩])
 .ret)
 .skip))
 (.seq (.seq (.reg [⟨some 13, none, .mv (.t 0)⟩,
 ⟨some 14, none, .len (.t 13) (pu (.call ⟨.builtin .len, #[(.tmp 13)], #[25]⟩) 3)⟩,
 ⟨some 15, none, .bin .eql false (.t 14) (.k (.sc (.int .i64 0))) (pu (.binOp .eql 3 (.tmp 14) (.const (.int .i64 0)) 3) 4)⟩])
 (.cond (.t 15) (.seq (.reg [⟨some 4, none, .mv (.k (.sc (.int .i64 1)))⟩])
 .ret)
 .skip))
 (.seq (.seq (.reg [⟨some 16, none, .mv (.t 0)⟩,
 ⟨some 17, none, .len (.t 16) (pu (.call ⟨.builtin .len, #[(.tmp 16)], #[25]⟩) 3)⟩,
 ⟨some 18, none, .bin .gtr false (.t 17) (.k (.sc (.int .i64 1024))) (pu (.binOp .gtr 3 (.tmp 17) (.const (.int .i64 1024)) 3) 4)⟩])
 (.cond (.t 18) (.seq (.reg [⟨some 4, none, .mv (.k (.sc (.int .i64 3)))⟩])
 .ret)
 .skip))
 (.seq (.seq (.reg [⟨some 19, none, .mv (.t 0)⟩,
 ⟨some 20, none, .len (.t 19) (pu (.call ⟨.builtin .len, #[(.tmp 19)], #[25]⟩) 3)⟩,
 ⟨some 21, none, .mv (.k (.sc (.int .i64 0)))⟩])
 (.block 0 (.loop (.seq (.reg [⟨some 22, none, .bin .lss false (.t 21) (.t 20) (pu (.binOp .lss 3 (.tmp 21) (.tmp 20) 3) 0)⟩])
 (.seq (.cond (.t 22) .skip
 (.exit 0))
 (.seq (.block 1 (.seq (.reg [⟨some 23, none, .mv (.t 21)⟩,
 ⟨some 24, none, .ixs 2 (.t 19) (.t 21)⟩,
 ⟨some 25, none, .ld (some 2) (.t 24)⟩,
 ⟨some 6, none, .al (.agg [.sc (.int .i64 0), .sc (.int .i64 0)]) 2⟩,
 ⟨some 5, none, .mv (.t 23)⟩,
 ⟨none, none, .st 2 (.t 6) (.t 25)⟩])
 (.seq (.seq (.reg [⟨some 26, none, .sh 0 (.t 6)⟩,
 ⟨some 27, none, .ld none (.t 26)⟩,
 ⟨some 28, none, .bin .lss false (.t 27) (.k (.sc (.int .i64 0))) (pu (.binOp .lss 3 (.tmp 27) (.const (.int .i64 0)) 3) 4)⟩,
 ⟨some 29, none, .mv (.t 28)⟩,
 ⟨some 30, (some ((some 29), false)), .sh 0 (.t 6)⟩,
 ⟨some 31, (some ((some 29), false)), .ld none (.t 30)⟩,
 ⟨some 32, (some ((some 29), false)), .bin .gtr false (.t 31) (.k (.sc (.int .i64 268435456))) (pu (.binOp .gtr 3 (.tmp 31) (.const (.int .i64 268435456)) 3) 4)⟩,
 ⟨some 33, none, .pick (.t 29) (.k (.sc (.bool true))) (.t 32)⟩,
 ⟨some 34, none, .mv (.t 33)⟩,
 ⟨some 35, (some ((some 34), false)), .sh 1 (.t 6)⟩,
 ⟨some 36, (some ((some 34), false)), .ld none (.t 35)⟩,
 ⟨some 37, (some ((some 34), false)), .bin .lss false (.t 36) (.k (.sc (.int .i64 0))) (pu (.binOp .lss 3 (.tmp 36) (.const (.int .i64 0)) 3) 4)⟩,
 ⟨some 38, none, .pick (.t 34) (.k (.sc (.bool true))) (.t 37)⟩,
 ⟨some 39, none, .mv (.t 38)⟩,
 ⟨some 40, (some ((some 39), false)), .sh 1 (.t 6)⟩,
 ⟨some 41, (some ((some 39), false)), .ld none (.t 40)⟩,
 ⟨some 42, (some ((some 39), false)), .mv (.t 1)⟩,
 ⟨some 43, (some ((some 39), false)), .bin .geq false (.t 41) (.t 42) (pu (.binOp .geq 3 (.tmp 41) (.tmp 42) 3) 4)⟩,
 ⟨some 44, none, .pick (.t 39) (.k (.sc (.bool true))) (.t 43)⟩])
 (.cond (.t 44) (.seq (.reg [⟨some 4, none, .mv (.k (.sc (.int .i64 2)))⟩])
 .ret)
 .skip))
 (.seq (.drw [0, 1, 3, 7, 15, 7, 7, 71, 231, 487, 999, 2047, 4095] [⟨some 45, none, .mv (.t 5)⟩,
 ⟨some 46, none, .bin .gtr false (.t 45) (.k (.sc (.int .i64 0))) (pu (.binOp .gtr 3 (.tmp 45) (.const (.int .i64 0)) 3) 4)⟩,
 ⟨some 47, none, .mv (.t 46)⟩,
 ⟨some 48, (some ((some 47), true)), .sh 0 (.t 6)⟩,
 ⟨some 49, (some ((some 47), true)), .ld none (.t 48)⟩,
 ⟨some 50, (some ((some 47), true)), .mv (.t 0)⟩,
 ⟨some 51, (some ((some 47), true)), .mv (.t 5)⟩,
 ⟨some 52, (some ((some 47), true)), .bin .sub false (.t 51) (.k (.sc (.int .i64 1))) (pu (.binOp .sub 3 (.tmp 51) (.const (.int .i64 1)) 3) 3)⟩,
 ⟨some 53, (some ((some 47), true)), .ixs 2 (.t 50) (.t 52)⟩,
 ⟨some 54, (some ((some 47), true)), .sh 0 (.t 53)⟩,
 ⟨some 55, (some ((some 47), true)), .ld none (.t 54)⟩,
 ⟨some 56, (some ((some 47), true)), .bin .leq false (.t 49) (.t 55) (pu (.binOp .leq 3 (.tmp 49) (.tmp 55) 3) 4)⟩,
 ⟨some 57, none, .pick (.t 47) (.t 56) (.k (.sc (.bool false)))⟩])
 (.cond (.t 57) (.seq (.reg [⟨some 4, none, .mv (.k (.sc (.int .i64 1)))⟩])
 .ret)
 .skip)))))
 (.reg [⟨some 58, none, .bin .add false (.t 21) (.k (.sc (.int .i64 1))) (pu (.binOp .add 3 (.tmp 21) (.const (.int .i64 1)) 3) 3)⟩,
 ⟨some 21, none, .mv (.t 58)⟩])))))))
 (.seq (.reg [⟨some 4, none, .mv (.k (.sc (.int .i64 0)))⟩])
 .ret))))))
def k39 : List Nat := [0, 1, 4, 5, 6, 12, 15, 18, 19, 20, 21, 22, 44, 57]
theorem ic39 : factsI Try.prog 39 = some (59, [.tmp 4], c39) := by kernel_rfl
def c40 : IC :=
 (.seq (.reg [⟨some 1, none, .bx (.t 0)⟩,
 ⟨some 2, none, .mv (.k (.sc .nilFunc))⟩])
 (.seq (.reg [⟨some 3, none, .mkf (.func 54) [] [(.t 1)]⟩,
 ⟨some 2, none, .mv (.t 3)⟩])
 .ret))
def k40 : List Nat := [0, 1, 2]
theorem ic40 : factsI Try.prog 40 = some (4, [.tmp 2], c40) := by kernel_rfl
def c41 : IC :=
 (.seq (.reg [⟨some 6, none, .mv (.k (.sc (.int .i64 0)))⟩,
 ⟨some 7, none, .mv (.k (.sc (.int .i64 0)))⟩])
 (.seq (.seq (.reg [⟨some 8, none, .mv (.t 2)⟩,
 ⟨some 9, none, .bin .lss false (.t 8) (.k (.sc (.int .i64 1000))) (pu (.binOp .lss 3 (.tmp 8) (.const (.int .i64 1000)) 3) 4)⟩,
 ⟨some 10, none, .mv (.t 9)⟩,
 ⟨some 11, (some ((some 10), false)), .mv (.t 2)⟩,
 ⟨some 12, (some ((some 10), false)), .bin .gtr false (.t 11) (.k (.sc (.int .i64 1099511627776))) (pu (.binOp .gtr 3 (.tmp 11) (.const (.int .i64 1099511627776)) 3) 4)⟩,
 ⟨some 13, none, .pick (.t 10) (.k (.sc (.bool true))) (.t 12)⟩])
 (.cond (.t 13) (.seq (.reg [⟨some 6, none, .mv (.k (.sc (.int .i64 0)))⟩,
 ⟨some 7, none, .mv (.k (.sc (.int .i64 1)))⟩])
 .ret)
 .skip))
 (.seq (.seq (.reg [⟨some 14, none, .mv (.t 0)⟩,
 ⟨some 15, none, .bin .lss false (.t 14) (.k (.sc (.int .i64 0))) (pu (.binOp .lss 3 (.tmp 14) (.const (.int .i64 0)) 3) 4)⟩,
 ⟨some 16, none, .mv (.t 15)⟩,
 ⟨some 17, (some ((some 16), false)), .mv (.t 0)⟩,
 ⟨some 18, (some ((some 16), false)), .mv (.t 2)⟩,
 ⟨some 19, (some ((some 16), false)), .bin .geq false (.t 17) (.t 18) (pu (.binOp .geq 3 (.tmp 17) (.tmp 18) 3) 4)⟩,
 ⟨some 20, none, .pick (.t 16) (.k (.sc (.bool true))) (.t 19)⟩,
 ⟨some 21, none, .mv (.t 20)⟩,
 ⟨some 22, (some ((some 21), false)), .mv (.t 1)⟩,
 ⟨some 23, (some ((some 21), false)), .bin .lss false (.t 22) (.k (.sc (.int .i64 0))) (pu (.binOp .lss 3 (.tmp 22) (.const (.int .i64 0)) 3) 4)⟩,
 ⟨some 24, none, .pick (.t 21) (.k (.sc (.bool true))) (.t 23)⟩,
 ⟨some 25, none, .mv (.t 24)⟩,
 ⟨some 26, (some ((some 25), false)), .mv (.t 1)⟩,
 ⟨some 27, (some ((some 25), false)), .mv (.t 2)⟩,
 ⟨some 28, (some ((some 25), false)), .bin .geq false (.t 26) (.t 27) (pu (.binOp .geq 3 (.tmp 26) (.tmp 27) 3) 4)⟩,
 ⟨some 29, none, .pick (.t 25) (.k (.sc (.bool true))) (.t 28)⟩])
 (.cond (.t 29) (.seq (.reg [⟨some 6, none, .mv (.k (.sc (.int .i64 0)))⟩,
 ⟨some 7, none, .mv (.k (.sc (.int .i64 2)))⟩])
 .ret)
 .skip))
 (.seq (.reg [⟨some 30, none, .mv (.t 1)⟩,
 ⟨some 31, none, .mv (.t 0)⟩,
 ⟨some 32, none, .bin .sub false (.t 30) (.t 31) (pu (.binOp .sub 3 (.tmp 30) (.tmp 31) 3) 3)⟩,
 ⟨some 33, none, .mv (.t 2)⟩,
 ⟨some 34, none, .bin .add false (.t 32) (.t 33) (pu (.binOp .add 3 (.tmp 32) (.tmp 33) 3) 3)⟩,
 ⟨some 35, none, .mv (.t 2)⟩,
 ⟨some 36, none, .bin .rem false (.t 34) (.t 35) (pu (.binOp .rem 3 (.tmp 34) (.tmp 35) 3) 3)⟩,
 ⟨some 6, none, .mv (.t 36)⟩,
 ⟨some 7, none, .mv (.k (.sc (.int .i64 0)))⟩])
 .ret))))
def k41 : List Nat := [0, 1, 2, 6, 7, 13, 29]
theorem ic41 : factsI Try.prog 41 = some (37, [.tmp 6, .tmp 7], c41) := by kernel_rfl
def c42 : IC :=
 (.seq (.reg [⟨some 2, none, .mv (.k (.sc (.int .i64 0)))⟩])
 (.seq (.seq (.reg [⟨some 3, none, .mv (.k (.sc (.int .i64 0)))⟩])
 (.block 0 (.loop (.seq (.seq (.reg [⟨some 4, none, .mv (.t 3)⟩,
 ⟨some 5, none, .bin .lss false (.t 4) (.k (.sc (.int .i64 36))) (pu (.binOp .lss 3 (.tmp 4) (.const (.int .i64 36)) 3) 4)⟩])
 (.cond (.t 5) .skip
 (.exit 0)))
 (.seq (.block 1 (.seq (.drw [0, 1, 0, 4, 15] [⟨some 8, none, .mv (.t 3)⟩,
 ⟨some 9, none, .pur (pu (.index 9 (.const (.string ⟨#[48, 49, 50, 51, 52, 53, 54, 55, 56, 57, 65, 66, 67, 68, 69, 70, 71, 72, 73, 74, 75, 76, 77, 78, 79, 80, 81, 82, 83, 84, 85, 86, 87, 88, 89, 90]⟩)) (.tmp 8)) 5)⟩,
 ⟨some 10, none, .mv (.t 0)⟩,
 ⟨some 11, none, .call 55 [(.t 10)]⟩,
 ⟨some 12, none, .bin .eql false (.t 9) (.t 11) (pu (.binOp .eql 5 (.tmp 9) (.tmp 11) 5) 4)⟩])
 (.cond (.t 12) (.seq (.reg [⟨some 13, none, .mv (.t 3)⟩,
 ⟨some 2, none, .mv (.t 13)⟩])
 .ret)
 .skip)))
 (.reg [⟨some 6, none, .mv (.t 3)⟩,
 ⟨some 7, none, .bin .add false (.t 6) (.k (.sc (.int .i64 1))) (pu (.binOp .add 3 (.tmp 6) (.const (.int .i64 1)) 3) 3)⟩,
 ⟨some 3, none, .mv (.t 7)⟩]))))))
 (.seq (.reg [⟨some 2, none, .mv (.k (.sc (.int .i64 (-1))))⟩])
 .ret)))
def k42 : List Nat := [0, 2, 3, 5, 12]
theorem ic42 : factsI Try.prog 42 = some (14, [.tmp 2], c42) := by kernel_rfl
def c43 : IC :=
 (.seq (.reg [⟨some 1, none, .bx (.t 0)⟩,
 ⟨some 2, none, .mv (.k (.sc (.bool false)))⟩])
 (.seq (.reg [⟨some 3, none, .sh 0 (.t 1)⟩,
 ⟨some 4, none, .ld none (.t 3)⟩,
 ⟨some 5, none, .call 22 [(.t 4)]⟩,
 ⟨some 6, none, .mv (.t 5)⟩,
 ⟨some 7, (some ((some 6), true)), .sh 1 (.t 1)⟩,
 ⟨some 8, (some ((some 6), true)), .ld none (.t 7)⟩,
 ⟨some 9, (some ((some 6), true)), .call 56 [(.t 8), (.k (.sc (.int .i64 0))), (.k (.sc (.int .i64 1099511627775)))]⟩,
 ⟨some 10, none, .pick (.t 6) (.t 9) (.k (.sc (.bool false)))⟩,
 ⟨some 2, none, .mv (.t 10)⟩])
 .ret))
def k43 : List Nat := [0, 1, 2]
theorem ic43 : factsI Try.prog 43 = some (11, [.tmp 2], c43) := by kernel_rfl
def c44 : IC :=
 (.seq (.reg [⟨some 4, none, .mv (.k (.sc (.bool false)))⟩])
 (.seq (.seq (.reg [⟨some 6, none, .mv (.t 0)⟩,
 ⟨some 7, none, .len (.t 6) (pu (.call ⟨.builtin .len, #[(.tmp 6)], #[25]⟩) 3)⟩,
 ⟨some 8, none, .mv (.t 1)⟩,
 ⟨some 9, none, .len (.t 8) (pu (.call ⟨.builtin .len, #[(.tmp 8)], #[25]⟩) 3)⟩,
 ⟨some 10, none, .bin .neq false (.t 7) (.t 9) (pu (.binOp .neq 3 (.tmp 7) (.tmp 9) 3) 4)⟩])
 (.cond (.t 10) (.seq (.reg [⟨some 4, none, .mv (.k (.sc (.bool false)))⟩])
 .ret)
 .skip))
 (.seq (.seq (.reg [⟨some 5, none, .mv (.k (.sc (.int .i64 0)))⟩])
 (.block 0 (.loop (.seq (.seq (.reg [⟨some 11, none, .mv (.t 5)⟩,
 ⟨some 12, none, .mv (.t 0)⟩,
 ⟨some 13, none, .len (.t 12) (pu (.call ⟨.builtin .len, #[(.tmp 12)], #[25]⟩) 3)⟩,
 ⟨some 14, none, .bin .lss false (.t 11) (.t 13) (pu (.binOp .lss 3 (.tmp 11) (.tmp 13) 3) 4)⟩])
 (.cond (.t 14) .skip
 (.exit 0)))
 (.seq (.block 1 (.seq (.drw [0, 0, 3, 7, 0, 0, 48, 112, 255] [⟨some 17, none, .mv (.t 0)⟩,
 ⟨some 18, none, .mv (.t 5)⟩,
 ⟨some 19, none, .ixs 2 (.t 17) (.t 18)⟩,
 ⟨some 20, none, .ld (some 2) (.t 19)⟩,
 ⟨some 21, none, .mv (.t 1)⟩,
 ⟨some 22, none, .mv (.t 5)⟩,
 ⟨some 23, none, .ixs 2 (.t 21) (.t 22)⟩,
 ⟨some 24, none, .ld (some 2) (.t 23)⟩,
 ⟨some 25, none, .bin .neq false (.t 20) (.t 24) (pu (.binOp .neq 34 (.tmp 20) (.tmp 24) 34) 4)⟩])
 (.cond (.t 25) (.seq (.reg [⟨some 4, none, .mv (.k (.sc (.bool false)))⟩])
 .ret)
 .skip)))
 (.reg [⟨some 15, none, .mv (.t 5)⟩,
 ⟨some 16, none, .bin .add false (.t 15) (.k (.sc (.int .i64 1))) (pu (.binOp .add 3 (.tmp 15) (.const (.int .i64 1)) 3) 3)⟩,
 ⟨some 5, none, .mv (.t 16)⟩]))))))
 (.seq (.reg [⟨some 4, none, .mv (.k (.sc (.bool true)))⟩])
 .ret))))
def k44 : List Nat := [0, 1, 4, 5, 10, 14, 25]
theorem ic44 : factsI Try.prog 44 = some (26, [.tmp 4], c44) := by kernel_rfl
def c45 : IC :=
 (.seq (.reg [⟨some 2, none, .mv (.k (.sc (.slice none 0 0)))⟩,
 ⟨some 3, none, .mv (.k (.sc (.int .i64 0)))⟩])
 (.seq (.reg [⟨some 4, none, .mv (.k (.sc (.slice none 0 0)))⟩])
 (.seq (.seq (.reg [⟨some 12, none, .mv (.t 0)⟩,
 ⟨some 13, none, .len (.t 12) (pu (.call ⟨.builtin .len, #[(.tmp 12)], #[22]⟩) 3)⟩,
 ⟨some 14, none, .mv (.k (.sc (.int .i64 0)))⟩])
 (.block 0 (.loop (.seq (.reg [⟨some 15, none, .bin .lss false (.t 14) (.t 13) (pu (.binOp .lss 3 (.tmp 14) (.tmp 13) 3) 0)⟩])
 (.seq (.cond (.t 15) .skip
 (.exit 0))
 (.seq (.block 1 (.seq (.reg [⟨some 16, none, .ixs 10 (.t 12) (.t 14)⟩,
 ⟨some 17, none, .ld (some 10) (.t 16)⟩,
 ⟨some 6, none, .al (.agg [.sc (.string ⟨#[]⟩), .sc (.string ⟨#[]⟩), .sc (.int .i64 0), .sc (.int .i64 0), .sc (.int .i64 0), .sc (.int .i64 0), .sc (.string ⟨#[]⟩), .sc (.bool false), .sc (.int .i64 0), .sc (.slice none 0 0)]) 10⟩,
 ⟨none, none, .st 10 (.t 6) (.t 17)⟩])
 (.seq (.seq (.drw [0, 1, 0, 4, 12, 28, 63, 127, 255, 511, 255, 1279, 3327, 7423, 16383, 32767] [⟨some 18, none, .sh 0 (.t 6)⟩,
 ⟨some 19, none, .ld none (.t 18)⟩,
 ⟨some 20, none, .mv (.t 0)⟩,
 ⟨some 21, none, .ixs 10 (.t 20) (.k (.sc (.int .i64 0)))⟩,
 ⟨some 22, none, .sh 0 (.t 21)⟩,
 ⟨some 23, none, .ld none (.t 22)⟩,
 ⟨some 24, none, .bin .neq false (.t 19) (.t 23) (pu (.binOp .neq 9 (.tmp 19) (.tmp 23) 9) 4)⟩,
 ⟨some 25, none, .mv (.t 24)⟩,
 ⟨some 26, (some ((some 25), false)), .sh 1 (.t 6)⟩,
 ⟨some 27, (some ((some 25), false)), .ld none (.t 26)⟩,
 ⟨some 28, (some ((some 25), false)), .mv (.t 0)⟩,
 ⟨some 29, (some ((some 25), false)), .ixs 10 (.t 28) (.k (.sc (.int .i64 0)))⟩,
 ⟨some 30, (some ((some 25), false)), .sh 1 (.t 29)⟩,
 ⟨some 31, (some ((some 25), false)), .ld none (.t 30)⟩,
 ⟨some 32, (some ((some 25), false)), .bin .neq false (.t 27) (.t 31) (pu (.binOp .neq 9 (.tmp 27) (.tmp 31) 9) 4)⟩,
 ⟨some 33, none, .pick (.t 25) (.k (.sc (.bool true))) (.t 32)⟩])
 (.cond (.t 33) (.seq (.reg [⟨some 2, none, .mv (.k (.sc (.slice none 0 0)))⟩,
 ⟨some 3, none, .mv (.k (.sc (.int .i64 23)))⟩])
 .ret)
 .skip))
 (.seq (.reg [⟨some 7, none, .mv (.k (.sc (.bool false)))⟩])
 (.seq (.seq (.reg [⟨some 34, none, .mv (.t 4)⟩,
 ⟨some 35, none, .len (.t 34) (pu (.call ⟨.builtin .len, #[(.tmp 34)], #[22]⟩) 3)⟩,
 ⟨some 36, none, .mv (.k (.sc (.int .i64 0)))⟩])
 (.block 2 (.loop (.seq (.reg [⟨some 37, none, .bin .lss false (.t 36) (.t 35) (pu (.binOp .lss 3 (.tmp 36) (.tmp 35) 3) 0)⟩])
 (.seq (.cond (.t 37) .skip
 (.exit 2))
 (.seq (.block 3 (.seq (.reg [⟨some 38, none, .ixs 10 (.t 34) (.t 36)⟩,
 ⟨some 39, none, .ld (some 10) (.t 38)⟩,
 ⟨some 9, none, .al (.agg [.sc (.string ⟨#[]⟩), .sc (.string ⟨#[]⟩), .sc (.int .i64 0), .sc (.int .i64 0), .sc (.int .i64 0), .sc (.int .i64 0), .sc (.string ⟨#[]⟩), .sc (.bool false), .sc (.int .i64 0), .sc (.slice none 0 0)]) 10⟩,
 ⟨none, none, .st 10 (.t 9) (.t 39)⟩])
 (.seq (.reg [⟨some 40, none, .sh 3 (.t 9)⟩,
 ⟨some 41, none, .ld none (.t 40)⟩,
 ⟨some 42, none, .sh 3 (.t 6)⟩,
 ⟨some 43, none, .ld none (.t 42)⟩,
 ⟨some 44, none, .bin .eql false (.t 41) (.t 43) (pu (.binOp .eql 3 (.tmp 41) (.tmp 43) 3) 4)⟩])
 (.cond (.t 44) (.seq (.seq (.reg [⟨some 45, none, .ld (some 10) (.t 9)⟩,
 ⟨some 46, none, .ld (some 10) (.t 6)⟩,
 ⟨some 47, none, .call 26 [(.t 45), (.t 46)]⟩,
 ⟨some 48, none, .un .not (.t 47) (pu (.unOp .not 4 (.tmp 47)) 4)⟩])
 (.cond (.t 48) (.seq (.reg [⟨some 2, none, .mv (.k (.sc (.slice none 0 0)))⟩,
 ⟨some 3, none, .mv (.k (.sc (.int .i64 23)))⟩])
 .ret)
 .skip))
 (.reg [⟨some 7, none, .mv (.k (.sc (.bool true)))⟩]))
 .skip))))
 (.reg [⟨some 49, none, .bin .add false (.t 36) (.k (.sc (.int .i64 1))) (pu (.binOp .add 3 (.tmp 36) (.const (.int .i64 1)) 3) 3)⟩,
 ⟨some 36, none, .mv (.t 49)⟩])))))))
 (.seq (.reg [⟨some 50, none, .mv (.t 7)⟩,
 ⟨some 51, none, .un .not (.t 50) (pu (.unOp .not 4 (.tmp 50)) 4)⟩])
 (.cond (.t 51) (.reg [⟨some 52, none, .mv (.t 4)⟩,
 ⟨some 53, none, .ld (some 10) (.t 6)⟩,
 ⟨some 54, none, .bsl 10 1 true [.sc (.string ⟨#[]⟩), .sc (.string ⟨#[]⟩), .sc (.int .i64 0), .sc (.int .i64 0), .sc (.int .i64 0), .sc (.int .i64 0), .sc (.string ⟨#[]⟩), .sc (.bool false), .sc (.int .i64 0), .sc (.slice none 0 0)] [(0, 10, (.t 53))]⟩,
 ⟨some 55, none, .app 10 120 (.t 52) (.t 54)⟩,
 ⟨some 4, none, .mv (.t 55)⟩])
 .skip)))))))
 (.reg [⟨some 56, none, .bin .add false (.t 14) (.k (.sc (.int .i64 1))) (pu (.binOp .add 3 (.tmp 14) (.const (.int .i64 1)) 3) 3)⟩,
 ⟨some 14, none, .mv (.t 56)⟩])))))))
 (.seq (.seq (.reg [⟨some 57, none, .mv (.t 4)⟩,
 ⟨some 58, none, .len (.t 57) (pu (.call ⟨.builtin .len, #[(.tmp 57)], #[22]⟩) 3)⟩,
 ⟨some 59, none, .mv (.k (.sc (.int .i64 0)))⟩])
 (.block 4 (.loop (.seq (.reg [⟨some 60, none, .bin .lss false (.t 59) (.t 58) (pu (.binOp .lss 3 (.tmp 59) (.tmp 58) 3) 0)⟩])
 (.seq (.cond (.t 60) .skip
 (.exit 4))
 (.seq (.block 5 (.seq (.reg [⟨some 61, none, .mv (.t 59)⟩,
 ⟨some 10, none, .mv (.t 61)⟩])
 (.seq (.reg [⟨some 62, none, .mv (.t 10)⟩,
 ⟨some 11, none, .mv (.t 62)⟩])
 (.block 6 (.loop (.seq (.seq (.drw [0, 1, 3, 7, 7, 23, 63, 127, 255, 7, 7, 1543, 3591, 7687, 16383, 32767] [⟨some 63, none, .mv (.t 11)⟩,
 ⟨some 64, none, .bin .gtr false (.t 63) (.k (.sc (.int .i64 0))) (pu (.binOp .gtr 3 (.tmp 63) (.const (.int .i64 0)) 3) 4)⟩,
 ⟨some 65, none, .mv (.t 64)⟩,
 ⟨some 66, (some ((some 65), true)), .mv (.t 4)⟩,
 ⟨some 67, (some ((some 65), true)), .mv (.t 11)⟩,
 ⟨some 68, (some ((some 65), true)), .bin .sub false (.t 67) (.k (.sc (.int .i64 1))) (pu (.binOp .sub 3 (.tmp 67) (.const (.int .i64 1)) 3) 3)⟩,
 ⟨some 69, (some ((some 65), true)), .ixs 10 (.t 66) (.t 68)⟩,
 ⟨some 70, (some ((some 65), true)), .sh 3 (.t 69)⟩,
 ⟨some 71, (some ((some 65), true)), .ld none (.t 70)⟩,
 ⟨some 72, (some ((some 65), true)), .mv (.t 4)⟩,
 ⟨some 73, (some ((some 65), true)), .mv (.t 11)⟩,
 ⟨some 74, (some ((some 65), true)), .ixs 10 (.t 72) (.t 73)⟩,
 ⟨some 75, (some ((some 65), true)), .sh 3 (.t 74)⟩,
 ⟨some 76, (some ((some 65), true)), .ld none (.t 75)⟩,
 ⟨some 77, (some ((some 65), true)), .bin .gtr false (.t 71) (.t 76) (pu (.binOp .gtr 3 (.tmp 71) (.tmp 76) 3) 4)⟩,
 ⟨some 78, none, .pick (.t 65) (.t 77) (.k (.sc (.bool false)))⟩])
 (.cond (.t 78) .skip
 (.exit 6)))
 (.seq (.block 7 (.drw [0, 0, 2, 0, 0, 0, 0, 96, 224, 0, 0, 1024, 3584, 7680, 16359, 32743, 65535, 131071] [⟨some 81, none, .mv (.t 4)⟩,
 ⟨some 82, none, .mv (.t 11)⟩,
 ⟨some 83, none, .bin .sub false (.t 82) (.k (.sc (.int .i64 1))) (pu (.binOp .sub 3 (.tmp 82) (.const (.int .i64 1)) 3) 3)⟩,
 ⟨some 84, none, .mv (.t 4)⟩,
 ⟨some 85, none, .mv (.t 11)⟩,
 ⟨some 86, none, .mv (.t 4)⟩,
 ⟨some 87, none, .mv (.t 11)⟩,
 ⟨some 88, none, .ixs 10 (.t 86) (.t 87)⟩,
 ⟨some 89, none, .ld (some 10) (.t 88)⟩,
 ⟨some 90, none, .mv (.t 4)⟩,
 ⟨some 91, none, .mv (.t 11)⟩,
 ⟨some 92, none, .bin .sub false (.t 91) (.k (.sc (.int .i64 1))) (pu (.binOp .sub 3 (.tmp 91) (.const (.int .i64 1)) 3) 3)⟩,
 ⟨some 93, none, .ixs 10 (.t 90) (.t 92)⟩,
 ⟨some 94, none, .ld (some 10) (.t 93)⟩,
 ⟨some 95, none, .ixs 10 (.t 81) (.t 83)⟩,
 ⟨none, none, .st 10 (.t 95) (.t 89)⟩,
 ⟨some 96, none, .ixs 10 (.t 84) (.t 85)⟩,
 ⟨none, none, .st 10 (.t 96) (.t 94)⟩]))
 (.reg [⟨some 79, none, .mv (.t 11)⟩,
 ⟨some 80, none, .bin .sub false (.t 79) (.k (.sc (.int .i64 1))) (pu (.binOp .sub 3 (.tmp 79) (.const (.int .i64 1)) 3) 3)⟩,
 ⟨some 11, none, .mv (.t 80)⟩]))))))))
 (.reg [⟨some 97, none, .bin .add false (.t 59) (.k (.sc (.int .i64 1))) (pu (.binOp .add 3 (.tmp 59) (.const (.int .i64 1)) 3) 3)⟩,
 ⟨some 59, none, .mv (.t 97)⟩])))))))
 (.seq (.reg [⟨some 98, none, .mv (.t 4)⟩,
 ⟨some 2, none, .mv (.t 98)⟩,
 ⟨some 3, none, .mv (.k (.sc (.int .i64 0)))⟩])
 .ret)))))
def k45 : List Nat := [0, 2, 3, 4, 6, 7, 9, 10, 11, 12, 13, 14, 15, 33, 34, 35, 36, 37, 44, 48, 51, 58, 59, 60, 78]
theorem ic45 : factsI Try.prog 45 = some (99, [.tmp 2, .tmp 3], c45) := by kernel_rfl
def c46 : IC :=
 (.seq (.reg [⟨some 2, none, .al (.agg [.sc (.string ⟨#[]⟩), .sc (.string ⟨#[]⟩), .sc (.int .i64 0), .sc (.int .i64 0), .sc (.int .i64 0), .sc (.int .i64 0), .sc (.string ⟨#[]⟩), .sc (.bool false), .sc (.int .i64 0), .sc (.slice none 0 0)]) 10⟩,
 ⟨some 3, none, .mv (.k (.sc (.int .i64 0)))⟩])
 (.seq (.reg [⟨some 4, none, .mv (.k (.sc (.int .i64 (-1))))⟩])
 (.seq (.seq (.reg [⟨some 9, none, .mv (.t 0)⟩,
 ⟨some 10, none, .len (.t 9) (pu (.call ⟨.builtin .len, #[(.tmp 9)], #[22]⟩) 3)⟩,
 ⟨some 11, none, .mv (.k (.sc (.int .i64 0)))⟩])
 (.block 0 (.loop (.seq (.reg [⟨some 12, none, .bin .lss false (.t 11) (.t 10) (pu (.binOp .lss 3 (.tmp 11) (.tmp 10) 3) 0)⟩])
 (.seq (.cond (.t 12) .skip
 (.exit 0))
 (.seq (.block 1 (.seq (.reg [⟨some 13, none, .mv (.t 11)⟩,
 ⟨some 14, none, .ixs 10 (.t 9) (.t 11)⟩,
 ⟨some 15, none, .ld (some 10) (.t 14)⟩,
 ⟨some 6, none, .al (.agg [.sc (.string ⟨#[]⟩), .sc (.string ⟨#[]⟩), .sc (.int .i64 0), .sc (.int .i64 0), .sc (.int .i64 0), .sc (.int .i64 0), .sc (.string ⟨#[]⟩), .sc (.bool false), .sc (.int .i64 0), .sc (.slice none 0 0)]) 10⟩,
 ⟨some 5, none, .mv (.t 13)⟩,
 ⟨none, none, .st 10 (.t 6) (.t 15)⟩])
 (.seq (.reg [⟨some 16, none, .sh 4 (.t 6)⟩,
 ⟨some 17, none, .ld none (.t 16)⟩,
 ⟨some 18, none, .bin .eql false (.t 17) (.k (.sc (.int .i64 3))) (pu (.binOp .eql 3 (.tmp 17) (.const (.int .i64 3)) 3) 4)⟩,
 ⟨some 19, none, .mv (.t 18)⟩,
 ⟨some 20, (some ((some 19), true)), .mv (.t 4)⟩,
 ⟨some 21, (some ((some 19), true)), .bin .lss false (.t 20) (.k (.sc (.int .i64 0))) (pu (.binOp .lss 3 (.tmp 20) (.const (.int .i64 0)) 3) 4)⟩,
 ⟨some 22, none, .pick (.t 19) (.t 21) (.k (.sc (.bool false)))⟩])
 (.cond (.t 22) (.reg [⟨some 23, none, .mv (.t 5)⟩,
 ⟨some 4, none, .mv (.t 23)⟩])
 .skip))))
 (.reg [⟨some 24, none, .bin .add false (.t 11) (.k (.sc (.int .i64 1))) (pu (.binOp .add 3 (.tmp 11) (.const (.int .i64 1)) 3) 3)⟩,
 ⟨some 11, none, .mv (.t 24)⟩])))))))
 (.seq (.seq (.reg [⟨some 25, none, .mv (.t 4)⟩,
 ⟨some 26, none, .bin .lss false (.t 25) (.k (.sc (.int .i64 0))) (pu (.binOp .lss 3 (.tmp 25) (.const (.int .i64 0)) 3) 4)⟩,
 ⟨some 27, none, .mv (.t 26)⟩,
 ⟨some 28, (some ((some 27), false)), .mv (.t 0)⟩,
 ⟨some 29, (some ((some 27), false)), .ixs 10 (.t 28) (.k (.sc (.int .i64 0)))⟩,
 ⟨some 30, (some ((some 27), false)), .sh 3 (.t 29)⟩,
 ⟨some 31, (some ((some 27), false)), .ld none (.t 30)⟩,
 ⟨some 32, (some ((some 27), false)), .bin .neq false (.t 31) (.k (.sc (.int .i64 0))) (pu (.binOp .neq 3 (.tmp 31) (.const (.int .i64 0)) 3) 4)⟩,
 ⟨some 33, none, .pick (.t 27) (.k (.sc (.bool true))) (.t 32)⟩])
 (.cond (.t 33) (.seq (.reg [⟨some 34, none, .bld [.sc (.string ⟨#[]⟩), .sc (.string ⟨#[]⟩), .sc (.int .i64 0), .sc (.int .i64 0), .sc (.int .i64 0), .sc (.int .i64 0), .sc (.string ⟨#[]⟩), .sc (.bool false), .sc (.int .i64 0), .sc (.slice none 0 0)] []⟩,
 ⟨none, none, .st 10 (.t 2) (.t 34)⟩,
 ⟨some 3, none, .mv (.k (.sc (.int .i64 22)))⟩])
 .ret)
 .skip))
 (.seq (.seq (.reg [⟨some 35, none, .mv (.t 0)⟩,
 ⟨some 36, none, .len (.t 35) (pu (.call ⟨.builtin .len, #[(.tmp 35)], #[22]⟩) 3)⟩,
 ⟨some 37, none, .mv (.k (.sc (.int .i64 0)))⟩])
 (.block 2 (.loop (.seq (.reg [⟨some 38, none, .bin .lss false (.t 37) (.t 36) (pu (.binOp .lss 3 (.tmp 37) (.tmp 36) 3) 0)⟩])
 (.seq (.cond (.t 38) .skip
 (.exit 2))
 (.seq (.block 3 (.seq (.reg [⟨some 39, none, .ixs 10 (.t 35) (.t 37)⟩,
 ⟨some 40, none, .ld (some 10) (.t 39)⟩,
 ⟨some 8, none, .al (.agg [.sc (.string ⟨#[]⟩), .sc (.string ⟨#[]⟩), .sc (.int .i64 0), .sc (.int .i64 0), .sc (.int .i64 0), .sc (.int .i64 0), .sc (.string ⟨#[]⟩), .sc (.bool false), .sc (.int .i64 0), .sc (.slice none 0 0)]) 10⟩,
 ⟨none, none, .st 10 (.t 8) (.t 40)⟩])
 (.seq (.drw [0, 1, 0, 0, 12, 28, 60, 127, 255, 511, 1023, 511, 2559, 6655, 14847, 32767, 65535] [⟨some 41, none, .sh 3 (.t 8)⟩,
 ⟨some 42, none, .ld none (.t 41)⟩,
 ⟨some 43, none, .mv (.t 0)⟩,
 ⟨some 44, none, .mv (.t 4)⟩,
 ⟨some 45, none, .ixs 10 (.t 43) (.t 44)⟩,
 ⟨some 46, none, .sh 3 (.t 45)⟩,
 ⟨some 47, none, .ld none (.t 46)⟩,
 ⟨some 48, none, .bin .gtr false (.t 42) (.t 47) (pu (.binOp .gtr 3 (.tmp 42) (.tmp 47) 3) 4)⟩,
 ⟨some 49, none, .mv (.t 48)⟩,
 ⟨some 50, (some ((some 49), false)), .sh 2 (.t 8)⟩,
 ⟨some 51, (some ((some 49), false)), .ld none (.t 50)⟩,
 ⟨some 52, (some ((some 49), false)), .mv (.t 0)⟩,
 ⟨some 53, (some ((some 49), false)), .ixs 10 (.t 52) (.k (.sc (.int .i64 0)))⟩,
 ⟨some 54, (some ((some 49), false)), .sh 2 (.t 53)⟩,
 ⟨some 55, (some ((some 49), false)), .ld none (.t 54)⟩,
 ⟨some 56, (some ((some 49), false)), .bin .neq false (.t 51) (.t 55) (pu (.binOp .neq 3 (.tmp 51) (.tmp 55) 3) 4)⟩,
 ⟨some 57, none, .pick (.t 49) (.k (.sc (.bool true))) (.t 56)⟩])
 (.cond (.t 57) (.seq (.reg [⟨some 58, none, .bld [.sc (.string ⟨#[]⟩), .sc (.string ⟨#[]⟩), .sc (.int .i64 0), .sc (.int .i64 0), .sc (.int .i64 0), .sc (.int .i64 0), .sc (.string ⟨#[]⟩), .sc (.bool false), .sc (.int .i64 0), .sc (.slice none 0 0)] []⟩,
 ⟨none, none, .st 10 (.t 2) (.t 58)⟩,
 ⟨some 3, none, .mv (.k (.sc (.int .i64 1)))⟩])
 .ret)
 .skip))))
 (.reg [⟨some 59, none, .bin .add false (.t 37) (.k (.sc (.int .i64 1))) (pu (.binOp .add 3 (.tmp 37) (.const (.int .i64 1)) 3) 3)⟩,
 ⟨some 37, none, .mv (.t 59)⟩])))))))
 (.seq (.reg [⟨some 60, none, .mv (.t 0)⟩,
 ⟨some 61, none, .mv (.t 4)⟩,
 ⟨some 62, none, .ixs 10 (.t 60) (.t 61)⟩,
 ⟨some 63, none, .ld (some 10) (.t 62)⟩,
 ⟨none, none, .st 10 (.t 2) (.t 63)⟩,
 ⟨some 3, none, .mv (.k (.sc (.int .i64 0)))⟩])
 .ret))))))
def k46 : List Nat := [0, 2, 3, 4, 5, 6, 8, 9, 10, 11, 12, 22, 33, 35, 36, 37, 38, 57]
theorem ic46 : factsI Try.prog 46 = some (64, [.cell 2 27, .tmp 3], c46) := by kernel_rfl
def c47 : IC :=
 (.seq (.reg [⟨some 4, none, .mv (.k (.sc (.slice none 0 0)))⟩,
 ⟨some 5, none, .mv (.k (.sc (.int .i64 0)))⟩])
 (.seq (.seq (.reg [⟨some 9, none, .mv (.t 0)⟩,
 ⟨some 10, none, .call 57 [(.t 9)]⟩,
 ⟨some 11, none, .un .not (.t 10) (pu (.unOp .not 4 (.tmp 10)) 4)⟩,
 ⟨some 12, none, .mv (.t 11)⟩,
 ⟨some 13, (some ((some 12), false)), .mv (.t 1)⟩,
 ⟨some 14, (some ((some 12), false)), .call 57 [(.t 13)]⟩,
 ⟨some 15, (some ((some 12), false)), .un .not (.t 14) (pu (.unOp .not 4 (.tmp 14)) 4)⟩,
 ⟨some 16, none, .pick (.t 12) (.k (.sc (.bool true))) (.t 15)⟩])
 (.cond (.t 16) (.seq (.reg [⟨some 4, none, .mv (.k (.sc (.slice none 0 0)))⟩,
 ⟨some 5, none, .mv (.k (.sc (.int .i64 1)))⟩])
 .ret)
 .skip))
 (.seq (.reg [⟨some 6, none, .mv (.k (.sc (.slice none 0 0)))⟩])
 (.seq (.reg [⟨some 7, none, .mv (.k (.sc (.int .i64 0)))⟩,
 ⟨some 8, none, .mv (.k (.sc (.int .i64 0)))⟩])
 (.seq (.block 0 (.loop (.seq (.seq (.reg [⟨some 17, none, .mv (.t 7)⟩,
 ⟨some 18, none, .mv (.t 0)⟩,
 ⟨some 19, none, .len (.t 18) (pu (.call ⟨.builtin .len, #[(.tmp 18)], #[25]⟩) 3)⟩,
 ⟨some 20, none, .bin .lss false (.t 17) (.t 19) (pu (.binOp .lss 3 (.tmp 17) (.tmp 19) 3) 4)⟩,
 ⟨some 21, none, .mv (.t 20)⟩,
 ⟨some 22, (some ((some 21), false)), .mv (.t 8)⟩,
 ⟨some 23, (some ((some 21), false)), .mv (.t 1)⟩,
 ⟨some 24, (some ((some 21), false)), .len (.t 23) (pu (.call ⟨.builtin .len, #[(.tmp 23)], #[25]⟩) 3)⟩,
 ⟨some 25, (some ((some 21), false)), .bin .lss false (.t 22) (.t 24) (pu (.binOp .lss 3 (.tmp 22) (.tmp 24) 3) 4)⟩,
 ⟨some 26, none, .pick (.t 21) (.k (.sc (.bool true))) (.t 25)⟩])
 (.cond (.t 26) .skip
 (.exit 0)))
 (.block 1 (.seq (.seq (.drw [0, 0, 2, 7, 15, 31, 31, 95, 255, 511, 1023, 1023, 4095, 8191, 16383, 1023, 1023, 99327, 230399, 492543, 1048575, 2097151, 4194303] [⟨some 27, none, .mv (.t 8)⟩,
 ⟨some 28, none, .mv (.t 1)⟩,
 ⟨some 29, none, .len (.t 28) (pu (.call ⟨.builtin .len, #[(.tmp 28)], #[25]⟩) 3)⟩,
 ⟨some 30, none, .bin .eql false (.t 27) (.t 29) (pu (.binOp .eql 3 (.tmp 27) (.tmp 29) 3) 4)⟩,
 ⟨some 31, none, .mv (.t 30)⟩,
 ⟨some 32, (some ((some 31), false)), .mv (.t 7)⟩,
 ⟨some 33, (some ((some 31), false)), .mv (.t 0)⟩,
 ⟨some 34, (some ((some 31), false)), .len (.t 33) (pu (.call ⟨.builtin .len, #[(.tmp 33)], #[25]⟩) 3)⟩,
 ⟨some 35, (some ((some 31), false)), .bin .lss false (.t 32) (.t 34) (pu (.binOp .lss 3 (.tmp 32) (.tmp 34) 3) 4)⟩,
 ⟨some 36, (some ((some 31), false)), .mv (.t 35)⟩,
 ⟨some 37, (some ((some 36), true)), .mv (.t 0)⟩,
 ⟨some 38, (some ((some 36), true)), .mv (.t 7)⟩,
 ⟨some 39, (some ((some 36), true)), .ixs 2 (.t 37) (.t 38)⟩,
 ⟨some 40, (some ((some 36), true)), .sh 0 (.t 39)⟩,
 ⟨some 41, (some ((some 36), true)), .ld none (.t 40)⟩,
 ⟨some 42, (some ((some 36), true)), .mv (.t 1)⟩,
 ⟨some 43, (some ((some 36), true)), .mv (.t 8)⟩,
 ⟨some 44, (some ((some 36), true)), .ixs 2 (.t 42) (.t 43)⟩,
 ⟨some 45, (some ((some 36), true)), .sh 0 (.t 44)⟩,
 ⟨some 46, (some ((some 36), true)), .ld none (.t 45)⟩,
 ⟨some 47, (some ((some 36), true)), .bin .lss false (.t 41) (.t 46) (pu (.binOp .lss 3 (.tmp 41) (.tmp 46) 3) 4)⟩,
 ⟨some 48, (some ((some 31), false)), .pick (.t 36) (.t 47) (.k (.sc (.bool false)))⟩,
 ⟨some 49, none, .pick (.t 31) (.k (.sc (.bool true))) (.t 48)⟩])
 (.cond (.t 49) (.seq (.reg [⟨some 50, none, .mv (.t 6)⟩,
 ⟨some 51, none, .mv (.t 0)⟩,
 ⟨some 52, none, .mv (.t 7)⟩,
 ⟨some 53, none, .ixs 2 (.t 51) (.t 52)⟩,
 ⟨some 54, none, .ld (some 2) (.t 53)⟩,
 ⟨some 55, none, .bsl 2 1 true [.sc (.int .i64 0), .sc (.int .i64 0)] [(0, 2, (.t 54))]⟩,
 ⟨some 56, none, .app 2 16 (.t 50) (.t 55)⟩,
 ⟨some 6, none, .mv (.t 56)⟩])
 (.seq (.reg [⟨some 57, none, .mv (.t 7)⟩,
 ⟨some 58, none, .bin .add false (.t 57) (.k (.sc (.int .i64 1))) (pu (.binOp .add 3 (.tmp 57) (.const (.int .i64 1)) 3) 3)⟩,
 ⟨some 7, none, .mv (.t 58)⟩])
 (.exit 1)))
 .skip))
 (.seq (.seq (.drw [0, 0, 2, 7, 15, 31, 31, 127, 255, 511, 31, 31, 3103, 7199, 15391, 32767, 65535] [⟨some 59, none, .mv (.t 7)⟩,
 ⟨some 60, none, .mv (.t 0)⟩,
 ⟨some 61, none, .len (.t 60) (pu (.call ⟨.builtin .len, #[(.tmp 60)], #[25]⟩) 3)⟩,
 ⟨some 62, none, .bin .lss false (.t 59) (.t 61) (pu (.binOp .lss 3 (.tmp 59) (.tmp 61) 3) 4)⟩,
 ⟨some 63, none, .mv (.t 62)⟩,
 ⟨some 64, (some ((some 63), true)), .mv (.t 0)⟩,
 ⟨some 65, (some ((some 63), true)), .mv (.t 7)⟩,
 ⟨some 66, (some ((some 63), true)), .ixs 2 (.t 64) (.t 65)⟩,
 ⟨some 67, (some ((some 63), true)), .sh 0 (.t 66)⟩,
 ⟨some 68, (some ((some 63), true)), .ld none (.t 67)⟩,
 ⟨some 69, (some ((some 63), true)), .mv (.t 1)⟩,
 ⟨some 70, (some ((some 63), true)), .mv (.t 8)⟩,
 ⟨some 71, (some ((some 63), true)), .ixs 2 (.t 69) (.t 70)⟩,
 ⟨some 72, (some ((some 63), true)), .sh 0 (.t 71)⟩,
 ⟨some 73, (some ((some 63), true)), .ld none (.t 72)⟩,
 ⟨some 74, (some ((some 63), true)), .bin .eql false (.t 68) (.t 73) (pu (.binOp .eql 3 (.tmp 68) (.tmp 73) 3) 4)⟩,
 ⟨some 75, none, .pick (.t 63) (.t 74) (.k (.sc (.bool false)))⟩])
 (.cond (.t 75) (.seq (.seq (.drw [0, 0, 3, 7, 0, 0, 48, 112, 255] [⟨some 76, none, .mv (.t 0)⟩,
 ⟨some 77, none, .mv (.t 7)⟩,
 ⟨some 78, none, .ixs 2 (.t 76) (.t 77)⟩,
 ⟨some 79, none, .ld (some 2) (.t 78)⟩,
 ⟨some 80, none, .mv (.t 1)⟩,
 ⟨some 81, none, .mv (.t 8)⟩,
 ⟨some 82, none, .ixs 2 (.t 80) (.t 81)⟩,
 ⟨some 83, none, .ld (some 2) (.t 82)⟩,
 ⟨some 84, none, .bin .neq false (.t 79) (.t 83) (pu (.binOp .neq 34 (.tmp 79) (.tmp 83) 34) 4)⟩])
 (.cond (.t 84) (.seq (.reg [⟨some 4, none, .mv (.k (.sc (.slice none 0 0)))⟩,
 ⟨some 5, none, .mv (.k (.sc (.int .i64 23)))⟩])
 .ret)
 .skip))
 (.reg [⟨some 85, none, .mv (.t 7)⟩,
 ⟨some 86, none, .bin .add false (.t 85) (.k (.sc (.int .i64 1))) (pu (.binOp .add 3 (.tmp 85) (.const (.int .i64 1)) 3) 3)⟩,
 ⟨some 7, none, .mv (.t 86)⟩]))
 .skip))
 (.seq (.reg [⟨some 87, none, .mv (.t 6)⟩,
 ⟨some 88, none, .mv (.t 1)⟩,
 ⟨some 89, none, .mv (.t 8)⟩,
 ⟨some 90, none, .ixs 2 (.t 88) (.t 89)⟩,
 ⟨some 91, none, .ld (some 2) (.t 90)⟩,
 ⟨some 92, none, .bsl 2 1 true [.sc (.int .i64 0), .sc (.int .i64 0)] [(0, 2, (.t 91))]⟩,
 ⟨some 93, none, .app 2 16 (.t 87) (.t 92)⟩,
 ⟨some 6, none, .mv (.t 93)⟩])
 (.reg [⟨some 94, none, .mv (.t 8)⟩,
 ⟨some 95, none, .bin .add false (.t 94) (.k (.sc (.int .i64 1))) (pu (.binOp .add 3 (.tmp 94) (.const (.int .i64 1)) 3) 3)⟩,
 ⟨some 8, none, .mv (.t 95)⟩]))))))))
 (.seq (.seq (.reg [⟨some 96, none, .mv (.t 6)⟩,
 ⟨some 97, none, .len (.t 96) (pu (.call ⟨.builtin .len, #[(.tmp 96)], #[25]⟩) 3)⟩,
 ⟨some 98, none, .bin .gtr false (.t 97) (.k (.sc (.int .i64 1024))) (pu (.binOp .gtr 3 (.tmp 97) (.const (.int .i64 1024)) 3) 4)⟩])
 (.cond (.t 98) (.seq (.reg [⟨some 4, none, .mv (.k (.sc (.slice none 0 0)))⟩,
 ⟨some 5, none, .mv (.k (.sc (.int .i64 3)))⟩])
 .ret)
 .skip))
 (.seq (.reg [⟨some 99, none, .mv (.t 6)⟩,
 ⟨some 4, none, .mv (.t 99)⟩,
 ⟨some 5, none, .mv (.k (.sc (.int .i64 0)))⟩])
 .ret)))))))
def k47 : List Nat := [0, 1, 4, 5, 6, 7, 8, 16, 26, 49, 75, 84, 98]
theorem ic47 : factsI Try.prog 47 = some (100, [.tmp 4, .tmp 5], c47) := by kernel_rfl
def c48 : IC :=
 (.seq (.reg [⟨some 4, none, .mv (.k (.sc (.int .i64 0)))⟩,
 ⟨some 5, none, .mv (.k (.sc (.int .i64 0)))⟩])
 (.seq (.seq (.reg [⟨some 9, none, .mv (.t 0)⟩,
 ⟨some 10, none, .mv (.t 1)⟩,
 ⟨some 11, none, .call 58 [(.t 9), (.t 10)]⟩,
 ⟨some 6, none, .mv (.t 11)⟩])
 (.seq (.reg [⟨some 12, none, .mv (.t 6)⟩,
 ⟨some 13, none, .bin .neq false (.t 12) (.k (.sc (.int .i64 0))) (pu (.binOp .neq 30 (.tmp 12) (.const (.int .i64 0)) 30) 4)⟩])
 (.cond (.t 13) (.seq (.reg [⟨some 14, none, .mv (.t 6)⟩,
 ⟨some 4, none, .mv (.k (.sc (.int .i64 0)))⟩,
 ⟨some 5, none, .mv (.t 14)⟩])
 .ret)
 .skip)))
 (.seq (.reg [⟨some 7, none, .mv (.k (.sc (.int .i64 0)))⟩])
 (.seq (.seq (.reg [⟨some 8, none, .mv (.k (.sc (.int .i64 1)))⟩])
 (.block 0 (.loop (.seq (.seq (.reg [⟨some 15, none, .mv (.t 8)⟩,
 ⟨some 16, none, .mv (.t 0)⟩,
 ⟨some 17, none, .len (.t 16) (pu (.call ⟨.builtin .len, #[(.tmp 16)], #[25]⟩) 3)⟩,
 ⟨some 18, none, .bin .lss false (.t 15) (.t 17) (pu (.binOp .lss 3 (.tmp 15) (.tmp 17) 3) 4)⟩])
 (.cond (.t 18) .skip
 (.exit 0)))
 (.seq (.block 1 (.drw [0, 0, 0, 4, 14, 30, 0, 0, 192, 448, 0, 2046, 4095, 8191] [⟨some 21, none, .mv (.t 7)⟩,
 ⟨some 22, none, .mv (.t 0)⟩,
 ⟨some 23, none, .mv (.t 8)⟩,
 ⟨some 24, none, .bin .sub false (.t 23) (.k (.sc (.int .i64 1))) (pu (.binOp .sub 3 (.tmp 23) (.const (.int .i64 1)) 3) 3)⟩,
 ⟨some 25, none, .ixs 2 (.t 22) (.t 24)⟩,
 ⟨some 26, none, .ld (some 2) (.t 25)⟩,
 ⟨some 27, none, .mv (.t 0)⟩,
 ⟨some 28, none, .mv (.t 8)⟩,
 ⟨some 29, none, .ixs 2 (.t 27) (.t 28)⟩,
 ⟨some 30, none, .ld (some 2) (.t 29)⟩,
 ⟨some 31, none, .mv (.t 1)⟩,
 ⟨some 32, none, .call 59 [(.t 26), (.t 30), (.t 31)]⟩,
 ⟨some 33, none, .bin .add false (.t 21) (.t 32) (pu (.binOp .add 3 (.tmp 21) (.tmp 32) 3) 3)⟩,
 ⟨some 7, none, .mv (.t 33)⟩]))
 (.reg [⟨some 19, none, .mv (.t 8)⟩,
 ⟨some 20, none, .bin .add false (.t 19) (.k (.sc (.int .i64 1))) (pu (.binOp .add 3 (.tmp 19) (.const (.int .i64 1)) 3) 3)⟩,
 ⟨some 8, none, .mv (.t 20)⟩]))))))
 (.seq (.reg [⟨some 34, none, .mv (.t 7)⟩,
 ⟨some 4, none, .mv (.t 34)⟩,
 ⟨some 5, none, .mv (.k (.sc (.int .i64 0)))⟩])
 .ret)))))
def k48 : List Nat := [0, 1, 4, 5, 6, 7, 8, 13, 18]
theorem ic48 : factsI Try.prog 48 = some (35, [.tmp 4, .tmp 5], c48) := by kernel_rfl
def c49 : IC :=
 (.seq (.reg [⟨some 2, none, .mv (.k (.sc (.bool false)))⟩])
 (.seq (.seq (.reg [⟨some 5, none, .mv (.t 0)⟩,
 ⟨some 6, none, .lens (.t 5) (pu (.call ⟨.builtin .len, #[(.tmp 5)], #[9]⟩) 3)⟩,
 ⟨some 7, none, .bin .lss false (.t 6) (.k (.sc (.int .i64 1))) (pu (.binOp .lss 3 (.tmp 6) (.const (.int .i64 1)) 3) 4)⟩,
 ⟨some 8, none, .mv (.t 7)⟩,
 ⟨some 9, (some ((some 8), false)), .mv (.t 0)⟩,
 ⟨some 10, (some ((some 8), false)), .lens (.t 9) (pu (.call ⟨.builtin .len, #[(.tmp 9)], #[9]⟩) 3)⟩,
 ⟨some 11, (some ((some 8), false)), .bin .gtr false (.t 10) (.k (.sc (.int .i64 36))) (pu (.binOp .gtr 3 (.tmp 10) (.const (.int .i64 36)) 3) 4)⟩,
 ⟨some 12, none, .pick (.t 8) (.k (.sc (.bool true))) (.t 11)⟩])
 (.cond (.t 12) (.seq (.reg [⟨some 2, none, .mv (.k (.sc (.bool false)))⟩])
 .ret)
 .skip))
 (.seq (.seq (.reg [⟨some 13, none, .mv (.t 0)⟩,
 ⟨some 14, none, .rng (.t 13)⟩])
 (.block 0 (.loop (.seq (.reg [⟨some 15, none, .nxt (.t 14)⟩,
 ⟨some 16, none, .ext (.t 15) 0⟩])
 (.seq (.cond (.t 16) .skip
 (.exit 0))
 (.block 1 (.seq (.reg [⟨some 17, none, .ext (.t 15) 2⟩,
 ⟨some 4, none, .mv (.t 17)⟩])
 (.seq (.seq (.reg [⟨some 18, none, .mv (.t 4)⟩])
 (.block 2 (.seq (.seq (.reg [⟨some 20, none, .bin .eql false (.t 18) (.k (.sc (.int .i32 45))) (pu (.binOp .eql 21 (.tmp 18) (.const (.int .i32 45)) 21) 4)⟩,
 ⟨some 19, none, .mv (.t 20)⟩])
 (.cond (.t 19) .skip
 (.seq (.reg [⟨some 21, none, .bin .eql false (.t 18) (.k (.sc (.int .i32 95))) (pu (.binOp .eql 21 (.tmp 18) (.const (.int .i32 95)) 21) 4)⟩,
 ⟨some 19, none, .mv (.t 21)⟩])
 (.cond (.t 19) .skip
 (.seq (.reg [⟨some 22, none, .bin .eql false (.t 18) (.k (.sc (.int .i32 46))) (pu (.binOp .eql 21 (.tmp 18) (.const (.int .i32 46)) 21) 4)⟩,
 ⟨some 19, none, .mv (.t 22)⟩])
 (.cond (.t 19) .skip
 (.seq (.reg [⟨some 23, none, .bin .eql false (.t 18) (.k (.sc (.int .i32 58))) (pu (.binOp .eql 21 (.tmp 18) (.const (.int .i32 58)) 21) 4)⟩,
 ⟨some 19, none, .mv (.t 23)⟩])
 (.cond (.t 19) .skip
 (.reg [⟨some 24, none, .bin .eql false (.t 18) (.k (.sc (.int .i32 42))) (pu (.binOp .eql 21 (.tmp 18) (.const (.int .i32 42)) 21) 4)⟩,
 ⟨some 19, none, .mv (.t 24)⟩])))))))))
 (.cond (.t 19) (.exit 1)
 .skip))))
 (.seq (.reg [⟨some 25, none, .mv (.t 4)⟩,
 ⟨some 26, none, .call 60 [(.t 25)]⟩,
 ⟨some 27, none, .bin .lss false (.t 26) (.k (.sc (.int .i64 0))) (pu (.binOp .lss 3 (.tmp 26) (.const (.int .i64 0)) 3) 4)⟩])
 (.cond (.t 27) (.seq (.reg [⟨some 2, none, .mv (.k (.sc (.bool false)))⟩])
 .ret)
 .skip))))))))))
 (.seq (.reg [⟨some 2, none, .mv (.k (.sc (.bool true)))⟩])
 .ret))))
def k49 : List Nat := [0, 2, 4, 12, 14, 15, 16, 18, 19, 27]
theorem ic49 : factsI Try.prog 49 = some (28, [.tmp 2], c49) := by kernel_rfl
def c50 : IC :=
 (.seq (.reg [⟨some 1, none, .bx (.t 0)⟩,
 ⟨some 2, none, .mv (.k (.sc (.int .i64 0)))⟩])
 (.seq (.seq (.reg [⟨some 3, none, .sh 4 (.t 1)⟩,
 ⟨some 4, none, .ld none (.t 3)⟩])
 (.block 0 (.seq (.block 3 (.seq (.block 2 (.seq (.block 1 (.seq (.seq (.seq (.reg [⟨some 6, none, .bin .eql false (.t 4) (.k (.sc (.int .i64 1))) (pu (.binOp .eql 3 (.tmp 4) (.const (.int .i64 1)) 3) 4)⟩,
 ⟨some 5, none, .mv (.t 6)⟩])
 (.cond (.t 5) (.exit 1)
 .skip))
 (.seq (.seq (.reg [⟨some 8, none, .bin .eql false (.t 4) (.k (.sc (.int .i64 3))) (pu (.binOp .eql 3 (.tmp 4) (.const (.int .i64 3)) 3) 4)⟩,
 ⟨some 7, none, .mv (.t 8)⟩])
 (.cond (.t 7) (.exit 2)
 .skip))
 (.seq (.reg [⟨some 10, none, .bin .eql false (.t 4) (.k (.sc (.int .i64 2))) (pu (.binOp .eql 3 (.tmp 4) (.const (.int .i64 2)) 3) 4)⟩,
 ⟨some 9, none, .mv (.t 10)⟩])
 (.cond (.t 9) (.exit 3)
 .skip))))
 (.exit 0)))
 (.seq (.seq (.seq (.reg [⟨some 11, none, .sh 3 (.t 1)⟩,
 ⟨some 12, none, .ld none (.t 11)⟩,
 ⟨some 13, none, .bin .neq false (.t 12) (.k (.sc (.int .i64 0))) (pu (.binOp .neq 3 (.tmp 12) (.const (.int .i64 0)) 3) 4)⟩,
 ⟨some 14, none, .mv (.t 13)⟩,
 ⟨some 15, (some ((some 14), false)), .sh 8 (.t 1)⟩,
 ⟨some 16, (some ((some 14), false)), .ld none (.t 15)⟩,
 ⟨some 17, (some ((some 14), false)), .bin .neq false (.t 16) (.k (.sc (.int .i64 0))) (pu (.binOp .neq 3 (.tmp 16) (.const (.int .i64 0)) 3) 4)⟩,
 ⟨some 18, none, .pick (.t 14) (.k (.sc (.bool true))) (.t 17)⟩])
 (.cond (.t 18) (.seq (.reg [⟨some 2, none, .mv (.k (.sc (.int .i64 1)))⟩])
 .ret)
 .skip))
 (.seq (.seq (.reg [⟨some 19, none, .sh 6 (.t 1)⟩,
 ⟨some 20, none, .ld none (.t 19)⟩,
 ⟨some 21, none, .call 49 [(.t 20)]⟩,
 ⟨some 22, none, .un .not (.t 21) (pu (.unOp .not 4 (.tmp 21)) 4)⟩])
 (.cond (.t 22) (.seq (.reg [⟨some 2, none, .mv (.k (.sc (.int .i64 4)))⟩])
 .ret)
 .skip))
 (.seq (.reg [⟨some 2, none, .mv (.k (.sc (.int .i64 0)))⟩])
 .ret)))
 (.exit 0))))
 (.seq (.reg [⟨some 23, none, .sh 8 (.t 1)⟩,
 ⟨some 24, none, .ld none (.t 23)⟩,
 ⟨some 25, none, .bin .lss false (.t 24) (.k (.sc (.int .i64 1))) (pu (.binOp .lss 3 (.tmp 24) (.const (.int .i64 1)) 3) 4)⟩,
 ⟨some 26, none, .mv (.t 25)⟩,
 ⟨some 27, (some ((some 26), false)), .sh 8 (.t 1)⟩,
 ⟨some 28, (some ((some 26), false)), .ld none (.t 27)⟩,
 ⟨some 29, (some ((some 26), false)), .bin .gtr false (.t 28) (.k (.sc (.int .i64 6))) (pu (.binOp .gtr 3 (.tmp 28) (.const (.int .i64 6)) 3) 4)⟩,
 ⟨some 30, none, .pick (.t 26) (.k (.sc (.bool true))) (.t 29)⟩])
 (.cond (.t 30) (.seq (.reg [⟨some 2, none, .mv (.k (.sc (.int .i64 1)))⟩])
 .ret)
 .skip))))
 (.seq (.seq (.seq (.reg [⟨some 31, none, .sh 4 (.t 1)⟩,
 ⟨some 32, none, .ld none (.t 31)⟩,
 ⟨some 33, none, .bin .eql false (.t 32) (.k (.sc (.int .i64 2))) (pu (.binOp .eql 3 (.tmp 32) (.const (.int .i64 2)) 3) 4)⟩,
 ⟨some 34, none, .mv (.t 33)⟩,
 ⟨some 35, (some ((some 34), true)), .sh 8 (.t 1)⟩,
 ⟨some 36, (some ((some 34), true)), .ld none (.t 35)⟩,
 ⟨some 37, (some ((some 34), true)), .bin .neq false (.t 36) (.k (.sc (.int .i64 0))) (pu (.binOp .neq 3 (.tmp 36) (.const (.int .i64 0)) 3) 4)⟩,
 ⟨some 38, none, .pick (.t 34) (.t 37) (.k (.sc (.bool false)))⟩,
 ⟨some 39, none, .mv (.t 38)⟩,
 ⟨some 40, (some ((some 39), false)), .sh 3 (.t 1)⟩,
 ⟨some 41, (some ((some 39), false)), .ld none (.t 40)⟩,
 ⟨some 42, (some ((some 39), false)), .bin .eql false (.t 41) (.k (.sc (.int .i64 0))) (pu (.binOp .eql 3 (.tmp 41) (.const (.int .i64 0)) 3) 4)⟩,
 ⟨some 43, none, .pick (.t 39) (.k (.sc (.bool true))) (.t 42)⟩,
 ⟨some 44, none, .mv (.t 43)⟩,
 ⟨some 45, (some ((some 44), false)), .sh 6 (.t 1)⟩,
 ⟨some 46, (some ((some 44), false)), .ld none (.t 45)⟩,
 ⟨some 47, (some ((some 44), false)), .bin .neq false (.t 46) (.k (.sc (.string ⟨#[]⟩))) (pu (.binOp .neq 9 (.tmp 46) (.const (.string ⟨#[]⟩)) 9) 4)⟩,
 ⟨some 48, none, .pick (.t 44) (.k (.sc (.bool true))) (.t 47)⟩])
 (.cond (.t 48) (.seq (.reg [⟨some 2, none, .mv (.k (.sc (.int .i64 1)))⟩])
 .ret)
 .skip))
 (.seq (.reg [⟨some 2, none, .mv (.k (.sc (.int .i64 0)))⟩])
 .ret))
 (.exit 0)))))
 (.seq (.reg [⟨some 2, none, .mv (.k (.sc (.int .i64 1)))⟩])
 .ret)))
def k50 : List Nat := [0, 1, 2, 4, 5, 7, 9, 18, 22, 30, 48]
theorem ic50 : factsI Try.prog 50 = some (49, [.tmp 2], c50) := by kernel_rfl
def c51 : IC :=
 (.seq (.reg [⟨some 1, none, .bx (.t 0)⟩,
 ⟨some 2, none, .mv (.k (.sc (.int .i64 0)))⟩])
 (.seq (.seq (.reg [⟨some 5, none, .sh 9 (.t 1)⟩,
 ⟨some 6, none, .ld none (.t 5)⟩,
 ⟨some 7, none, .len (.t 6) (pu (.call ⟨.builtin .len, #[(.tmp 6)], #[25]⟩) 3)⟩,
 ⟨some 8, none, .bin .gtr false (.t 7) (.k (.sc (.int .i64 16))) (pu (.binOp .gtr 3 (.tmp 7) (.const (.int .i64 16)) 3) 4)⟩])
 (.cond (.t 8) (.seq (.reg [⟨some 2, none, .mv (.k (.sc (.int .i64 3)))⟩])
 .ret)
 .skip))
 (.seq (.seq (.reg [⟨some 9, none, .sh 9 (.t 1)⟩,
 ⟨some 10, none, .ld none (.t 9)⟩,
 ⟨some 11, none, .len (.t 10) (pu (.call ⟨.builtin .len, #[(.tmp 10)], #[25]⟩) 3)⟩,
 ⟨some 12, none, .bin .eql false (.t 11) (.k (.sc (.int .i64 0))) (pu (.binOp .eql 3 (.tmp 11) (.const (.int .i64 0)) 3) 4)⟩])
 (.cond (.t 12) (.seq (.reg [⟨some 2, none, .mv (.k (.sc (.int .i64 1)))⟩])
 .ret)
 .skip))
 (.seq (.seq (.reg [⟨some 13, none, .sh 9 (.t 1)⟩,
 ⟨some 14, none, .ld none (.t 13)⟩,
 ⟨some 15, none, .len (.t 14) (pu (.call ⟨.builtin .len, #[(.tmp 14)], #[25]⟩) 3)⟩,
 ⟨some 16, none, .mv (.k (.sc (.int .i64 0)))⟩])
 (.block 0 (.loop (.seq (.reg [⟨some 17, none, .bin .lss false (.t 16) (.t 15) (pu (.binOp .lss 3 (.tmp 16) (.tmp 15) 3) 0)⟩])
 (.seq (.cond (.t 17) .skip
 (.exit 0))
 (.seq (.block 1 (.seq (.reg [⟨some 18, none, .mv (.t 16)⟩,
 ⟨some 19, none, .ixs 2 (.t 14) (.t 16)⟩,
 ⟨some 20, none, .ld (some 2) (.t 19)⟩,
 ⟨some 4, none, .al (.agg [.sc (.int .i64 0), .sc (.int .i64 0)]) 2⟩,
 ⟨some 3, none, .mv (.t 18)⟩,
 ⟨none, none, .st 2 (.t 4) (.t 20)⟩])
 (.seq (.seq (.reg [⟨some 21, none, .sh 0 (.t 4)⟩,
 ⟨some 22, none, .ld none (.t 21)⟩,
 ⟨some 23, none, .bin .lss false (.t 22) (.k (.sc (.int .i64 0))) (pu (.binOp .lss 3 (.tmp 22) (.const (.int .i64 0)) 3) 4)⟩,
 ⟨some 24, none, .mv (.t 23)⟩,
 ⟨some 25, (some ((some 24), false)), .sh 0 (.t 4)⟩,
 ⟨some 26, (some ((some 24), false)), .ld none (.t 25)⟩,
 ⟨some 27, (some ((some 24), false)), .bin .gtr false (.t 26) (.k (.sc (.int .i64 268435456))) (pu (.binOp .gtr 3 (.tmp 26) (.const (.int .i64 268435456)) 3) 4)⟩,
 ⟨some 28, none, .pick (.t 24) (.k (.sc (.bool true))) (.t 27)⟩,
 ⟨some 29, none, .mv (.t 28)⟩,
 ⟨some 30, (some ((some 29), false)), .sh 1 (.t 4)⟩,
 ⟨some 31, (some ((some 29), false)), .ld none (.t 30)⟩,
 ⟨some 32, (some ((some 29), false)), .bin .lss false (.t 31) (.k (.sc (.int .i64 0))) (pu (.binOp .lss 3 (.tmp 31) (.const (.int .i64 0)) 3) 4)⟩,
 ⟨some 33, none, .pick (.t 29) (.k (.sc (.bool true))) (.t 32)⟩,
 ⟨some 34, none, .mv (.t 33)⟩,
 ⟨some 35, (some ((some 34), false)), .sh 1 (.t 4)⟩,
 ⟨some 36, (some ((some 34), false)), .ld none (.t 35)⟩,
 ⟨some 37, (some ((some 34), false)), .bin .gtr false (.t 36) (.k (.sc (.int .i64 1099511627775))) (pu (.binOp .gtr 3 (.tmp 36) (.const (.int .i64 1099511627775)) 3) 4)⟩,
 ⟨some 38, none, .pick (.t 34) (.k (.sc (.bool true))) (.t 37)⟩])
 (.cond (.t 38) (.seq (.reg [⟨some 2, none, .mv (.k (.sc (.int .i64 2)))⟩])
 .ret)
 .skip))
 (.seq (.drw [0, 1, 3, 7, 15, 7, 39, 7, 135, 487, 999, 2023, 4095, 8191] [⟨some 39, none, .mv (.t 3)⟩,
 ⟨some 40, none, .bin .gtr false (.t 39) (.k (.sc (.int .i64 0))) (pu (.binOp .gtr 3 (.tmp 39) (.const (.int .i64 0)) 3) 4)⟩,
 ⟨some 41, none, .mv (.t 40)⟩,
 ⟨some 42, (some ((some 41), true)), .sh 0 (.t 4)⟩,
 ⟨some 43, (some ((some 41), true)), .ld none (.t 42)⟩,
 ⟨some 44, (some ((some 41), true)), .sh 9 (.t 1)⟩,
 ⟨some 45, (some ((some 41), true)), .ld none (.t 44)⟩,
 ⟨some 46, (some ((some 41), true)), .mv (.t 3)⟩,
 ⟨some 47, (some ((some 41), true)), .bin .sub false (.t 46) (.k (.sc (.int .i64 1))) (pu (.binOp .sub 3 (.tmp 46) (.const (.int .i64 1)) 3) 3)⟩,
 ⟨some 48, (some ((some 41), true)), .ixs 2 (.t 45) (.t 47)⟩,
 ⟨some 49, (some ((some 41), true)), .sh 0 (.t 48)⟩,
 ⟨some 50, (some ((some 41), true)), .ld none (.t 49)⟩,
 ⟨some 51, (some ((some 41), true)), .bin .leq false (.t 43) (.t 50) (pu (.binOp .leq 3 (.tmp 43) (.tmp 50) 3) 4)⟩,
 ⟨some 52, none, .pick (.t 41) (.t 51) (.k (.sc (.bool false)))⟩])
 (.cond (.t 52) (.seq (.reg [⟨some 2, none, .mv (.k (.sc (.int .i64 1)))⟩])
 .ret)
 .skip)))))
 (.reg [⟨some 53, none, .bin .add false (.t 16) (.k (.sc (.int .i64 1))) (pu (.binOp .add 3 (.tmp 16) (.const (.int .i64 1)) 3) 3)⟩,
 ⟨some 16, none, .mv (.t 53)⟩])))))))
 (.seq (.seq (.drw [0, 1, 0, 4, 12, 28, 63, 127, 255, 0, 512, 2047] [⟨some 54, none, .sh 9 (.t 1)⟩,
 ⟨some 55, none, .ld none (.t 54)⟩,
 ⟨some 56, none, .sh 9 (.t 1)⟩,
 ⟨some 57, none, .ld none (.t 56)⟩,
 ⟨some 58, none, .len (.t 57) (pu (.call ⟨.builtin .len, #[(.tmp 57)], #[25]⟩) 3)⟩,
 ⟨some 59, none, .bin .sub false (.t 58) (.k (.sc (.int .i64 1))) (pu (.binOp .sub 3 (.tmp 58) (.const (.int .i64 1)) 3) 3)⟩,
 ⟨some 60, none, .ixs 2 (.t 55) (.t 59)⟩,
 ⟨some 61, none, .sh 0 (.t 60)⟩,
 ⟨some 62, none, .ld none (.t 61)⟩,
 ⟨some 63, none, .sh 5 (.t 1)⟩,
 ⟨some 64, none, .ld none (.t 63)⟩,
 ⟨some 65, none, .bin .neq false (.t 62) (.t 64) (pu (.binOp .neq 3 (.tmp 62) (.tmp 64) 3) 4)⟩])
 (.cond (.t 65) (.seq (.reg [⟨some 2, none, .mv (.k (.sc (.int .i64 1)))⟩])
 .ret)
 .skip))
 (.seq (.reg [⟨some 2, none, .mv (.k (.sc (.int .i64 0)))⟩])
 .ret))))))
def k51 : List Nat := [0, 1, 2, 3, 4, 8, 12, 14, 15, 16, 17, 38, 52, 65]
theorem ic51 : factsI Try.prog 51 = some (66, [.tmp 2], c51) := by kernel_rfl
def c52 : IC :=
 (.seq (.reg [⟨some 6, none, .mv (.k (.sc (.int .i64 20)))⟩])
 (.seq (.reg [⟨some 10, none, .mv (.t 6)⟩,
 ⟨some 7, none, .mv (.k (.sc (.int .i64 0)))⟩,
 ⟨some 8, none, .mv (.t 10)⟩])
 (.seq (.block 0 (.loop (.seq (.seq (.reg [⟨some 11, none, .mv (.t 8)⟩,
 ⟨some 12, none, .mv (.t 1)⟩,
 ⟨some 13, none, .bin .leq false (.t 11) (.t 12) (pu (.binOp .leq 3 (.tmp 11) (.tmp 12) 3) 4)⟩])
 (.cond (.t 13) .skip
 (.exit 0)))
 (.block 1 (.seq (.reg [⟨some 14, none, .mv (.t 0)⟩,
 ⟨some 15, none, .mv (.t 7)⟩,
 ⟨some 16, none, .mv (.t 8)⟩,
 ⟨some 17, none, .mv (.t 2)⟩,
 ⟨some 18, none, .call 61 [(.t 14), (.t 15), (.t 16), (.t 17)]⟩])
 (.seq (.reg [⟨some 19, none, .mv (.t 8)⟩,
 ⟨some 7, none, .mv (.t 19)⟩])
 (.reg [⟨some 20, none, .mv (.t 8)⟩,
 ⟨some 21, none, .mv (.t 6)⟩,
 ⟨some 22, none, .bin .add false (.t 20) (.t 21) (pu (.binOp .add 3 (.tmp 20) (.tmp 21) 3) 3)⟩,
 ⟨some 8, none, .mv (.t 22)⟩])))))))
 (.seq (.reg [⟨some 23, none, .mv (.t 0)⟩,
 ⟨some 24, none, .mv (.t 7)⟩,
 ⟨some 25, none, .mv (.t 1)⟩,
 ⟨some 26, none, .mv (.t 2)⟩,
 ⟨some 27, none, .call 61 [(.t 23), (.t 24), (.t 25), (.t 26)]⟩])
 (.block 2 (.loop (.seq (.seq (.reg [⟨some 28, none, .mv (.t 6)⟩,
 ⟨some 29, none, .mv (.t 1)⟩,
 ⟨some 30, none, .bin .lss false (.t 28) (.t 29) (pu (.binOp .lss 3 (.tmp 28) (.tmp 29) 3) 4)⟩])
 (.cond (.t 30) .skip
 (.exit 2)))
 (.block 3 (.seq (.reg [⟨some 31, none, .mv (.t 6)⟩,
 ⟨some 32, none, .bin .mul false (.k (.sc (.int .i64 2))) (.t 31) (pu (.binOp .mul 3 (.const (.int .i64 2)) (.tmp 31) 3) 3)⟩,
 ⟨some 7, none, .mv (.k (.sc (.int .i64 0)))⟩,
 ⟨some 8, none, .mv (.t 32)⟩])
 (.seq (.block 4 (.loop (.seq (.seq (.reg [⟨some 33, none, .mv (.t 8)⟩,
 ⟨some 34, none, .mv (.t 1)⟩,
 ⟨some 35, none, .bin .leq false (.t 33) (.t 34) (pu (.binOp .leq 3 (.tmp 33) (.tmp 34) 3) 4)⟩])
 (.cond (.t 35) .skip
 (.exit 4)))
 (.block 5 (.seq (.reg [⟨some 36, none, .mv (.t 0)⟩,
 ⟨some 37, none, .mv (.t 7)⟩,
 ⟨some 38, none, .mv (.t 7)⟩,
 ⟨some 39, none, .mv (.t 6)⟩,
 ⟨some 40, none, .bin .add false (.t 38) (.t 39) (pu (.binOp .add 3 (.tmp 38) (.tmp 39) 3) 3)⟩,
 ⟨some 41, none, .mv (.t 8)⟩,
 ⟨some 42, none, .mv (.t 2)⟩,
 ⟨some 43, none, .call 62 [(.t 36), (.t 37), (.t 40), (.t 41), (.t 42)]⟩])
 (.seq (.reg [⟨some 44, none, .mv (.t 8)⟩,
 ⟨some 7, none, .mv (.t 44)⟩])
 (.reg [⟨some 45, none, .mv (.t 8)⟩,
 ⟨some 46, none, .mv (.t 6)⟩,
 ⟨some 47, none, .bin .mul false (.k (.sc (.int .i64 2))) (.t 46) (pu (.binOp .mul 3 (.const (.int .i64 2)) (.tmp 46) 3) 3)⟩,
 ⟨some 48, none, .bin .add false (.t 45) (.t 47) (pu (.binOp .add 3 (.tmp 45) (.tmp 47) 3) 3)⟩,
 ⟨some 8, none, .mv (.t 48)⟩])))))))
 (.seq (.seq (.reg [⟨some 49, none, .mv (.t 7)⟩,
 ⟨some 50, none, .mv (.t 6)⟩,
 ⟨some 51, none, .bin .add false (.t 49) (.t 50) (pu (.binOp .add 3 (.tmp 49) (.tmp 50) 3) 3)⟩,
 ⟨some 9, none, .mv (.t 51)⟩])
 (.seq (.reg [⟨some 52, none, .mv (.t 9)⟩,
 ⟨some 53, none, .mv (.t 1)⟩,
 ⟨some 54, none, .bin .lss false (.t 52) (.t 53) (pu (.binOp .lss 3 (.tmp 52) (.tmp 53) 3) 4)⟩])
 (.cond (.t 54) (.reg [⟨some 55, none, .mv (.t 0)⟩,
 ⟨some 56, none, .mv (.t 7)⟩,
 ⟨some 57, none, .mv (.t 9)⟩,
 ⟨some 58, none, .mv (.t 1)⟩,
 ⟨some 59, none, .mv (.t 2)⟩,
 ⟨some 60, none, .call 62 [(.t 55), (.t 56), (.t 57), (.t 58), (.t 59)]⟩])
 .skip)))
 (.reg [⟨some 61, none, .mv (.t 6)⟩,
 ⟨some 62, none, .bin .mul false (.t 61) (.k (.sc (.int .i64 2))) (pu (.binOp .mul 3 (.tmp 61) (.const (.int .i64 2)) 3) 3)⟩,
 ⟨some 6, none, .mv (.t 62)⟩]))))))))))))
def k52 : List Nat := [0, 1, 2, 6, 7, 8, 9, 13, 30, 35, 54]
theorem ic52 : factsI Try.prog 52 = some (63, [], c52) := by kernel_rfl
def c53 : IC :=
 (.seq (.reg [⟨some 2, none, .al (.sc (.bool false)) 1⟩])
 (.seq (.seq (.reg [⟨some 5, none, .mv (.t 0)⟩,
 ⟨some 6, none, .call 40 [(.t 5)]⟩])
 (.block 0 (.rfn (.t 6) [7, 8] (.seq (.reg [⟨some 3, none, .al (.agg [.sc (.int .i64 0), .sc (.int .i64 0)]) 2⟩,
 ⟨none, none, .st 2 (.t 3) (.t 7)⟩])
 (.reg [⟨some 4, none, .al (.agg [.sc (.int .i64 0), .sc (.int .i64 0)]) 2⟩,
 ⟨none, none, .st 2 (.t 4) (.t 8)⟩]))
 (.block 1 (.seq (.reg [⟨some 9, none, .sh 0 (.t 4)⟩,
 ⟨some 10, none, .ld none (.t 9)⟩,
 ⟨some 11, none, .sh 0 (.t 3)⟩,
 ⟨some 12, none, .ld none (.t 11)⟩,
 ⟨some 13, none, .bin .leq false (.t 10) (.t 12) (pu (.binOp .leq 3 (.tmp 10) (.tmp 12) 3) 4)⟩])
 (.cond (.t 13) (.seq (.reg [⟨none, none, .st 1 (.t 2) (.k (.sc (.bool false)))⟩])
 .ret)
 .skip))))))
 (.seq (.reg [⟨none, none, .st 1 (.t 2) (.k (.sc (.bool true)))⟩])
 .ret)))
def k53 : List Nat := [0, 2, 3, 4, 6, 7, 8, 13]
theorem ic53 : factsI Try.prog 53 = some (14, [.cell 2 4], c53) := by kernel_rfl
def c54 : IC :=
 (.seq (.reg [⟨some 3, none, .mv (.k (.sc (.int .i64 1)))⟩])
 (.block 0 (.loop (.seq (.seq (.reg [⟨some 4, none, .mv (.t 3)⟩,
 ⟨some 5, none, .ld none (.t 1)⟩,
 ⟨some 6, none, .len (.t 5) (pu (.call ⟨.builtin .len, #[(.tmp 5)], #[25]⟩) 3)⟩,
 ⟨some 7, none, .bin .lss false (.t 4) (.t 6) (pu (.binOp .lss 3 (.tmp 4) (.tmp 6) 3) 4)⟩])
 (.cond (.t 7) .skip
 (.exit 0)))
 (.seq (.block 1 (.seq (.drw [0, 0, 0, 4, 14, 30, 0, 0, 192, 448, 1023, 2047] [⟨some 10, none, .mv (.t 0)⟩,
 ⟨some 11, none, .ld none (.t 1)⟩,
 ⟨some 12, none, .mv (.t 3)⟩,
 ⟨some 13, none, .bin .sub false (.t 12) (.k (.sc (.int .i64 1))) (pu (.binOp .sub 3 (.tmp 12) (.const (.int .i64 1)) 3) 3)⟩,
 ⟨some 14, none, .ixs 2 (.t 11) (.t 13)⟩,
 ⟨some 15, none, .ld (some 2) (.t 14)⟩,
 ⟨some 16, none, .ld none (.t 1)⟩,
 ⟨some 17, none, .mv (.t 3)⟩,
 ⟨some 18, none, .ixs 2 (.t 16) (.t 17)⟩,
 ⟨some 19, none, .ld (some 2) (.t 18)⟩,
 ⟨some 20, none, .callv (.t 10) [(.t 15), (.t 19)]⟩,
 ⟨some 21, none, .un .not (.t 20) (pu (.unOp .not 4 (.tmp 20)) 4)⟩])
 (.cond (.t 21) .ret
 .skip)))
 (.reg [⟨some 8, none, .mv (.t 3)⟩,
 ⟨some 9, none, .bin .add false (.t 8) (.k (.sc (.int .i64 1))) (pu (.binOp .add 3 (.tmp 8) (.const (.int .i64 1)) 3) 3)⟩,
 ⟨some 3, none, .mv (.t 9)⟩]))))))
def k54 : List Nat := [0, 1, 3, 7, 21]
theorem ic54 : factsI Try.prog 54 = some (22, [], c54) := by kernel_rfl
def c55 : IC :=
 (.seq (.reg [⟨some 2, none, .mv (.k (.sc (.int .u8 0)))⟩])
 (.seq (.seq (.reg [⟨some 3, none, .mv (.t 0)⟩,
 ⟨some 4, none, .bin .geq false (.t 3) (.k (.sc (.int .u8 97))) (pu (.binOp .geq 5 (.tmp 3) (.const (.int .u8 97)) 5) 4)⟩,
 ⟨some 5, none, .mv (.t 4)⟩,
 ⟨some 6, (some ((some 5), true)), .mv (.t 0)⟩,
 ⟨some 7, (some ((some 5), true)), .bin .leq false (.t 6) (.k (.sc (.int .u8 122))) (pu (.binOp .leq 5 (.tmp 6) (.const (.int .u8 122)) 5) 4)⟩,
 ⟨some 8, none, .pick (.t 5) (.t 7) (.k (.sc (.bool false)))⟩])
 (.cond (.t 8) (.seq (.reg [⟨some 9, none, .mv (.t 0)⟩,
 ⟨some 10, none, .bin .sub false (.t 9) (.k (.sc (.int .u8 32))) (pu (.binOp .sub 5 (.tmp 9) (.const (.int .u8 32)) 5) 5)⟩,
 ⟨some 2, none, .mv (.t 10)⟩])
 .ret)
 .skip))
 (.seq (.reg [⟨some 11, none, .mv (.t 0)⟩,
 ⟨some 2, none, .mv (.t 11)⟩])
 .ret)))
def k55 : List Nat := [0, 2, 8]
theorem ic55 : factsI Try.prog 55 = some (12, [.tmp 2], c55) := by kernel_rfl
def c56 : IC :=
 (.seq (.reg [⟨some 6, none, .mv (.k (.sc (.bool false)))⟩])
 (.seq (.reg [⟨some 7, none, .mv (.t 0)⟩,
 ⟨some 8, none, .mv (.t 1)⟩,
 ⟨some 9, none, .bin .geq false (.t 7) (.t 8) (pu (.binOp .geq 3 (.tmp 7) (.tmp 8) 3) 4)⟩,
 ⟨some 10, none, .mv (.t 9)⟩,
 ⟨some 11, (some ((some 10), true)), .mv (.t 0)⟩,
 ⟨some 12, (some ((some 10), true)), .mv (.t 2)⟩,
 ⟨some 13, (some ((some 10), true)), .bin .leq false (.t 11) (.t 12) (pu (.binOp .leq 3 (.tmp 11) (.tmp 12) 3) 4)⟩,
 ⟨some 14, none, .pick (.t 10) (.t 13) (.k (.sc (.bool false)))⟩,
 ⟨some 6, none, .mv (.t 14)⟩])
 .ret))
def k56 : List Nat := [0, 1, 2, 6]
theorem ic56 : factsI Try.prog 56 = some (15, [.tmp 6], c56) := by kernel_rfl
def c57 : IC :=
 (.seq (.reg [⟨some 2, none, .mv (.k (.sc (.bool false)))⟩])
 (.seq (.seq (.reg [⟨some 3, none, .mv (.k (.sc (.int .i64 1)))⟩])
 (.block 0 (.loop (.seq (.seq (.reg [⟨some 4, none, .mv (.t 3)⟩,
 ⟨some 5, none, .mv (.t 0)⟩,
 ⟨some 6, none, .len (.t 5) (pu (.call ⟨.builtin .len, #[(.tmp 5)], #[25]⟩) 3)⟩,
 ⟨some 7, none, .bin .lss false (.t 4) (.t 6) (pu (.binOp .lss 3 (.tmp 4) (.tmp 6) 3) 4)⟩])
 (.cond (.t 7) .skip
 (.exit 0)))
 (.seq (.block 1 (.seq (.drw [0, 0, 3, 7, 15, 0, 0, 64, 224, 480, 992, 2047] [⟨some 10, none, .mv (.t 0)⟩,
 ⟨some 11, none, .mv (.t 3)⟩,
 ⟨some 12, none, .ixs 2 (.t 10) (.t 11)⟩,
 ⟨some 13, none, .sh 0 (.t 12)⟩,
 ⟨some 14, none, .ld none (.t 13)⟩,
 ⟨some 15, none, .mv (.t 0)⟩,
 ⟨some 16, none, .mv (.t 3)⟩,
 ⟨some 17, none, .bin .sub false (.t 16) (.k (.sc (.int .i64 1))) (pu (.binOp .sub 3 (.tmp 16) (.const (.int .i64 1)) 3) 3)⟩,
 ⟨some 18, none, .ixs 2 (.t 15) (.t 17)⟩,
 ⟨some 19, none, .sh 0 (.t 18)⟩,
 ⟨some 20, none, .ld none (.t 19)⟩,
 ⟨some 21, none, .bin .leq false (.t 14) (.t 20) (pu (.binOp .leq 3 (.tmp 14) (.tmp 20) 3) 4)⟩])
 (.cond (.t 21) (.seq (.reg [⟨some 2, none, .mv (.k (.sc (.bool false)))⟩])
 .ret)
 .skip)))
 (.reg [⟨some 8, none, .mv (.t 3)⟩,
 ⟨some 9, none, .bin .add false (.t 8) (.k (.sc (.int .i64 1))) (pu (.binOp .add 3 (.tmp 8) (.const (.int .i64 1)) 3) 3)⟩,
 ⟨some 3, none, .mv (.t 9)⟩]))))))
 (.seq (.reg [⟨some 2, none, .mv (.k (.sc (.bool true)))⟩])
 .ret)))
def k57 : List Nat := [0, 2, 3, 7, 21]
theorem ic57 : factsI Try.prog 57 = some (22, [.tmp 2], c57) := by kernel_rfl
def c58 : IC :=
 (.seq (.reg [⟨some 4, none, .mv (.k (.sc (.int .i64 0)))⟩])
 (.seq (.seq (.reg [⟨some 6, none, .mv (.t 1)⟩,
 ⟨some 7, none, .bin .lss false (.t 6) (.k (.sc (.int .i64 1000))) (pu (.binOp .lss 3 (.tmp 6) (.const (.int .i64 1000)) 3) 4)⟩,
 ⟨some 8, none, .mv (.t 7)⟩,
 ⟨some 9, (some ((some 8), false)), .mv (.t 1)⟩,
 ⟨some 10, (some ((some 8), false)), .bin .gtr false (.t 9) (.k (.sc (.int .i64 1099511627776))) (pu (.binOp .gtr 3 (.tmp 9) (.const (.int .i64 1099511627776)) 3) 4)⟩,
 ⟨some 11, none, .pick (.t 8) (.k (.sc (.bool true))) (.t 10)⟩])
 (.cond (.t 11) (.seq (.reg [⟨some 4, none, .mv (.k (.sc (.int .i64 2)))⟩])
 .ret)
 .skip))
 (.seq (.seq (.reg [⟨some 12, none, .mv (.t 0)⟩,
 ⟨some 13, none, .len (.t 12) (pu (.call ⟨.builtin .len, #[(.tmp 12)], #[25]⟩) 3)⟩,
 ⟨some 14, none, .bin .eql false (.t 13) (.k (.sc (.int .i64 0))) (pu (.binOp .eql 3 (.tmp 13) (.const (.int .i64 0)) 3) 4)⟩])
 (.cond (.t 14) (.seq (.reg [⟨some 4, none, .mv (.k (.sc (.int .i64 1)))⟩])
 .ret)
 .skip))
 (.seq (.seq (.reg [⟨some 15, none, .mv (.t 0)⟩,
 ⟨some 16, none, .len (.t 15) (pu (.call ⟨.builtin .len, #[(.tmp 15)], #[25]⟩) 3)⟩,
 ⟨some 17, none, .bin .gtr false (.t 16) (.k (.sc (.int .i64 1024))) (pu (.binOp .gtr 3 (.tmp 16) (.const (.int .i64 1024)) 3) 4)⟩])
 (.cond (.t 17) (.seq (.reg [⟨some 4, none, .mv (.k (.sc (.int .i64 3)))⟩])
 .ret)
 .skip))
 (.seq (.seq (.reg [⟨some 5, none, .mv (.k (.sc (.int .i64 0)))⟩])
 (.block 0 (.loop (.seq (.seq (.reg [⟨some 18, none, .mv (.t 5)⟩,
 ⟨some 19, none, .mv (.t 0)⟩,
 ⟨some 20, none, .len (.t 19) (pu (.call ⟨.builtin .len, #[(.tmp 19)], #[25]⟩) 3)⟩,
 ⟨some 21, none, .bin .lss false (.t 18) (.t 20) (pu (.binOp .lss 3 (.tmp 18) (.tmp 20) 3) 4)⟩])
 (.cond (.t 21) .skip
 (.exit 0)))
 (.seq (.block 1 (.seq (.seq (.reg [⟨some 24, none, .mv (.t 0)⟩,
 ⟨some 25, none, .mv (.t 5)⟩,
 ⟨some 26, none, .ixs 2 (.t 24) (.t 25)⟩,
 ⟨some 27, none, .sh 0 (.t 26)⟩,
 ⟨some 28, none, .ld none (.t 27)⟩,
 ⟨some 29, none, .bin .lss false (.t 28) (.k (.sc (.int .i64 0))) (pu (.binOp .lss 3 (.tmp 28) (.const (.int .i64 0)) 3) 4)⟩,
 ⟨some 30, none, .mv (.t 29)⟩,
 ⟨some 31, (some ((some 30), false)), .mv (.t 0)⟩,
 ⟨some 32, (some ((some 30), false)), .mv (.t 5)⟩,
 ⟨some 33, (some ((some 30), false)), .ixs 2 (.t 31) (.t 32)⟩,
 ⟨some 34, (some ((some 30), false)), .sh 0 (.t 33)⟩,
 ⟨some 35, (some ((some 30), false)), .ld none (.t 34)⟩,
 ⟨some 36, (some ((some 30), false)), .bin .gtr false (.t 35) (.k (.sc (.int .i64 268435456))) (pu (.binOp .gtr 3 (.tmp 35) (.const (.int .i64 268435456)) 3) 4)⟩,
 ⟨some 37, none, .pick (.t 30) (.k (.sc (.bool true))) (.t 36)⟩,
 ⟨some 38, none, .mv (.t 37)⟩,
 ⟨some 39, (some ((some 38), false)), .mv (.t 0)⟩,
 ⟨some 40, (some ((some 38), false)), .mv (.t 5)⟩,
 ⟨some 41, (some ((some 38), false)), .ixs 2 (.t 39) (.t 40)⟩,
 ⟨some 42, (some ((some 38), false)), .sh 1 (.t 41)⟩,
 ⟨some 43, (some ((some 38), false)), .ld none (.t 42)⟩,
 ⟨some 44, (some ((some 38), false)), .bin .lss false (.t 43) (.k (.sc (.int .i64 0))) (pu (.binOp .lss 3 (.tmp 43) (.const (.int .i64 0)) 3) 4)⟩,
 ⟨some 45, none, .pick (.t 38) (.k (.sc (.bool true))) (.t 44)⟩,
 ⟨some 46, none, .mv (.t 45)⟩,
 ⟨some 47, (some ((some 46), false)), .mv (.t 0)⟩,
 ⟨some 48, (some ((some 46), false)), .mv (.t 5)⟩,
 ⟨some 49, (some ((some 46), false)), .ixs 2 (.t 47) (.t 48)⟩,
 ⟨some 50, (some ((some 46), false)), .sh 1 (.t 49)⟩,
 ⟨some 51, (some ((some 46), false)), .ld none (.t 50)⟩,
 ⟨some 52, (some ((some 46), false)), .mv (.t 1)⟩,
 ⟨some 53, (some ((some 46), false)), .bin .geq false (.t 51) (.t 52) (pu (.binOp .geq 3 (.tmp 51) (.tmp 52) 3) 4)⟩,
 ⟨some 54, none, .pick (.t 46) (.k (.sc (.bool true))) (.t 53)⟩])
 (.cond (.t 54) (.seq (.reg [⟨some 4, none, .mv (.k (.sc (.int .i64 2)))⟩])
 .ret)
 .skip))
 (.seq (.drw [0, 1, 3, 7, 7, 31, 63, 127, 7, 7, 519, 1799, 3847, 7943, 16383, 32767] [⟨some 55, none, .mv (.t 5)⟩,
 ⟨some 56, none, .bin .gtr false (.t 55) (.k (.sc (.int .i64 0))) (pu (.binOp .gtr 3 (.tmp 55) (.const (.int .i64 0)) 3) 4)⟩,
 ⟨some 57, none, .mv (.t 56)⟩,
 ⟨some 58, (some ((some 57), true)), .mv (.t 0)⟩,
 ⟨some 59, (some ((some 57), true)), .mv (.t 5)⟩,
 ⟨some 60, (some ((some 57), true)), .ixs 2 (.t 58) (.t 59)⟩,
 ⟨some 61, (some ((some 57), true)), .sh 0 (.t 60)⟩,
 ⟨some 62, (some ((some 57), true)), .ld none (.t 61)⟩,
 ⟨some 63, (some ((some 57), true)), .mv (.t 0)⟩,
 ⟨some 64, (some ((some 57), true)), .mv (.t 5)⟩,
 ⟨some 65, (some ((some 57), true)), .bin .sub false (.t 64) (.k (.sc (.int .i64 1))) (pu (.binOp .sub 3 (.tmp 64) (.const (.int .i64 1)) 3) 3)⟩,
 ⟨some 66, (some ((some 57), true)), .ixs 2 (.t 63) (.t 65)⟩,
 ⟨some 67, (some ((some 57), true)), .sh 0 (.t 66)⟩,
 ⟨some 68, (some ((some 57), true)), .ld none (.t 67)⟩,
 ⟨some 69, (some ((some 57), true)), .bin .leq false (.t 62) (.t 68) (pu (.binOp .leq 3 (.tmp 62) (.tmp 68) 3) 4)⟩,
 ⟨some 70, none, .pick (.t 57) (.t 69) (.k (.sc (.bool false)))⟩])
 (.cond (.t 70) (.seq (.reg [⟨some 4, none, .mv (.k (.sc (.int .i64 1)))⟩])
 .ret)
 .skip))))
 (.reg [⟨some 22, none, .mv (.t 5)⟩,
 ⟨some 23, none, .bin .add false (.t 22) (.k (.sc (.int .i64 1))) (pu (.binOp .add 3 (.tmp 22) (.const (.int .i64 1)) 3) 3)⟩,
 ⟨some 5, none, .mv (.t 23)⟩]))))))
 (.seq (.reg [⟨some 4, none, .mv (.k (.sc (.int .i64 0)))⟩])
 .ret))))))
def k58 : List Nat := [0, 1, 4, 5, 11, 14, 17, 21, 54, 70]
theorem ic58 : factsI Try.prog 58 = some (71, [.tmp 4], c58) := by kernel_rfl
def c59 : IC :=
 (.seq (.reg [⟨some 3, none, .bx (.t 0)⟩,
 ⟨some 4, none, .bx (.t 1)⟩,
 ⟨some 6, none, .mv (.k (.sc (.int .i64 0)))⟩])
 (.seq (.reg [⟨some 7, none, .sh 1 (.t 4)⟩,
 ⟨some 8, none, .ld none (.t 7)⟩,
 ⟨some 9, none, .sh 1 (.t 3)⟩,
 ⟨some 10, none, .ld none (.t 9)⟩,
 ⟨some 11, none, .bin .sub false (.t 8) (.t 10) (pu (.binOp .sub 3 (.tmp 8) (.tmp 10) 3) 3)⟩,
 ⟨some 12, none, .mv (.t 2)⟩,
 ⟨some 13, none, .bin .rem false (.t 11) (.t 12) (pu (.binOp .rem 3 (.tmp 11) (.tmp 12) 3) 3)⟩,
 ⟨some 14, none, .mv (.t 2)⟩,
 ⟨some 15, none, .bin .add false (.t 13) (.t 14) (pu (.binOp .add 3 (.tmp 13) (.tmp 14) 3) 3)⟩,
 ⟨some 16, none, .mv (.t 2)⟩,
 ⟨some 17, none, .bin .rem false (.t 15) (.t 16) (pu (.binOp .rem 3 (.tmp 15) (.tmp 16) 3) 3)⟩,
 ⟨some 6, none, .mv (.t 17)⟩])
 .ret))
def k59 : List Nat := [0, 1, 2, 3, 4, 6]
theorem ic59 : factsI Try.prog 59 = some (18, [.tmp 6], c59) := by kernel_rfl
def c60 : IC :=
 (.seq (.reg [⟨some 2, none, .mv (.k (.sc (.int .i64 0)))⟩])
 (.seq (.block 0 (.seq (.reg [⟨some 4, none, .mv (.t 0)⟩,
 ⟨some 5, none, .bin .geq false (.t 4) (.k (.sc (.int .i32 48))) (pu (.binOp .geq 21 (.tmp 4) (.const (.int .i32 48)) 21) 4)⟩,
 ⟨some 6, none, .mv (.t 5)⟩,
 ⟨some 7, (some ((some 6), true)), .mv (.t 0)⟩,
 ⟨some 8, (some ((some 6), true)), .bin .leq false (.t 7) (.k (.sc (.int .i32 57))) (pu (.binOp .leq 21 (.tmp 7) (.const (.int .i32 57)) 21) 4)⟩,
 ⟨some 9, none, .pick (.t 6) (.t 8) (.k (.sc (.bool false)))⟩,
 ⟨some 3, none, .mv (.t 9)⟩])
 (.cond (.t 3) (.seq (.reg [⟨some 10, none, .mv (.t 0)⟩,
 ⟨some 11, none, .bin .sub false (.t 10) (.k (.sc (.int .i32 48))) (pu (.binOp .sub 21 (.tmp 10) (.const (.int .i32 48)) 21) 21)⟩,
 ⟨some 12, none, .pur (pu (.convert 21 3 (.tmp 11)) 3)⟩,
 ⟨some 2, none, .mv (.t 12)⟩])
 .ret)
 (.seq (.reg [⟨some 14, none, .mv (.t 0)⟩,
 ⟨some 15, none, .bin .geq false (.t 14) (.k (.sc (.int .i32 65))) (pu (.binOp .geq 21 (.tmp 14) (.const (.int .i32 65)) 21) 4)⟩,
 ⟨some 16, none, .mv (.t 15)⟩,
 ⟨some 17, (some ((some 16), true)), .mv (.t 0)⟩,
 ⟨some 18, (some ((some 16), true)), .bin .leq false (.t 17) (.k (.sc (.int .i32 90))) (pu (.binOp .leq 21 (.tmp 17) (.const (.int .i32 90)) 21) 4)⟩,
 ⟨some 19, none, .pick (.t 16) (.t 18) (.k (.sc (.bool false)))⟩,
 ⟨some 13, none, .mv (.t 19)⟩])
 (.cond (.t 13) (.seq (.reg [⟨some 20, none, .mv (.t 0)⟩,
 ⟨some 21, none, .bin .sub false (.t 20) (.k (.sc (.int .i32 65))) (pu (.binOp .sub 21 (.tmp 20) (.const (.int .i32 65)) 21) 21)⟩,
 ⟨some 22, none, .pur (pu (.convert 21 3 (.tmp 21)) 3)⟩,
 ⟨some 23, none, .bin .add false (.t 22) (.k (.sc (.int .i64 10))) (pu (.binOp .add 3 (.tmp 22) (.const (.int .i64 10)) 3) 3)⟩,
 ⟨some 2, none, .mv (.t 23)⟩])
 .ret)
 (.seq (.reg [⟨some 25, none, .mv (.t 0)⟩,
 ⟨some 26, none, .bin .geq false (.t 25) (.k (.sc (.int .i32 97))) (pu (.binOp .geq 21 (.tmp 25) (.const (.int .i32 97)) 21) 4)⟩,
 ⟨some 27, none, .mv (.t 26)⟩,
 ⟨some 28, (some ((some 27), true)), .mv (.t 0)⟩,
 ⟨some 29, (some ((some 27), true)), .bin .leq false (.t 28) (.k (.sc (.int .i32 122))) (pu (.binOp .leq 21 (.tmp 28) (.const (.int .i32 122)) 21) 4)⟩,
 ⟨some 30, none, .pick (.t 27) (.t 29) (.k (.sc (.bool false)))⟩,
 ⟨some 24, none, .mv (.t 30)⟩])
 (.cond (.t 24) (.seq (.reg [⟨some 31, none, .mv (.t 0)⟩,
 ⟨some 32, none, .bin .sub false (.t 31) (.k (.sc (.int .i32 97))) (pu (.binOp .sub 21 (.tmp 31) (.const (.int .i32 97)) 21) 21)⟩,
 ⟨some 33, none, .pur (pu (.convert 21 3 (.tmp 32)) 3)⟩,
 ⟨some 34, none, .bin .add false (.t 33) (.k (.sc (.int .i64 10))) (pu (.binOp .add 3 (.tmp 33) (.const (.int .i64 10)) 3) 3)⟩,
 ⟨some 2, none, .mv (.t 34)⟩])
 .ret)
 .skip)))))))
 (.seq (.reg [⟨some 2, none, .mv (.k (.sc (.int .i64 (-1))))⟩])
 .ret)))
def k60 : List Nat := [0, 2, 3, 13, 24]
theorem ic60 : factsI Try.prog 60 = some (35, [.tmp 2], c60) := by kernel_rfl
def c61 : IC :=
 (.seq (.reg [⟨some 10, none, .mv (.t 1)⟩,
 ⟨some 11, none, .bin .add false (.t 10) (.k (.sc (.int .i64 1))) (pu (.binOp .add 3 (.tmp 10) (.const (.int .i64 1)) 3) 3)⟩,
 ⟨some 8, none, .mv (.t 11)⟩])
 (.block 0 (.loop (.seq (.seq (.reg [⟨some 12, none, .mv (.t 8)⟩,
 ⟨some 13, none, .mv (.t 2)⟩,
 ⟨some 14, none, .bin .lss false (.t 12) (.t 13) (pu (.binOp .lss 3 (.tmp 12) (.tmp 13) 3) 4)⟩])
 (.cond (.t 14) .skip
 (.exit 0)))
 (.seq (.block 1 (.seq (.reg [⟨some 17, none, .mv (.t 8)⟩,
 ⟨some 9, none, .mv (.t 17)⟩])
 (.block 2 (.loop (.seq (.seq (.drw [0, 0, 3, 7, 15, 15, 15, 111, 239, 15, 15, 1039, 3599, 7695, 16383, 32767, 65535] [⟨some 18, none, .mv (.t 9)⟩,
 ⟨some 19, none, .mv (.t 1)⟩,
 ⟨some 20, none, .bin .gtr false (.t 18) (.t 19) (pu (.binOp .gtr 3 (.tmp 18) (.tmp 19) 3) 4)⟩,
 ⟨some 21, none, .mv (.t 20)⟩,
 ⟨some 22, (some ((some 21), true)), .mv (.t 3)⟩,
 ⟨some 23, (some ((some 21), true)), .mv (.t 0)⟩,
 ⟨some 24, (some ((some 21), true)), .mv (.t 9)⟩,
 ⟨some 25, (some ((some 21), true)), .ixs 10 (.t 23) (.t 24)⟩,
 ⟨some 26, (some ((some 21), true)), .ld (some 10) (.t 25)⟩,
 ⟨some 27, (some ((some 21), true)), .mv (.t 0)⟩,
 ⟨some 28, (some ((some 21), true)), .mv (.t 9)⟩,
 ⟨some 29, (some ((some 21), true)), .bin .sub false (.t 28) (.k (.sc (.int .i64 1))) (pu (.binOp .sub 3 (.tmp 28) (.const (.int .i64 1)) 3) 3)⟩,
 ⟨some 30, (some ((some 21), true)), .ixs 10 (.t 27) (.t 29)⟩,
 ⟨some 31, (some ((some 21), true)), .ld (some 10) (.t 30)⟩,
 ⟨some 32, (some ((some 21), true)), .callv (.t 22) [(.t 26), (.t 31)]⟩,
 ⟨some 33, (some ((some 21), true)), .bin .lss false (.t 32) (.k (.sc (.int .i64 0))) (pu (.binOp .lss 3 (.tmp 32) (.const (.int .i64 0)) 3) 4)⟩,
 ⟨some 34, none, .pick (.t 21) (.t 33) (.k (.sc (.bool false)))⟩])
 (.cond (.t 34) .skip
 (.exit 2)))
 (.seq (.block 3 (.drw [0, 0, 0, 0, 8, 0, 0, 64, 224, 480, 0, 0, 3072, 7168, 16355, 32739, 65535, 131071] [⟨some 37, none, .mv (.t 0)⟩,
 ⟨some 38, none, .mv (.t 9)⟩,
 ⟨some 39, none, .mv (.t 0)⟩,
 ⟨some 40, none, .mv (.t 9)⟩,
 ⟨some 41, none, .bin .sub false (.t 40) (.k (.sc (.int .i64 1))) (pu (.binOp .sub 3 (.tmp 40) (.const (.int .i64 1)) 3) 3)⟩,
 ⟨some 42, none, .mv (.t 0)⟩,
 ⟨some 43, none, .mv (.t 9)⟩,
 ⟨some 44, none, .bin .sub false (.t 43) (.k (.sc (.int .i64 1))) (pu (.binOp .sub 3 (.tmp 43) (.const (.int .i64 1)) 3) 3)⟩,
 ⟨some 45, none, .ixs 10 (.t 42) (.t 44)⟩,
 ⟨some 46, none, .ld (some 10) (.t 45)⟩,
 ⟨some 47, none, .mv (.t 0)⟩,
 ⟨some 48, none, .mv (.t 9)⟩,
 ⟨some 49, none, .ixs 10 (.t 47) (.t 48)⟩,
 ⟨some 50, none, .ld (some 10) (.t 49)⟩,
 ⟨some 51, none, .ixs 10 (.t 37) (.t 38)⟩,
 ⟨none, none, .st 10 (.t 51) (.t 46)⟩,
 ⟨some 52, none, .ixs 10 (.t 39) (.t 41)⟩,
 ⟨none, none, .st 10 (.t 52) (.t 50)⟩]))
 (.reg [⟨some 35, none, .mv (.t 9)⟩,
 ⟨some 36, none, .bin .sub false (.t 35) (.k (.sc (.int .i64 1))) (pu (.binOp .sub 3 (.tmp 35) (.const (.int .i64 1)) 3) 3)⟩,
 ⟨some 9, none, .mv (.t 36)⟩])))))))
 (.reg [⟨some 15, none, .mv (.t 8)⟩,
 ⟨some 16, none, .bin .add false (.t 15) (.k (.sc (.int .i64 1))) (pu (.binOp .add 3 (.tmp 15) (.const (.int .i64 1)) 3) 3)⟩,
 ⟨some 8, none, .mv (.t 16)⟩]))))))
def k61 : List Nat := [0, 1, 2, 3, 8, 9, 14, 34]
theorem ic61 : factsI Try.prog 61 = some (53, [], c61) := by kernel_rfl
def c62 : IC :=
 (.seq (.seq (.reg [⟨some 25, none, .mv (.t 2)⟩,
 ⟨some 26, none, .mv (.t 1)⟩,
 ⟨some 27, none, .bin .sub false (.t 25) (.t 26) (pu (.binOp .sub 3 (.tmp 25) (.tmp 26) 3) 3)⟩,
 ⟨some 28, none, .bin .eql false (.t 27) (.k (.sc (.int .i64 1))) (pu (.binOp .eql 3 (.tmp 27) (.const (.int .i64 1)) 3) 4)⟩])
 (.cond (.t 28) (.seq (.reg [⟨some 29, none, .mv (.t 2)⟩,
 ⟨some 10, none, .mv (.t 29)⟩])
 (.seq (.reg [⟨some 30, none, .mv (.t 3)⟩,
 ⟨some 11, none, .mv (.t 30)⟩])
 (.seq (.block 0 (.loop (.seq (.seq (.reg [⟨some 31, none, .mv (.t 10)⟩,
 ⟨some 32, none, .mv (.t 11)⟩,
 ⟨some 33, none, .bin .lss false (.t 31) (.t 32) (pu (.binOp .lss 3 (.tmp 31) (.tmp 32) 3) 4)⟩])
 (.cond (.t 33) .skip
 (.exit 0)))
 (.block 1 (.seq (.reg [⟨some 34, none, .mv (.t 10)⟩,
 ⟨some 35, none, .mv (.t 11)⟩,
 ⟨some 36, none, .bin .add false (.t 34) (.t 35) (pu (.binOp .add 3 (.tmp 34) (.tmp 35) 3) 3)⟩,
 ⟨some 37, none, .pur (pu (.convert 3 79 (.tmp 36)) 79)⟩,
 ⟨some 38, none, .bin .shr false (.t 37) (.k (.sc (.int .u64 1))) (pu (.binOp .shr 79 (.tmp 37) (.const (.int .u64 1)) 79) 79)⟩,
 ⟨some 39, none, .pur (pu (.convert 79 3 (.tmp 38)) 3)⟩,
 ⟨some 12, none, .mv (.t 39)⟩])
 (.seq (.drw [0, 0, 0, 6, 14, 0, 0, 96, 224, 511, 1023] [⟨some 40, none, .mv (.t 4)⟩,
 ⟨some 41, none, .mv (.t 0)⟩,
 ⟨some 42, none, .mv (.t 12)⟩,
 ⟨some 43, none, .ixs 10 (.t 41) (.t 42)⟩,
 ⟨some 44, none, .ld (some 10) (.t 43)⟩,
 ⟨some 45, none, .mv (.t 0)⟩,
 ⟨some 46, none, .mv (.t 1)⟩,
 ⟨some 47, none, .ixs 10 (.t 45) (.t 46)⟩,
 ⟨some 48, none, .ld (some 10) (.t 47)⟩,
 ⟨some 49, none, .callv (.t 40) [(.t 44), (.t 48)]⟩,
 ⟨some 50, none, .bin .lss false (.t 49) (.k (.sc (.int .i64 0))) (pu (.binOp .lss 3 (.tmp 49) (.const (.int .i64 0)) 3) 4)⟩])
 (.cond (.t 50) (.reg [⟨some 51, none, .mv (.t 12)⟩,
 ⟨some 52, none, .bin .add false (.t 51) (.k (.sc (.int .i64 1))) (pu (.binOp .add 3 (.tmp 51) (.const (.int .i64 1)) 3) 3)⟩,
 ⟨some 10, none, .mv (.t 52)⟩])
 (.reg [⟨some 53, none, .mv (.t 12)⟩,
 ⟨some 11, none, .mv (.t 53)⟩]))))))))
 (.seq (.seq (.reg [⟨some 54, none, .mv (.t 1)⟩,
 ⟨some 13, none, .mv (.t 54)⟩])
 (.block 2 (.loop (.seq (.seq (.reg [⟨some 55, none, .mv (.t 13)⟩,
 ⟨some 56, none, .mv (.t 10)⟩,
 ⟨some 57, none, .bin .sub false (.t 56) (.k (.sc (.int .i64 1))) (pu (.binOp .sub 3 (.tmp 56) (.const (.int .i64 1)) 3) 3)⟩,
 ⟨some 58, none, .bin .lss false (.t 55) (.t 57) (pu (.binOp .lss 3 (.tmp 55) (.tmp 57) 3) 4)⟩])
 (.cond (.t 58) .skip
 (.exit 2)))
 (.seq (.block 3 (.drw [0, 0, 0, 0, 8, 0, 0, 64, 224, 480, 0, 0, 3072, 7168, 16355, 32739, 65535, 131071] [⟨some 61, none, .mv (.t 0)⟩,
 ⟨some 62, none, .mv (.t 13)⟩,
 ⟨some 63, none, .mv (.t 0)⟩,
 ⟨some 64, none, .mv (.t 13)⟩,
 ⟨some 65, none, .bin .add false (.t 64) (.k (.sc (.int .i64 1))) (pu (.binOp .add 3 (.tmp 64) (.const (.int .i64 1)) 3) 3)⟩,
 ⟨some 66, none, .mv (.t 0)⟩,
 ⟨some 67, none, .mv (.t 13)⟩,
 ⟨some 68, none, .bin .add false (.t 67) (.k (.sc (.int .i64 1))) (pu (.binOp .add 3 (.tmp 67) (.const (.int .i64 1)) 3) 3)⟩,
 ⟨some 69, none, .ixs 10 (.t 66) (.t 68)⟩,
 ⟨some 70, none, .ld (some 10) (.t 69)⟩,
 ⟨some 71, none, .mv (.t 0)⟩,
 ⟨some 72, none, .mv (.t 13)⟩,
 ⟨some 73, none, .ixs 10 (.t 71) (.t 72)⟩,
 ⟨some 74, none, .ld (some 10) (.t 73)⟩,
 ⟨some 75, none, .ixs 10 (.t 61) (.t 62)⟩,
 ⟨none, none, .st 10 (.t 75) (.t 70)⟩,
 ⟨some 76, none, .ixs 10 (.t 63) (.t 65)⟩,
 ⟨none, none, .st 10 (.t 76) (.t 74)⟩]))
 (.reg [⟨some 59, none, .mv (.t 13)⟩,
 ⟨some 60, none, .bin .add false (.t 59) (.k (.sc (.int .i64 1))) (pu (.binOp .add 3 (.tmp 59) (.const (.int .i64 1)) 3) 3)⟩,
 ⟨some 13, none, .mv (.t 60)⟩]))))))
 .ret))))
 .skip))
 (.seq (.seq (.reg [⟨some 77, none, .mv (.t 3)⟩,
 ⟨some 78, none, .mv (.t 2)⟩,
 ⟨some 79, none, .bin .sub false (.t 77) (.t 78) (pu (.binOp .sub 3 (.tmp 77) (.tmp 78) 3) 3)⟩,
 ⟨some 80, none, .bin .eql false (.t 79) (.k (.sc (.int .i64 1))) (pu (.binOp .eql 3 (.tmp 79) (.const (.int .i64 1)) 3) 4)⟩])
 (.cond (.t 80) (.seq (.reg [⟨some 81, none, .mv (.t 1)⟩,
 ⟨some 14, none, .mv (.t 81)⟩])
 (.seq (.reg [⟨some 82, none, .mv (.t 2)⟩,
 ⟨some 15, none, .mv (.t 82)⟩])
 (.seq (.block 4 (.loop (.seq (.seq (.reg [⟨some 83, none, .mv (.t 14)⟩,
 ⟨some 84, none, .mv (.t 15)⟩,
 ⟨some 85, none, .bin .lss false (.t 83) (.t 84) (pu (.binOp .lss 3 (.tmp 83) (.tmp 84) 3) 4)⟩])
 (.cond (.t 85) .skip
 (.exit 4)))
 (.block 5 (.seq (.reg [⟨some 86, none, .mv (.t 14)⟩,
 ⟨some 87, none, .mv (.t 15)⟩,
 ⟨some 88, none, .bin .add false (.t 86) (.t 87) (pu (.binOp .add 3 (.tmp 86) (.tmp 87) 3) 3)⟩,
 ⟨some 89, none, .pur (pu (.convert 3 79 (.tmp 88)) 79)⟩,
 ⟨some 90, none, .bin .shr false (.t 89) (.k (.sc (.int .u64 1))) (pu (.binOp .shr 79 (.tmp 89) (.const (.int .u64 1)) 79) 79)⟩,
 ⟨some 91, none, .pur (pu (.convert 79 3 (.tmp 90)) 3)⟩,
 ⟨some 16, none, .mv (.t 91)⟩])
 (.seq (.drw [0, 0, 0, 6, 14, 0, 0, 96, 224, 511, 1023, 2047] [⟨some 92, none, .mv (.t 4)⟩,
 ⟨some 93, none, .mv (.t 0)⟩,
 ⟨some 94, none, .mv (.t 2)⟩,
 ⟨some 95, none, .ixs 10 (.t 93) (.t 94)⟩,
 ⟨some 96, none, .ld (some 10) (.t 95)⟩,
 ⟨some 97, none, .mv (.t 0)⟩,
 ⟨some 98, none, .mv (.t 16)⟩,
 ⟨some 99, none, .ixs 10 (.t 97) (.t 98)⟩,
 ⟨some 100, none, .ld (some 10) (.t 99)⟩,
 ⟨some 101, none, .callv (.t 92) [(.t 96), (.t 100)]⟩,
 ⟨some 102, none, .bin .lss false (.t 101) (.k (.sc (.int .i64 0))) (pu (.binOp .lss 3 (.tmp 101) (.const (.int .i64 0)) 3) 4)⟩,
 ⟨some 103, none, .un .not (.t 102) (pu (.unOp .not 4 (.tmp 102)) 4)⟩])
 (.cond (.t 103) (.reg [⟨some 104, none, .mv (.t 16)⟩,
 ⟨some 105, none, .bin .add false (.t 104) (.k (.sc (.int .i64 1))) (pu (.binOp .add 3 (.tmp 104) (.const (.int .i64 1)) 3) 3)⟩,
 ⟨some 14, none, .mv (.t 105)⟩])
 (.reg [⟨some 106, none, .mv (.t 16)⟩,
 ⟨some 15, none, .mv (.t 106)⟩]))))))))
 (.seq (.seq (.reg [⟨some 107, none, .mv (.t 2)⟩,
 ⟨some 17, none, .mv (.t 107)⟩])
 (.block 6 (.loop (.seq (.seq (.reg [⟨some 108, none, .mv (.t 17)⟩,
 ⟨some 109, none, .mv (.t 14)⟩,
 ⟨some 110, none, .bin .gtr false (.t 108) (.t 109) (pu (.binOp .gtr 3 (.tmp 108) (.tmp 109) 3) 4)⟩])
 (.cond (.t 110) .skip
 (.exit 6)))
 (.seq (.block 7 (.drw [0, 0, 0, 0, 8, 0, 0, 64, 224, 480, 0, 0, 3072, 7168, 16355, 32739, 65535, 131071] [⟨some 113, none, .mv (.t 0)⟩,
 ⟨some 114, none, .mv (.t 17)⟩,
 ⟨some 115, none, .mv (.t 0)⟩,
 ⟨some 116, none, .mv (.t 17)⟩,
 ⟨some 117, none, .bin .sub false (.t 116) (.k (.sc (.int .i64 1))) (pu (.binOp .sub 3 (.tmp 116) (.const (.int .i64 1)) 3) 3)⟩,
 ⟨some 118, none, .mv (.t 0)⟩,
 ⟨some 119, none, .mv (.t 17)⟩,
 ⟨some 120, none, .bin .sub false (.t 119) (.k (.sc (.int .i64 1))) (pu (.binOp .sub 3 (.tmp 119) (.const (.int .i64 1)) 3) 3)⟩,
 ⟨some 121, none, .ixs 10 (.t 118) (.t 120)⟩,
 ⟨some 122, none, .ld (some 10) (.t 121)⟩,
 ⟨some 123, none, .mv (.t 0)⟩,
 ⟨some 124, none, .mv (.t 17)⟩,
 ⟨some 125, none, .ixs 10 (.t 123) (.t 124)⟩,
 ⟨some 126, none, .ld (some 10) (.t 125)⟩,
 ⟨some 127, none, .ixs 10 (.t 113) (.t 114)⟩,
 ⟨none, none, .st 10 (.t 127) (.t 122)⟩,
 ⟨some 128, none, .ixs 10 (.t 115) (.t 117)⟩,
 ⟨none, none, .st 10 (.t 128) (.t 126)⟩]))
 (.reg [⟨some 111, none, .mv (.t 17)⟩,
 ⟨some 112, none, .bin .sub false (.t 111) (.k (.sc (.int .i64 1))) (pu (.binOp .sub 3 (.tmp 111) (.const (.int .i64 1)) 3) 3)⟩,
 ⟨some 17, none, .mv (.t 112)⟩]))))))
 .ret))))
 .skip))
 (.seq (.reg [⟨some 129, none, .mv (.t 1)⟩,
 ⟨some 130, none, .mv (.t 3)⟩,
 ⟨some 131, none, .bin .add false (.t 129) (.t 130) (pu (.binOp .add 3 (.tmp 129) (.tmp 130) 3) 3)⟩,
 ⟨some 132, none, .pur (pu (.convert 3 79 (.tmp 131)) 79)⟩,
 ⟨some 133, none, .bin .shr false (.t 132) (.k (.sc (.int .u64 1))) (pu (.binOp .shr 79 (.tmp 132) (.const (.int .u64 1)) 79) 79)⟩,
 ⟨some 134, none, .pur (pu (.convert 79 3 (.tmp 133)) 3)⟩,
 ⟨some 18, none, .mv (.t 134)⟩])
 (.seq (.reg [⟨some 135, none, .mv (.t 18)⟩,
 ⟨some 136, none, .mv (.t 2)⟩,
 ⟨some 137, none, .bin .add false (.t 135) (.t 136) (pu (.binOp .add 3 (.tmp 135) (.tmp 136) 3) 3)⟩,
 ⟨some 19, none, .mv (.t 137)⟩])
 (.seq (.reg [⟨some 20, none, .mv (.k (.sc (.int .i64 0)))⟩,
 ⟨some 21, none, .mv (.k (.sc (.int .i64 0)))⟩])
 (.seq (.seq (.reg [⟨some 138, none, .mv (.t 2)⟩,
 ⟨some 139, none, .mv (.t 18)⟩,
 ⟨some 140, none, .bin .gtr false (.t 138) (.t 139) (pu (.binOp .gtr 3 (.tmp 138) (.tmp 139) 3) 4)⟩])
 (.cond (.t 140) (.seq (.reg [⟨some 141, none, .mv (.t 19)⟩,
 ⟨some 142, none, .mv (.t 3)⟩,
 ⟨some 143, none, .bin .sub false (.t 141) (.t 142) (pu (.binOp .sub 3 (.tmp 141) (.tmp 142) 3) 3)⟩,
 ⟨some 20, none, .mv (.t 143)⟩])
 (.reg [⟨some 144, none, .mv (.t 18)⟩,
 ⟨some 21, none, .mv (.t 144)⟩]))
 (.seq (.reg [⟨some 145, none, .mv (.t 1)⟩,
 ⟨some 20, none, .mv (.t 145)⟩])
 (.reg [⟨some 146, none, .mv (.t 2)⟩,
 ⟨some 21, none, .mv (.t 146)⟩]))))
 (.seq (.reg [⟨some 147, none, .mv (.t 19)⟩,
 ⟨some 148, none, .bin .sub false (.t 147) (.k (.sc (.int .i64 1))) (pu (.binOp .sub 3 (.tmp 147) (.const (.int .i64 1)) 3) 3)⟩,
 ⟨some 22, none, .mv (.t 148)⟩])
 (.seq (.block 8 (.loop (.seq (.seq (.reg [⟨some 149, none, .mv (.t 20)⟩,
 ⟨some 150, none, .mv (.t 21)⟩,
 ⟨some 151, none, .bin .lss false (.t 149) (.t 150) (pu (.binOp .lss 3 (.tmp 149) (.tmp 150) 3) 4)⟩])
 (.cond (.t 151) .skip
 (.exit 8)))
 (.block 9 (.seq (.reg [⟨some 152, none, .mv (.t 20)⟩,
 ⟨some 153, none, .mv (.t 21)⟩,
 ⟨some 154, none, .bin .add false (.t 152) (.t 153) (pu (.binOp .add 3 (.tmp 152) (.tmp 153) 3) 3)⟩,
 ⟨some 155, none, .pur (pu (.convert 3 79 (.tmp 154)) 79)⟩,
 ⟨some 156, none, .bin .shr false (.t 155) (.k (.sc (.int .u64 1))) (pu (.binOp .shr 79 (.tmp 155) (.const (.int .u64 1)) 79) 79)⟩,
 ⟨some 157, none, .pur (pu (.convert 79 3 (.tmp 156)) 3)⟩,
 ⟨some 23, none, .mv (.t 157)⟩])
 (.seq (.drw [0, 0, 0, 0, 12, 30, 62, 0, 0, 384, 896, 2047, 4095, 8191] [⟨some 158, none, .mv (.t 4)⟩,
 ⟨some 159, none, .mv (.t 0)⟩,
 ⟨some 160, none, .mv (.t 22)⟩,
 ⟨some 161, none, .mv (.t 23)⟩,
 ⟨some 162, none, .bin .sub false (.t 160) (.t 161) (pu (.binOp .sub 3 (.tmp 160) (.tmp 161) 3) 3)⟩,
 ⟨some 163, none, .ixs 10 (.t 159) (.t 162)⟩,
 ⟨some 164, none, .ld (some 10) (.t 163)⟩,
 ⟨some 165, none, .mv (.t 0)⟩,
 ⟨some 166, none, .mv (.t 23)⟩,
 ⟨some 167, none, .ixs 10 (.t 165) (.t 166)⟩,
 ⟨some 168, none, .ld (some 10) (.t 167)⟩,
 ⟨some 169, none, .callv (.t 158) [(.t 164), (.t 168)]⟩,
 ⟨some 170, none, .bin .lss false (.t 169) (.k (.sc (.int .i64 0))) (pu (.binOp .lss 3 (.tmp 169) (.const (.int .i64 0)) 3) 4)⟩,
 ⟨some 171, none, .un .not (.t 170) (pu (.unOp .not 4 (.tmp 170)) 4)⟩])
 (.cond (.t 171) (.reg [⟨some 172, none, .mv (.t 23)⟩,
 ⟨some 173, none, .bin .add false (.t 172) (.k (.sc (.int .i64 1))) (pu (.binOp .add 3 (.tmp 172) (.const (.int .i64 1)) 3) 3)⟩,
 ⟨some 20, none, .mv (.t 173)⟩])
 (.reg [⟨some 174, none, .mv (.t 23)⟩,
 ⟨some 21, none, .mv (.t 174)⟩]))))))))
 (.seq (.reg [⟨some 175, none, .mv (.t 19)⟩,
 ⟨some 176, none, .mv (.t 20)⟩,
 ⟨some 177, none, .bin .sub false (.t 175) (.t 176) (pu (.binOp .sub 3 (.tmp 175) (.tmp 176) 3) 3)⟩,
 ⟨some 24, none, .mv (.t 177)⟩])
 (.seq (.seq (.reg [⟨some 178, none, .mv (.t 20)⟩,
 ⟨some 179, none, .mv (.t 2)⟩,
 ⟨some 180, none, .bin .lss false (.t 178) (.t 179) (pu (.binOp .lss 3 (.tmp 178) (.tmp 179) 3) 4)⟩,
 ⟨some 181, none, .mv (.t 180)⟩,
 ⟨some 182, (some ((some 181), true)), .mv (.t 2)⟩,
 ⟨some 183, (some ((some 181), true)), .mv (.t 24)⟩,
 ⟨some 184, (some ((some 181), true)), .bin .lss false (.t 182) (.t 183) (pu (.binOp .lss 3 (.tmp 182) (.tmp 183) 3) 4)⟩,
 ⟨some 185, none, .pick (.t 181) (.t 184) (.k (.sc (.bool false)))⟩])
 (.cond (.t 185) (.reg [⟨some 186, none, .mv (.t 0)⟩,
 ⟨some 187, none, .mv (.t 20)⟩,
 ⟨some 188, none, .mv (.t 2)⟩,
 ⟨some 189, none, .mv (.t 24)⟩,
 ⟨some 190, none, .mv (.t 4)⟩,
 ⟨some 191, none, .call 63 [(.t 186), (.t 187), (.t 188), (.t 189), (.t 190)]⟩])
 .skip))
 (.seq (.seq (.reg [⟨some 192, none, .mv (.t 1)⟩,
 ⟨some 193, none, .mv (.t 20)⟩,
 ⟨some 194, none, .bin .lss false (.t 192) (.t 193) (pu (.binOp .lss 3 (.tmp 192) (.tmp 193) 3) 4)⟩,
 ⟨some 195, none, .mv (.t 194)⟩,
 ⟨some 196, (some ((some 195), true)), .mv (.t 20)⟩,
 ⟨some 197, (some ((some 195), true)), .mv (.t 18)⟩,
 ⟨some 198, (some ((some 195), true)), .bin .lss false (.t 196) (.t 197) (pu (.binOp .lss 3 (.tmp 196) (.tmp 197) 3) 4)⟩,
 ⟨some 199, none, .pick (.t 195) (.t 198) (.k (.sc (.bool false)))⟩])
 (.cond (.t 199) (.reg [⟨some 200, none, .mv (.t 0)⟩,
 ⟨some 201, none, .mv (.t 1)⟩,
 ⟨some 202, none, .mv (.t 20)⟩,
 ⟨some 203, none, .mv (.t 18)⟩,
 ⟨some 204, none, .mv (.t 4)⟩,
 ⟨some 205, none, .call 62 [(.t 200), (.t 201), (.t 202), (.t 203), (.t 204)]⟩])
 .skip))
 (.seq (.reg [⟨some 206, none, .mv (.t 18)⟩,
 ⟨some 207, none, .mv (.t 24)⟩,
 ⟨some 208, none, .bin .lss false (.t 206) (.t 207) (pu (.binOp .lss 3 (.tmp 206) (.tmp 207) 3) 4)⟩,
 ⟨some 209, none, .mv (.t 208)⟩,
 ⟨some 210, (some ((some 209), true)), .mv (.t 24)⟩,
 ⟨some 211, (some ((some 209), true)), .mv (.t 3)⟩,
 ⟨some 212, (some ((some 209), true)), .bin .lss false (.t 210) (.t 211) (pu (.binOp .lss 3 (.tmp 210) (.tmp 211) 3) 4)⟩,
 ⟨some 213, none, .pick (.t 209) (.t 212) (.k (.sc (.bool false)))⟩])
 (.cond (.t 213) (.reg [⟨some 214, none, .mv (.t 0)⟩,
 ⟨some 215, none, .mv (.t 18)⟩,
 ⟨some 216, none, .mv (.t 24)⟩,
 ⟨some 217, none, .mv (.t 3)⟩,
 ⟨some 218, none, .mv (.t 4)⟩,
 ⟨some 219, none, .call 62 [(.t 214), (.t 215), (.t 216), (.t 217), (.t 218)]⟩])
 .skip)))))))))))))
def k62 : List Nat := [0, 1, 2, 3, 4, 10, 11, 12, 13, 14, 15, 16, 17, 18, 19, 20, 21, 22, 23, 24, 28, 33, 50, 58, 80, 85, 103, 110, 140, 151, 171, 185, 199, 213]
theorem ic62 : factsI Try.prog 62 = some (220, [], c62) := by kernel_rfl
def c63 : IC :=
 (.seq (.reg [⟨some 12, none, .mv (.t 2)⟩,
 ⟨some 13, none, .mv (.t 1)⟩,
 ⟨some 14, none, .bin .sub false (.t 12) (.t 13) (pu (.binOp .sub 3 (.tmp 12) (.tmp 13) 3) 3)⟩,
 ⟨some 10, none, .mv (.t 14)⟩])
 (.seq (.reg [⟨some 15, none, .mv (.t 3)⟩,
 ⟨some 16, none, .mv (.t 2)⟩,
 ⟨some 17, none, .bin .sub false (.t 15) (.t 16) (pu (.binOp .sub 3 (.tmp 15) (.tmp 16) 3) 3)⟩,
 ⟨some 11, none, .mv (.t 17)⟩])
 (.seq (.block 0 (.loop (.seq (.seq (.reg [⟨some 18, none, .mv (.t 10)⟩,
 ⟨some 19, none, .mv (.t 11)⟩,
 ⟨some 20, none, .bin .neq false (.t 18) (.t 19) (pu (.binOp .neq 3 (.tmp 18) (.tmp 19) 3) 4)⟩])
 (.cond (.t 20) .skip
 (.exit 0)))
 (.block 1 (.seq (.reg [⟨some 21, none, .mv (.t 10)⟩,
 ⟨some 22, none, .mv (.t 11)⟩,
 ⟨some 23, none, .bin .gtr false (.t 21) (.t 22) (pu (.binOp .gtr 3 (.tmp 21) (.tmp 22) 3) 4)⟩])
 (.cond (.t 23) (.seq (.reg [⟨some 24, none, .mv (.t 0)⟩,
 ⟨some 25, none, .mv (.t 2)⟩,
 ⟨some 26, none, .mv (.t 10)⟩,
 ⟨some 27, none, .bin .sub false (.t 25) (.t 26) (pu (.binOp .sub 3 (.tmp 25) (.tmp 26) 3) 3)⟩,
 ⟨some 28, none, .mv (.t 2)⟩,
 ⟨some 29, none, .mv (.t 11)⟩,
 ⟨some 30, none, .mv (.t 4)⟩,
 ⟨some 31, none, .call 64 [(.t 24), (.t 27), (.t 28), (.t 29), (.t 30)]⟩])
 (.reg [⟨some 32, none, .mv (.t 10)⟩,
 ⟨some 33, none, .mv (.t 11)⟩,
 ⟨some 34, none, .bin .sub false (.t 32) (.t 33) (pu (.binOp .sub 3 (.tmp 32) (.tmp 33) 3) 3)⟩,
 ⟨some 10, none, .mv (.t 34)⟩]))
 (.seq (.reg [⟨some 35, none, .mv (.t 0)⟩,
 ⟨some 36, none, .mv (.t 2)⟩,
 ⟨some 37, none, .mv (.t 10)⟩,
 ⟨some 38, none, .bin .sub false (.t 36) (.t 37) (pu (.binOp .sub 3 (.tmp 36) (.tmp 37) 3) 3)⟩,
 ⟨some 39, none, .mv (.t 2)⟩,
 ⟨some 40, none, .mv (.t 11)⟩,
 ⟨some 41, none, .bin .add false (.t 39) (.t 40) (pu (.binOp .add 3 (.tmp 39) (.tmp 40) 3) 3)⟩,
 ⟨some 42, none, .mv (.t 10)⟩,
 ⟨some 43, none, .bin .sub false (.t 41) (.t 42) (pu (.binOp .sub 3 (.tmp 41) (.tmp 42) 3) 3)⟩,
 ⟨some 44, none, .mv (.t 10)⟩,
 ⟨some 45, none, .mv (.t 4)⟩,
 ⟨some 46, none, .call 64 [(.t 35), (.t 38), (.t 43), (.t 44), (.t 45)]⟩])
 (.reg [⟨some 47, none, .mv (.t 11)⟩,
 ⟨some 48, none, .mv (.t 10)⟩,
 ⟨some 49, none, .bin .sub false (.t 47) (.t 48) (pu (.binOp .sub 3 (.tmp 47) (.tmp 48) 3) 3)⟩,
 ⟨some 11, none, .mv (.t 49)⟩]))))))))
 (.reg [⟨some 50, none, .mv (.t 0)⟩,
 ⟨some 51, none, .mv (.t 2)⟩,
 ⟨some 52, none, .mv (.t 10)⟩,
 ⟨some 53, none, .bin .sub false (.t 51) (.t 52) (pu (.binOp .sub 3 (.tmp 51) (.tmp 52) 3) 3)⟩,
 ⟨some 54, none, .mv (.t 2)⟩,
 ⟨some 55, none, .mv (.t 10)⟩,
 ⟨some 56, none, .mv (.t 4)⟩,
 ⟨some 57, none, .call 64 [(.t 50), (.t 53), (.t 54), (.t 55), (.t 56)]⟩]))))
def k63 : List Nat := [0, 1, 2, 3, 4, 10, 11, 20, 23]
theorem ic63 : factsI Try.prog 63 = some (58, [], c63) := by kernel_rfl
def c64 : IC :=
 (.seq (.reg [⟨some 10, none, .mv (.k (.sc (.int .i64 0)))⟩])
 (.block 0 (.loop (.seq (.seq (.reg [⟨some 11, none, .mv (.t 10)⟩,
 ⟨some 12, none, .mv (.t 3)⟩,
 ⟨some 13, none, .bin .lss false (.t 11) (.t 12) (pu (.binOp .lss 3 (.tmp 11) (.tmp 12) 3) 4)⟩])
 (.cond (.t 13) .skip
 (.exit 0)))
 (.seq (.block 1 (.drw [0, 0, 0, 6, 0, 0, 0, 96, 0, 0, 0, 1536, 3840, 7936, 0, 0, 0, 98304, 245760, 507904, 1048335, 2096911, 4194303, 8388607] [⟨some 16, none, .mv (.t 0)⟩,
 ⟨some 17, none, .mv (.t 1)⟩,
 ⟨some 18, none, .mv (.t 10)⟩,
 ⟨some 19, none, .bin .add false (.t 17) (.t 18) (pu (.binOp .add 3 (.tmp 17) (.tmp 18) 3) 3)⟩,
 ⟨some 20, none, .mv (.t 0)⟩,
 ⟨some 21, none, .mv (.t 2)⟩,
 ⟨some 22, none, .mv (.t 10)⟩,
 ⟨some 23, none, .bin .add false (.t 21) (.t 22) (pu (.binOp .add 3 (.tmp 21) (.tmp 22) 3) 3)⟩,
 ⟨some 24, none, .mv (.t 0)⟩,
 ⟨some 25, none, .mv (.t 2)⟩,
 ⟨some 26, none, .mv (.t 10)⟩,
 ⟨some 27, none, .bin .add false (.t 25) (.t 26) (pu (.binOp .add 3 (.tmp 25) (.tmp 26) 3) 3)⟩,
 ⟨some 28, none, .ixs 10 (.t 24) (.t 27)⟩,
 ⟨some 29, none, .ld (some 10) (.t 28)⟩,
 ⟨some 30, none, .mv (.t 0)⟩,
 ⟨some 31, none, .mv (.t 1)⟩,
 ⟨some 32, none, .mv (.t 10)⟩,
 ⟨some 33, none, .bin .add false (.t 31) (.t 32) (pu (.binOp .add 3 (.tmp 31) (.tmp 32) 3) 3)⟩,
 ⟨some 34, none, .ixs 10 (.t 30) (.t 33)⟩,
 ⟨some 35, none, .ld (some 10) (.t 34)⟩,
 ⟨some 36, none, .ixs 10 (.t 16) (.t 19)⟩,
 ⟨none, none, .st 10 (.t 36) (.t 29)⟩,
 ⟨some 37, none, .ixs 10 (.t 20) (.t 23)⟩,
 ⟨none, none, .st 10 (.t 37) (.t 35)⟩]))
 (.reg [⟨some 14, none, .mv (.t 10)⟩,
 ⟨some 15, none, .bin .add false (.t 14) (.k (.sc (.int .i64 1))) (pu (.binOp .add 3 (.tmp 14) (.const (.int .i64 1)) 3) 3)⟩,
 ⟨some 10, none, .mv (.t 15)⟩]))))))
def k64 : List Nat := [0, 1, 2, 3, 10, 13]
theorem ic64 : factsI Try.prog 64 = some (38, [], c64) := by kernel_rfl
end Go.Proofs.Ytoccifhckpjfaaa
