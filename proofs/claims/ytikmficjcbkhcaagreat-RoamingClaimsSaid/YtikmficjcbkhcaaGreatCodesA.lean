import Derived.Test.YtikmficjcbkhcaaGreatRows
import Derived.Test.YtikmficjcbkhcaaGreatIdlM4
namespace Go.Proofs.YtikmficjcbkhcaaGreat
open Go.Idl
def c3 : IC :=
 (.seq (.reg [⟨some 2, none, .bx (.t 0)⟩,
 ⟨some 3, none, .bx (.t 1)⟩,
 ⟨some 4, none, .mv (.k (.sc (.bool false)))⟩])
 (.seq (.seq (.reg [⟨some 9, none, .ld (some 7) (.t 2)⟩,
 ⟨some 10, none, .call 5 [(.t 9)]⟩,
 ⟨some 11, none, .un .not (.t 10) (pu (.unOp .not 4 (.tmp 10)) 4)⟩])
 (.cond (.t 11) (.seq (.reg [⟨some 12, none, .call 6 []⟩,
 ⟨some 4, none, .mv (.t 12)⟩])
 .ret)
 .skip))
 (.seq (.reg [⟨some 14, none, .ld (some 7) (.t 2)⟩,
 ⟨some 15, none, .sh 0 (.t 3)⟩,
 ⟨some 16, none, .ld none (.t 15)⟩,
 ⟨some 17, none, .sh 1 (.t 3)⟩,
 ⟨some 18, none, .ld none (.t 17)⟩,
 ⟨some 19, none, .sh 2 (.t 3)⟩,
 ⟨some 20, none, .ld none (.t 19)⟩,
 ⟨some 21, none, .sh 3 (.t 3)⟩,
 ⟨some 22, none, .ld none (.t 21)⟩,
 ⟨some 23, none, .call 7 [(.t 14), (.t 16), (.t 18), (.t 20), (.t 22)]⟩,
 ⟨some 13, none, .mv (.t 23)⟩,
 ⟨some 24, none, .ext (.t 13) 0⟩,
 ⟨some 25, none, .ext (.t 13) 1⟩,
 ⟨some 5, none, .al (.agg [.sc (.string ⟨#[]⟩), .sc (.string ⟨#[]⟩), .sc (.slice none 0 0), .sc (.slice none 0 0), .sc (.int .i64 0), .sc (.slice none 0 0), .sc (.slice none 0 0)]) 7⟩,
 ⟨none, none, .st 7 (.t 5) (.t 24)⟩,
 ⟨some 6, none, .mv (.t 25)⟩])
 (.seq (.reg [⟨some 27, none, .ld (some 7) (.t 2)⟩,
 ⟨some 28, none, .sh 0 (.t 3)⟩,
 ⟨some 29, none, .ld none (.t 28)⟩,
 ⟨some 30, none, .sh 1 (.t 3)⟩,
 ⟨some 31, none, .ld none (.t 30)⟩,
 ⟨some 32, none, .sh 2 (.t 3)⟩,
 ⟨some 33, none, .ld none (.t 32)⟩,
 ⟨some 34, none, .sh 3 (.t 3)⟩,
 ⟨some 35, none, .ld none (.t 34)⟩,
 ⟨some 36, none, .call 8 [(.t 27), (.t 29), (.t 31), (.t 33), (.t 35)]⟩,
 ⟨some 26, none, .mv (.t 36)⟩,
 ⟨some 37, none, .ext (.t 26) 0⟩,
 ⟨some 38, none, .ext (.t 26) 1⟩,
 ⟨some 7, none, .al (.agg [.sc (.string ⟨#[]⟩), .sc (.string ⟨#[]⟩), .sc (.slice none 0 0), .sc (.slice none 0 0), .sc (.int .i64 0), .sc (.slice none 0 0), .sc (.slice none 0 0)]) 7⟩,
 ⟨none, none, .st 7 (.t 7) (.t 37)⟩,
 ⟨some 8, none, .mv (.t 38)⟩])
 (.seq (.reg [⟨some 39, none, .mv (.t 6)⟩,
 ⟨some 40, none, .mv (.t 8)⟩,
 ⟨some 41, none, .bin .eql false (.t 39) (.t 40) (pu (.binOp .eql 34 (.tmp 39) (.tmp 40) 34) 4)⟩,
 ⟨some 42, none, .mv (.t 41)⟩,
 ⟨some 43, (some ((some 42), true)), .ld (some 7) (.t 5)⟩,
 ⟨some 44, (some ((some 42), true)), .ld (some 7) (.t 7)⟩,
 ⟨some 45, (some ((some 42), true)), .call 9 [(.t 43), (.t 44)]⟩,
 ⟨some 46, none, .pick (.t 42) (.t 45) (.k (.sc (.bool false)))⟩,
 ⟨some 47, none, .mv (.t 46)⟩,
 ⟨some 48, (some ((some 47), true)), .call 6 []⟩,
 ⟨some 49, none, .pick (.t 47) (.t 48) (.k (.sc (.bool false)))⟩,
 ⟨some 4, none, .mv (.t 49)⟩])
 .ret)))))
def k3 : List Nat := [0, 1, 2, 3, 4, 5, 6, 7, 8, 11]
theorem ic3 : factsI Tryz.prog 3 = some (50, [.tmp 4], c3) := by kernel_rfl
def c4 : IC :=
 (.seq (.reg [⟨some 2, none, .bx (.t 0)⟩,
 ⟨some 3, none, .bx (.t 1)⟩,
 ⟨some 4, none, .mv (.k (.sc (.bool false)))⟩])
 (.seq (.seq (.reg [⟨some 9, none, .ld (some 7) (.t 2)⟩,
 ⟨some 10, none, .call 5 [(.t 9)]⟩,
 ⟨some 11, none, .un .not (.t 10) (pu (.unOp .not 4 (.tmp 10)) 4)⟩])
 (.cond (.t 11) (.seq (.reg [⟨some 12, none, .call 6 []⟩,
 ⟨some 4, none, .mv (.t 12)⟩])
 .ret)
 .skip))
 (.seq (.reg [⟨some 14, none, .ld (some 7) (.t 2)⟩,
 ⟨some 15, none, .sh 0 (.t 3)⟩,
 ⟨some 16, none, .ld none (.t 15)⟩,
 ⟨some 17, none, .sh 2 (.t 3)⟩,
 ⟨some 18, none, .ld none (.t 17)⟩,
 ⟨some 19, none, .sh 3 (.t 3)⟩,
 ⟨some 20, none, .ld none (.t 19)⟩,
 ⟨some 21, none, .call 10 [(.t 14), (.t 16), (.t 18), (.t 20)]⟩,
 ⟨some 13, none, .mv (.t 21)⟩,
 ⟨some 22, none, .ext (.t 13) 0⟩,
 ⟨some 23, none, .ext (.t 13) 1⟩,
 ⟨some 5, none, .al (.agg [.sc (.string ⟨#[]⟩), .sc (.string ⟨#[]⟩), .sc (.slice none 0 0), .sc (.slice none 0 0), .sc (.int .i64 0), .sc (.slice none 0 0), .sc (.slice none 0 0)]) 7⟩,
 ⟨none, none, .st 7 (.t 5) (.t 22)⟩,
 ⟨some 6, none, .mv (.t 23)⟩])
 (.seq (.reg [⟨some 25, none, .ld (some 7) (.t 2)⟩,
 ⟨some 26, none, .sh 0 (.t 3)⟩,
 ⟨some 27, none, .ld none (.t 26)⟩,
 ⟨some 28, none, .sh 2 (.t 3)⟩,
 ⟨some 29, none, .ld none (.t 28)⟩,
 ⟨some 30, none, .sh 3 (.t 3)⟩,
 ⟨some 31, none, .ld none (.t 30)⟩,
 ⟨some 32, none, .call 11 [(.t 25), (.t 27), (.t 29), (.t 31)]⟩,
 ⟨some 24, none, .mv (.t 32)⟩,
 ⟨some 33, none, .ext (.t 24) 0⟩,
 ⟨some 34, none, .ext (.t 24) 1⟩,
 ⟨some 7, none, .al (.agg [.sc (.string ⟨#[]⟩), .sc (.string ⟨#[]⟩), .sc (.slice none 0 0), .sc (.slice none 0 0), .sc (.int .i64 0), .sc (.slice none 0 0), .sc (.slice none 0 0)]) 7⟩,
 ⟨none, none, .st 7 (.t 7) (.t 33)⟩,
 ⟨some 8, none, .mv (.t 34)⟩])
 (.seq (.reg [⟨some 35, none, .mv (.t 6)⟩,
 ⟨some 36, none, .mv (.t 8)⟩,
 ⟨some 37, none, .bin .eql false (.t 35) (.t 36) (pu (.binOp .eql 34 (.tmp 35) (.tmp 36) 34) 4)⟩,
 ⟨some 38, none, .mv (.t 37)⟩,
 ⟨some 39, (some ((some 38), true)), .ld (some 7) (.t 5)⟩,
 ⟨some 40, (some ((some 38), true)), .ld (some 7) (.t 7)⟩,
 ⟨some 41, (some ((some 38), true)), .call 9 [(.t 39), (.t 40)]⟩,
 ⟨some 42, none, .pick (.t 38) (.t 41) (.k (.sc (.bool false)))⟩,
 ⟨some 43, none, .mv (.t 42)⟩,
 ⟨some 44, (some ((some 43), true)), .call 6 []⟩,
 ⟨some 45, none, .pick (.t 43) (.t 44) (.k (.sc (.bool false)))⟩,
 ⟨some 4, none, .mv (.t 45)⟩])
 .ret)))))
def k4 : List Nat := [0, 1, 2, 3, 4, 5, 6, 7, 8, 11]
theorem ic4 : factsI Tryz.prog 4 = some (46, [.tmp 4], c4) := by kernel_rfl
def c5 : IC :=
 (.seq (.reg [⟨some 1, none, .bx (.t 0)⟩,
 ⟨some 2, none, .mv (.k (.sc (.bool false)))⟩])
 (.seq (.seq (.reg [⟨some 5, none, .sh 5 (.t 1)⟩,
 ⟨some 6, none, .ld none (.t 5)⟩,
 ⟨some 7, none, .len (.t 6) (pu (.call ⟨.builtin .len, #[(.tmp 6)], #[26]⟩) 3)⟩,
 ⟨some 8, none, .bin .gtr false (.t 7) (.k (.sc (.int .i64 260))) (pu (.binOp .gtr 3 (.tmp 7) (.const (.int .i64 260)) 3) 4)⟩,
 ⟨some 9, none, .mv (.t 8)⟩,
 ⟨some 10, (some ((some 9), false)), .sh 6 (.t 1)⟩,
 ⟨some 11, (some ((some 9), false)), .ld none (.t 10)⟩,
 ⟨some 12, (some ((some 9), false)), .len (.t 11) (pu (.call ⟨.builtin .len, #[(.tmp 11)], #[27]⟩) 3)⟩,
 ⟨some 13, (some ((some 9), false)), .bin .gtr false (.t 12) (.k (.sc (.int .i64 260))) (pu (.binOp .gtr 3 (.tmp 12) (.const (.int .i64 260)) 3) 4)⟩,
 ⟨some 14, none, .pick (.t 9) (.k (.sc (.bool true))) (.t 13)⟩,
 ⟨some 15, none, .mv (.t 14)⟩,
 ⟨some 16, (some ((some 15), false)), .sh 1 (.t 1)⟩,
 ⟨some 17, (some ((some 15), false)), .sh 1 (.t 16)⟩,
 ⟨some 18, (some ((some 15), false)), .ld none (.t 17)⟩,
 ⟨some 19, (some ((some 15), false)), .len (.t 18) (pu (.call ⟨.builtin .len, #[(.tmp 18)], #[22]⟩) 3)⟩,
 ⟨some 20, (some ((some 15), false)), .bin .gtr false (.t 19) (.k (.sc (.int .i64 40))) (pu (.binOp .gtr 3 (.tmp 19) (.const (.int .i64 40)) 3) 4)⟩,
 ⟨some 21, none, .pick (.t 15) (.k (.sc (.bool true))) (.t 20)⟩,
 ⟨some 22, none, .mv (.t 21)⟩,
 ⟨some 23, (some ((some 22), false)), .sh 1 (.t 1)⟩,
 ⟨some 24, (some ((some 22), false)), .sh 2 (.t 23)⟩,
 ⟨some 25, (some ((some 22), false)), .ld none (.t 24)⟩,
 ⟨some 26, (some ((some 22), false)), .len (.t 25) (pu (.call ⟨.builtin .len, #[(.tmp 25)], #[23]⟩) 3)⟩,
 ⟨some 27, (some ((some 22), false)), .bin .gtr false (.t 26) (.k (.sc (.int .i64 40))) (pu (.binOp .gtr 3 (.tmp 26) (.const (.int .i64 40)) 3) 4)⟩,
 ⟨some 28, none, .pick (.t 22) (.k (.sc (.bool true))) (.t 27)⟩])
 (.cond (.t 28) (.seq (.reg [⟨some 2, none, .mv (.k (.sc (.bool false)))⟩])
 .ret)
 .skip))
 (.seq (.seq (.reg [⟨some 29, none, .sh 5 (.t 1)⟩,
 ⟨some 30, none, .ld none (.t 29)⟩,
 ⟨some 31, none, .len (.t 30) (pu (.call ⟨.builtin .len, #[(.tmp 30)], #[26]⟩) 3)⟩,
 ⟨some 32, none, .mv (.k (.sc (.int .i64 0)))⟩])
 (.block 0 (.loop (.seq (.reg [⟨some 33, none, .bin .lss false (.t 32) (.t 31) (pu (.binOp .lss 3 (.tmp 32) (.tmp 31) 3) 0)⟩])
 (.seq (.cond (.t 33) .skip
 (.exit 0))
 (.seq (.block 1 (.seq (.reg [⟨some 34, none, .mv (.t 32)⟩,
 ⟨some 3, none, .mv (.t 34)⟩])
 (.seq (.reg [⟨some 35, none, .sh 5 (.t 1)⟩,
 ⟨some 36, none, .ld none (.t 35)⟩,
 ⟨some 37, none, .mv (.t 3)⟩,
 ⟨some 38, none, .ixs 14 (.t 36) (.t 37)⟩,
 ⟨some 39, none, .sh 10 (.t 38)⟩,
 ⟨some 40, none, .ld none (.t 39)⟩,
 ⟨some 41, none, .len (.t 40) (pu (.call ⟨.builtin .len, #[(.tmp 40)], #[40]⟩) 3)⟩,
 ⟨some 42, none, .bin .gtr false (.t 41) (.k (.sc (.int .i64 40))) (pu (.binOp .gtr 3 (.tmp 41) (.const (.int .i64 40)) 3) 4)⟩])
 (.cond (.t 42) (.seq (.reg [⟨some 2, none, .mv (.k (.sc (.bool false)))⟩])
 .ret)
 .skip))))
 (.reg [⟨some 43, none, .bin .add false (.t 32) (.k (.sc (.int .i64 1))) (pu (.binOp .add 3 (.tmp 32) (.const (.int .i64 1)) 3) 3)⟩,
 ⟨some 32, none, .mv (.t 43)⟩])))))))
 (.seq (.seq (.reg [⟨some 44, none, .sh 1 (.t 1)⟩,
 ⟨some 45, none, .sh 1 (.t 44)⟩,
 ⟨some 46, none, .ld none (.t 45)⟩,
 ⟨some 47, none, .len (.t 46) (pu (.call ⟨.builtin .len, #[(.tmp 46)], #[22]⟩) 3)⟩,
 ⟨some 48, none, .mv (.k (.sc (.int .i64 0)))⟩])
 (.block 2 (.loop (.seq (.reg [⟨some 49, none, .bin .lss false (.t 48) (.t 47) (pu (.binOp .lss 3 (.tmp 48) (.tmp 47) 3) 0)⟩])
 (.seq (.cond (.t 49) .skip
 (.exit 2))
 (.seq (.block 3 (.seq (.reg [⟨some 50, none, .mv (.t 48)⟩,
 ⟨some 4, none, .mv (.t 50)⟩])
 (.seq (.reg [⟨some 51, none, .sh 1 (.t 1)⟩,
 ⟨some 52, none, .sh 1 (.t 51)⟩,
 ⟨some 53, none, .ld none (.t 52)⟩,
 ⟨some 54, none, .mv (.t 4)⟩,
 ⟨some 55, none, .ixs 6 (.t 53) (.t 54)⟩,
 ⟨some 56, none, .sh 5 (.t 55)⟩,
 ⟨some 57, none, .ld none (.t 56)⟩,
 ⟨some 58, none, .len (.t 57) (pu (.call ⟨.builtin .len, #[(.tmp 57)], #[43]⟩) 3)⟩,
 ⟨some 59, none, .bin .gtr false (.t 58) (.k (.sc (.int .i64 500))) (pu (.binOp .gtr 3 (.tmp 58) (.const (.int .i64 500)) 3) 4)⟩])
 (.cond (.t 59) (.seq (.reg [⟨some 2, none, .mv (.k (.sc (.bool false)))⟩])
 .ret)
 .skip))))
 (.reg [⟨some 60, none, .bin .add false (.t 48) (.k (.sc (.int .i64 1))) (pu (.binOp .add 3 (.tmp 48) (.const (.int .i64 1)) 3) 3)⟩,
 ⟨some 48, none, .mv (.t 60)⟩])))))))
 (.seq (.reg [⟨some 2, none, .mv (.k (.sc (.bool true)))⟩])
 .ret)))))
def k5 : List Nat := [0, 1, 2, 3, 4, 28, 31, 32, 33, 42, 47, 48, 49, 59]
theorem ic5 : factsI Tryz.prog 5 = some (61, [.tmp 2], c5) := by kernel_rfl
def c6 : IC :=
 (.seq (.reg [⟨some 0, none, .mv (.k (.sc (.bool false)))⟩])
 (.seq (.reg [⟨some 23, none, .call 12 [(.k (.sc (.string ⟨#[65]⟩)))]⟩,
 ⟨some 22, none, .mv (.t 23)⟩,
 ⟨some 24, none, .ext (.t 22) 0⟩,
 ⟨some 25, none, .ext (.t 22) 1⟩,
 ⟨some 1, none, .al (.agg [.sc (.string ⟨#[]⟩), .sc (.string ⟨#[]⟩), .sc (.slice none 0 0), .sc (.slice none 0 0), .sc (.int .i64 0), .sc (.slice none 0 0), .sc (.slice none 0 0)]) 7⟩,
 ⟨none, none, .st 7 (.t 1) (.t 24)⟩,
 ⟨some 2, none, .mv (.t 25)⟩])
 (.seq (.reg [⟨some 27, none, .call 12 [(.k (.sc (.string ⟨#[66]⟩)))]⟩,
 ⟨some 26, none, .mv (.t 27)⟩,
 ⟨some 28, none, .ext (.t 26) 0⟩,
 ⟨some 29, none, .ext (.t 26) 1⟩,
 ⟨some 3, none, .al (.agg [.sc (.string ⟨#[]⟩), .sc (.string ⟨#[]⟩), .sc (.slice none 0 0), .sc (.slice none 0 0), .sc (.int .i64 0), .sc (.slice none 0 0), .sc (.slice none 0 0)]) 7⟩,
 ⟨none, none, .st 7 (.t 3) (.t 28)⟩,
 ⟨some 4, none, .mv (.t 29)⟩])
 (.seq (.reg [⟨some 31, none, .call 12 [(.k (.sc (.string ⟨#[]⟩)))]⟩,
 ⟨some 30, none, .mv (.t 31)⟩,
 ⟨some 32, none, .ext (.t 30) 0⟩,
 ⟨some 33, none, .ext (.t 30) 1⟩,
 ⟨some 5, none, .al (.agg [.sc (.string ⟨#[]⟩), .sc (.string ⟨#[]⟩), .sc (.slice none 0 0), .sc (.slice none 0 0), .sc (.int .i64 0), .sc (.slice none 0 0), .sc (.slice none 0 0)]) 7⟩,
 ⟨none, none, .st 7 (.t 5) (.t 32)⟩,
 ⟨some 6, none, .mv (.t 33)⟩])
 (.seq (.seq (.reg [⟨some 34, none, .mv (.t 2)⟩,
 ⟨some 35, none, .bin .neq false (.t 34) (.k (.sc (.int .i64 0))) (pu (.binOp .neq 34 (.tmp 34) (.const (.int .i64 0)) 34) 4)⟩,
 ⟨some 36, none, .mv (.t 35)⟩,
 ⟨some 37, (some ((some 36), false)), .mv (.t 4)⟩,
 ⟨some 38, (some ((some 36), false)), .bin .neq false (.t 37) (.k (.sc (.int .i64 0))) (pu (.binOp .neq 34 (.tmp 37) (.const (.int .i64 0)) 34) 4)⟩,
 ⟨some 39, none, .pick (.t 36) (.k (.sc (.bool true))) (.t 38)⟩,
 ⟨some 40, none, .mv (.t 39)⟩,
 ⟨some 41, (some ((some 40), false)), .mv (.t 6)⟩,
 ⟨some 42, (some ((some 40), false)), .bin .neq false (.t 41) (.k (.sc (.int .i64 4))) (pu (.binOp .neq 34 (.tmp 41) (.const (.int .i64 4)) 34) 4)⟩,
 ⟨some 43, none, .pick (.t 40) (.k (.sc (.bool true))) (.t 42)⟩,
 ⟨some 44, none, .mv (.t 43)⟩,
 ⟨some 45, (some ((some 44), false)), .ld (some 7) (.t 1)⟩,
 ⟨some 46, (some ((some 44), false)), .ld (some 7) (.t 3)⟩,
 ⟨some 47, (some ((some 44), false)), .call 13 [(.t 45), (.t 46)]⟩,
 ⟨some 48, (some ((some 44), false)), .un .not (.t 47) (pu (.unOp .not 4 (.tmp 47)) 4)⟩,
 ⟨some 49, none, .pick (.t 44) (.k (.sc (.bool true))) (.t 48)⟩,
 ⟨some 50, none, .mv (.t 49)⟩,
 ⟨some 51, (some ((some 50), false)), .ld (some 7) (.t 1)⟩,
 ⟨some 52, (some ((some 50), false)), .call 14 [(.t 51)]⟩,
 ⟨some 53, (some ((some 50), false)), .bin .neq false (.t 52) (.k (.sc (.int .i64 0))) (pu (.binOp .neq 34 (.tmp 52) (.const (.int .i64 0)) 34) 4)⟩,
 ⟨some 54, none, .pick (.t 50) (.k (.sc (.bool true))) (.t 53)⟩])
 (.cond (.t 54) (.seq (.reg [⟨some 0, none, .mv (.k (.sc (.bool false)))⟩])
 .ret)
 .skip))
 (.seq (.drw [0, 0, 3, 7, 15, 15, 0, 95, 255] [⟨some 56, none, .ld (some 7) (.t 1)⟩,
 ⟨some 57, none, .call 16 [(.k (.sc (.string ⟨#[99, 49]⟩))), (.k (.sc (.string ⟨#[65]⟩))), (.k (.sc (.string ⟨#[66]⟩)))]⟩,
 ⟨some 58, none, .call 15 [(.t 56), (.t 57)]⟩,
 ⟨some 55, none, .mv (.t 58)⟩,
 ⟨some 59, none, .ext (.t 55) 0⟩,
 ⟨some 60, none, .ext (.t 55) 1⟩,
 ⟨some 7, none, .al (.agg [.sc (.string ⟨#[]⟩), .sc (.string ⟨#[]⟩), .sc (.slice none 0 0), .sc (.slice none 0 0), .sc (.int .i64 0), .sc (.slice none 0 0), .sc (.slice none 0 0)]) 7⟩,
 ⟨none, none, .st 7 (.t 7) (.t 59)⟩,
 ⟨some 8, none, .mv (.t 60)⟩])
 (.seq (.drw [0, 0, 3, 7, 15, 15, 0, 95, 255] [⟨some 62, none, .ld (some 7) (.t 1)⟩,
 ⟨some 63, none, .call 16 [(.k (.sc (.string ⟨#[99, 49]⟩))), (.k (.sc (.string ⟨#[66]⟩))), (.k (.sc (.string ⟨#[65]⟩)))]⟩,
 ⟨some 64, none, .call 15 [(.t 62), (.t 63)]⟩,
 ⟨some 61, none, .mv (.t 64)⟩,
 ⟨some 65, none, .ext (.t 61) 0⟩,
 ⟨some 66, none, .ext (.t 61) 1⟩,
 ⟨some 9, none, .al (.agg [.sc (.string ⟨#[]⟩), .sc (.string ⟨#[]⟩), .sc (.slice none 0 0), .sc (.slice none 0 0), .sc (.int .i64 0), .sc (.slice none 0 0), .sc (.slice none 0 0)]) 7⟩,
 ⟨none, none, .st 7 (.t 9) (.t 65)⟩,
 ⟨some 10, none, .mv (.t 66)⟩])
 (.seq (.reg [⟨some 68, none, .ld (some 7) (.t 7)⟩,
 ⟨some 69, none, .ld (some 7) (.t 3)⟩,
 ⟨some 70, none, .call 17 [(.t 68), (.t 69)]⟩,
 ⟨some 67, none, .mv (.t 70)⟩,
 ⟨some 71, none, .ext (.t 67) 0⟩,
 ⟨some 72, none, .ext (.t 67) 1⟩,
 ⟨some 73, none, .ext (.t 67) 2⟩,
 ⟨some 11, none, .al (.agg [.sc (.string ⟨#[]⟩), .sc (.string ⟨#[]⟩), .sc (.slice none 0 0), .sc (.slice none 0 0), .sc (.int .i64 0), .sc (.slice none 0 0), .sc (.slice none 0 0)]) 7⟩,
 ⟨some 12, none, .al (.agg [.sc (.string ⟨#[]⟩), .sc (.string ⟨#[]⟩), .sc (.slice none 0 0), .sc (.slice none 0 0), .sc (.int .i64 0), .sc (.slice none 0 0), .sc (.slice none 0 0)]) 7⟩,
 ⟨none, none, .st 7 (.t 11) (.t 71)⟩,
 ⟨none, none, .st 7 (.t 12) (.t 72)⟩,
 ⟨some 13, none, .mv (.t 73)⟩])
 (.seq (.seq (.reg [⟨some 74, none, .mv (.t 8)⟩,
 ⟨some 75, none, .bin .neq false (.t 74) (.k (.sc (.int .i64 0))) (pu (.binOp .neq 34 (.tmp 74) (.const (.int .i64 0)) 34) 4)⟩,
 ⟨some 76, none, .mv (.t 75)⟩,
 ⟨some 77, (some ((some 76), false)), .mv (.t 10)⟩,
 ⟨some 78, (some ((some 76), false)), .bin .neq false (.t 77) (.k (.sc (.int .i64 15))) (pu (.binOp .neq 34 (.tmp 77) (.const (.int .i64 15)) 34) 4)⟩,
 ⟨some 79, none, .pick (.t 76) (.k (.sc (.bool true))) (.t 78)⟩,
 ⟨some 80, none, .mv (.t 79)⟩,
 ⟨some 81, (some ((some 80), false)), .mv (.t 13)⟩,
 ⟨some 82, (some ((some 80), false)), .bin .neq false (.t 81) (.k (.sc (.int .i64 0))) (pu (.binOp .neq 34 (.tmp 81) (.const (.int .i64 0)) 34) 4)⟩,
 ⟨some 83, none, .pick (.t 80) (.k (.sc (.bool true))) (.t 82)⟩,
 ⟨some 84, none, .mv (.t 83)⟩,
 ⟨some 85, (some ((some 84), false)), .sh 5 (.t 11)⟩,
 ⟨some 86, (some ((some 84), false)), .ld none (.t 85)⟩,
 ⟨some 87, (some ((some 84), false)), .len (.t 86) (pu (.call ⟨.builtin .len, #[(.tmp 86)], #[26]⟩) 3)⟩,
 ⟨some 88, (some ((some 84), false)), .bin .neq false (.t 87) (.k (.sc (.int .i64 1))) (pu (.binOp .neq 3 (.tmp 87) (.const (.int .i64 1)) 3) 4)⟩,
 ⟨some 89, none, .pick (.t 84) (.k (.sc (.bool true))) (.t 88)⟩,
 ⟨some 90, none, .mv (.t 89)⟩,
 ⟨some 91, (some ((some 90), false)), .sh 5 (.t 12)⟩,
 ⟨some 92, (some ((some 90), false)), .ld none (.t 91)⟩,
 ⟨some 93, (some ((some 90), false)), .len (.t 92) (pu (.call ⟨.builtin .len, #[(.tmp 92)], #[26]⟩) 3)⟩,
 ⟨some 94, (some ((some 90), false)), .bin .neq false (.t 93) (.k (.sc (.int .i64 1))) (pu (.binOp .neq 3 (.tmp 93) (.const (.int .i64 1)) 3) 4)⟩,
 ⟨some 95, none, .pick (.t 90) (.k (.sc (.bool true))) (.t 94)⟩,
 ⟨some 96, none, .mv (.t 95)⟩,
 ⟨some 97, (some ((some 96), false)), .sh 5 (.t 12)⟩,
 ⟨some 98, (some ((some 96), false)), .ld none (.t 97)⟩,
 ⟨some 99, (some ((some 96), false)), .ixs 14 (.t 98) (.k (.sc (.int .i64 0)))⟩,
 ⟨some 100, (some ((some 96), false)), .sh 0 (.t 99)⟩,
 ⟨some 101, (some ((some 96), false)), .ld none (.t 100)⟩,
 ⟨some 102, (some ((some 96), false)), .bin .neq false (.t 101) (.k (.sc (.string ⟨#[99, 49]⟩))) (pu (.binOp .neq 9 (.tmp 101) (.const (.string ⟨#[99, 49]⟩)) 9) 4)⟩,
 ⟨some 103, none, .pick (.t 96) (.k (.sc (.bool true))) (.t 102)⟩,
 ⟨some 104, none, .mv (.t 103)⟩,
 ⟨some 105, (some ((some 104), false)), .ld (some 7) (.t 7)⟩,
 ⟨some 106, (some ((some 104), false)), .ld (some 7) (.t 3)⟩,
 ⟨some 107, (some ((some 104), false)), .call 13 [(.t 105), (.t 106)]⟩,
 ⟨some 108, none, .pick (.t 104) (.k (.sc (.bool true))) (.t 107)⟩,
 ⟨some 109, none, .mv (.t 108)⟩,
 ⟨some 110, (some ((some 109), false)), .ld (some 7) (.t 11)⟩,
 ⟨some 111, (some ((some 109), false)), .ld (some 7) (.t 12)⟩,
 ⟨some 112, (some ((some 109), false)), .call 13 [(.t 110), (.t 111)]⟩,
 ⟨some 113, (some ((some 109), false)), .un .not (.t 112) (pu (.unOp .not 4 (.tmp 112)) 4)⟩,
 ⟨some 114, none, .pick (.t 109) (.k (.sc (.bool true))) (.t 113)⟩])
 (.cond (.t 114) (.seq (.reg [⟨some 0, none, .mv (.k (.sc (.bool false)))⟩])
 .ret)
 .skip))
 (.seq (.reg [⟨some 115, none, .call 16 [(.k (.sc (.string ⟨#[99, 49]⟩))), (.k (.sc (.string ⟨#[65]⟩))), (.k (.sc (.string ⟨#[66]⟩)))]⟩,
 ⟨some 14, none, .al (.agg [.sc (.string ⟨#[]⟩), .sc (.string ⟨#[]⟩), .sc (.string ⟨#[]⟩), .sc (.string ⟨#[]⟩), .sc (.int .i64 0), .sc (.int .i64 0), .sc (.int .i64 0), .sc (.int .i64 0), .sc (.string ⟨#[]⟩), .sc (.string ⟨#[]⟩), .sc (.slice none 0 0), .sc (.int .i64 0), .sc (.bool false), .sc (.string ⟨#[]⟩)]) 14⟩,
 ⟨none, none, .st 14 (.t 14) (.t 115)⟩])
 (.seq (.reg [⟨some 116, none, .sh 3 (.t 14)⟩,
 ⟨none, none, .st 1 (.t 116) (.k (.sc (.string ⟨#[83, 45, 50]⟩)))⟩])
 (.seq (.reg [⟨some 118, none, .ld (some 7) (.t 1)⟩,
 ⟨some 119, none, .ld (some 14) (.t 14)⟩,
 ⟨some 120, none, .call 15 [(.t 118), (.t 119)]⟩,
 ⟨some 117, none, .mv (.t 120)⟩,
 ⟨some 121, none, .ext (.t 117) 0⟩,
 ⟨some 122, none, .ext (.t 117) 1⟩,
 ⟨some 15, none, .al (.agg [.sc (.string ⟨#[]⟩), .sc (.string ⟨#[]⟩), .sc (.slice none 0 0), .sc (.slice none 0 0), .sc (.int .i64 0), .sc (.slice none 0 0), .sc (.slice none 0 0)]) 7⟩,
 ⟨none, none, .st 7 (.t 15) (.t 121)⟩,
 ⟨some 16, none, .mv (.t 122)⟩])
 (.seq (.reg [⟨some 124, none, .ld (some 7) (.t 15)⟩,
 ⟨some 125, none, .ld (some 7) (.t 12)⟩,
 ⟨some 126, none, .call 17 [(.t 124), (.t 125)]⟩,
 ⟨some 123, none, .mv (.t 126)⟩,
 ⟨some 127, none, .ext (.t 123) 0⟩,
 ⟨some 128, none, .ext (.t 123) 1⟩,
 ⟨some 129, none, .ext (.t 123) 2⟩,
 ⟨some 17, none, .al (.agg [.sc (.string ⟨#[]⟩), .sc (.string ⟨#[]⟩), .sc (.slice none 0 0), .sc (.slice none 0 0), .sc (.int .i64 0), .sc (.slice none 0 0), .sc (.slice none 0 0)]) 7⟩,
 ⟨some 18, none, .al (.agg [.sc (.string ⟨#[]⟩), .sc (.string ⟨#[]⟩), .sc (.slice none 0 0), .sc (.slice none 0 0), .sc (.int .i64 0), .sc (.slice none 0 0), .sc (.slice none 0 0)]) 7⟩,
 ⟨none, none, .st 7 (.t 17) (.t 127)⟩,
 ⟨none, none, .st 7 (.t 18) (.t 128)⟩,
 ⟨some 19, none, .mv (.t 129)⟩])
 (.seq (.reg [⟨some 131, none, .ld (some 7) (.t 12)⟩,
 ⟨some 132, none, .call 7 [(.t 131), (.k (.sc (.string ⟨#[99, 49]⟩))), (.k (.sc (.int .i64 1))), (.k (.sc (.int .i64 0))), (.k (.sc (.int .i64 0)))]⟩,
 ⟨some 130, none, .mv (.t 132)⟩,
 ⟨some 133, none, .ext (.t 130) 0⟩,
 ⟨some 134, none, .ext (.t 130) 1⟩,
 ⟨some 20, none, .al (.agg [.sc (.string ⟨#[]⟩), .sc (.string ⟨#[]⟩), .sc (.slice none 0 0), .sc (.slice none 0 0), .sc (.int .i64 0), .sc (.slice none 0 0), .sc (.slice none 0 0)]) 7⟩,
 ⟨none, none, .st 7 (.t 20) (.t 133)⟩,
 ⟨some 21, none, .mv (.t 134)⟩])
 (.seq (.reg [⟨some 135, none, .mv (.t 19)⟩,
 ⟨some 136, none, .bin .eql false (.t 135) (.k (.sc (.int .i64 23))) (pu (.binOp .eql 34 (.tmp 135) (.const (.int .i64 23)) 34) 4)⟩,
 ⟨some 137, none, .mv (.t 136)⟩,
 ⟨some 138, (some ((some 137), true)), .mv (.t 21)⟩,
 ⟨some 139, (some ((some 137), true)), .bin .eql false (.t 138) (.k (.sc (.int .i64 8))) (pu (.binOp .eql 34 (.tmp 138) (.const (.int .i64 8)) 34) 4)⟩,
 ⟨some 140, none, .pick (.t 137) (.t 139) (.k (.sc (.bool false)))⟩,
 ⟨some 0, none, .mv (.t 140)⟩])
 .ret)))))))))))))))
def k6 : List Nat := [0, 1, 2, 3, 4, 6, 7, 8, 10, 11, 12, 13, 14, 15, 19, 21, 54, 114]
theorem ic6 : factsI Tryz.prog 6 = some (141, [.tmp 0], c6) := by kernel_rfl
def c7 : IC :=
 (.seq (.reg [⟨some 5, none, .bx (.t 0)⟩,
 ⟨some 10, none, .al (.agg [.sc (.string ⟨#[]⟩), .sc (.string ⟨#[]⟩), .sc (.slice none 0 0), .sc (.slice none 0 0), .sc (.int .i64 0), .sc (.slice none 0 0), .sc (.slice none 0 0)]) 7⟩,
 ⟨some 11, none, .mv (.k (.sc (.int .i64 0)))⟩])
 (.seq (.seq (.reg [⟨some 17, none, .ld (some 7) (.t 5)⟩,
 ⟨some 18, none, .call 14 [(.t 17)]⟩,
 ⟨some 12, none, .mv (.t 18)⟩])
 (.seq (.reg [⟨some 19, none, .mv (.t 12)⟩,
 ⟨some 20, none, .bin .neq false (.t 19) (.k (.sc (.int .i64 0))) (pu (.binOp .neq 34 (.tmp 19) (.const (.int .i64 0)) 34) 4)⟩])
 (.cond (.t 20) (.seq (.reg [⟨some 21, none, .ld (some 7) (.t 5)⟩,
 ⟨some 22, none, .mv (.t 12)⟩,
 ⟨none, none, .st 7 (.t 10) (.t 21)⟩,
 ⟨some 11, none, .mv (.t 22)⟩])
 .ret)
 .skip)))
 (.seq (.reg [⟨some 23, none, .ld (some 7) (.t 5)⟩,
 ⟨some 24, none, .mv (.t 1)⟩,
 ⟨some 25, none, .call 18 [(.t 23), (.t 24)]⟩,
 ⟨some 13, none, .mv (.t 25)⟩])
 (.seq (.seq (.reg [⟨some 26, none, .mv (.t 13)⟩,
 ⟨some 27, none, .bin .lss false (.t 26) (.k (.sc (.int .i64 0))) (pu (.binOp .lss 3 (.tmp 26) (.const (.int .i64 0)) 3) 4)⟩])
 (.cond (.t 27) (.seq (.reg [⟨some 28, none, .ld (some 7) (.t 5)⟩,
 ⟨none, none, .st 7 (.t 10) (.t 28)⟩,
 ⟨some 11, none, .mv (.k (.sc (.int .i64 8)))⟩])
 .ret)
 .skip))
 (.seq (.drw [0, 1, 0, 7, 15, 0, 32, 0, 0, 0, 1023, 2047, 4095, 4095, 0, 24575, 65535] [⟨some 30, none, .sh 6 (.t 5)⟩,
 ⟨some 31, none, .ld none (.t 30)⟩,
 ⟨some 32, none, .mv (.t 13)⟩,
 ⟨some 33, none, .ixs 6 (.t 31) (.t 32)⟩,
 ⟨some 34, none, .ld (some 6) (.t 33)⟩,
 ⟨some 35, none, .sh 0 (.t 5)⟩,
 ⟨some 36, none, .ld none (.t 35)⟩,
 ⟨some 37, none, .mv (.t 2)⟩,
 ⟨some 38, none, .mv (.t 3)⟩,
 ⟨some 39, none, .mv (.t 4)⟩,
 ⟨some 40, none, .call 19 [(.t 34), (.t 36), (.t 37), (.t 38), (.t 39)]⟩,
 ⟨some 29, none, .mv (.t 40)⟩,
 ⟨some 41, none, .ext (.t 29) 0⟩,
 ⟨some 42, none, .ext (.t 29) 1⟩,
 ⟨some 14, none, .al (.agg [.sc (.string ⟨#[]⟩), .sc (.string ⟨#[]⟩), .sc (.int .i64 0), .sc (.int .i64 0), .sc (.int .i64 0), .sc (.int .i64 0)]) 6⟩,
 ⟨none, none, .st 6 (.t 14) (.t 41)⟩,
 ⟨some 15, none, .mv (.t 42)⟩])
 (.seq (.seq (.reg [⟨some 43, none, .mv (.t 15)⟩,
 ⟨some 44, none, .bin .neq false (.t 43) (.k (.sc (.int .i64 0))) (pu (.binOp .neq 34 (.tmp 43) (.const (.int .i64 0)) 34) 4)⟩])
 (.cond (.t 44) (.seq (.reg [⟨some 45, none, .ld (some 7) (.t 5)⟩,
 ⟨some 46, none, .mv (.t 15)⟩,
 ⟨none, none, .st 7 (.t 10) (.t 45)⟩,
 ⟨some 11, none, .mv (.t 46)⟩])
 .ret)
 .skip))
 (.seq (.reg [⟨some 47, none, .ld (some 7) (.t 5)⟩,
 ⟨some 48, none, .call 20 [(.t 47)]⟩,
 ⟨some 16, none, .al (.agg [.sc (.string ⟨#[]⟩), .sc (.string ⟨#[]⟩), .sc (.slice none 0 0), .sc (.slice none 0 0), .sc (.int .i64 0), .sc (.slice none 0 0), .sc (.slice none 0 0)]) 7⟩,
 ⟨none, none, .st 7 (.t 16) (.t 48)⟩])
 (.seq (.reg [⟨some 49, none, .sh 6 (.t 16)⟩,
 ⟨some 50, none, .ld none (.t 49)⟩,
 ⟨some 51, none, .mv (.t 13)⟩,
 ⟨some 52, none, .ld (some 6) (.t 14)⟩,
 ⟨some 53, none, .ixs 6 (.t 50) (.t 51)⟩,
 ⟨none, none, .st 6 (.t 53) (.t 52)⟩])
 (.seq (.reg [⟨some 54, none, .ld (some 7) (.t 16)⟩,
 ⟨none, none, .st 7 (.t 10) (.t 54)⟩,
 ⟨some 11, none, .mv (.k (.sc (.int .i64 0)))⟩])
 .ret)))))))))
def k7 : List Nat := [0, 1, 2, 3, 4, 5, 10, 11, 12, 13, 14, 15, 16, 20, 27, 44]
theorem ic7 : factsI Tryz.prog 7 = some (55, [.cell 10 29, .tmp 11], c7) := by kernel_rfl
def c8 : IC :=
 (.seq (.reg [⟨some 5, none, .bx (.t 0)⟩,
 ⟨some 10, none, .al (.agg [.sc (.string ⟨#[]⟩), .sc (.string ⟨#[]⟩), .sc (.slice none 0 0), .sc (.slice none 0 0), .sc (.int .i64 0), .sc (.slice none 0 0), .sc (.slice none 0 0)]) 7⟩,
 ⟨some 11, none, .mv (.k (.sc (.int .i64 0)))⟩])
 (.seq (.seq (.reg [⟨some 16, none, .ld (some 7) (.t 5)⟩,
 ⟨some 17, none, .call 21 [(.t 16)]⟩,
 ⟨some 12, none, .mv (.t 17)⟩])
 (.seq (.reg [⟨some 18, none, .mv (.t 12)⟩,
 ⟨some 19, none, .bin .neq false (.t 18) (.k (.sc (.int .i64 0))) (pu (.binOp .neq 34 (.tmp 18) (.const (.int .i64 0)) 34) 4)⟩])
 (.cond (.t 19) (.seq (.reg [⟨some 20, none, .ld (some 7) (.t 5)⟩,
 ⟨some 21, none, .mv (.t 12)⟩,
 ⟨none, none, .st 7 (.t 10) (.t 20)⟩,
 ⟨some 11, none, .mv (.t 21)⟩])
 .ret)
 .skip)))
 (.seq (.reg [⟨some 22, none, .sh 6 (.t 5)⟩,
 ⟨some 23, none, .ld none (.t 22)⟩,
 ⟨some 24, none, .mv (.t 1)⟩,
 ⟨some 25, none, .call 22 [(.t 23), (.t 24)]⟩,
 ⟨some 13, none, .mv (.t 25)⟩])
 (.seq (.seq (.reg [⟨some 26, none, .mv (.t 13)⟩,
 ⟨some 27, none, .bin .lss false (.t 26) (.k (.sc (.int .i64 0))) (pu (.binOp .lss 3 (.tmp 26) (.const (.int .i64 0)) 3) 4)⟩])
 (.cond (.t 27) (.seq (.reg [⟨some 28, none, .ld (some 7) (.t 5)⟩,
 ⟨none, none, .st 7 (.t 10) (.t 28)⟩,
 ⟨some 11, none, .mv (.k (.sc (.int .i64 8)))⟩])
 .ret)
 .skip))
 (.seq (.drw [0, 1, 0, 7, 15, 0, 32, 0, 0, 0, 1023, 2047, 4095, 4095, 0, 24575, 65535] [⟨some 30, none, .sh 6 (.t 5)⟩,
 ⟨some 31, none, .ld none (.t 30)⟩,
 ⟨some 32, none, .mv (.t 13)⟩,
 ⟨some 33, none, .ixs 6 (.t 31) (.t 32)⟩,
 ⟨some 34, none, .ld (some 6) (.t 33)⟩,
 ⟨some 35, none, .sh 0 (.t 5)⟩,
 ⟨some 36, none, .ld none (.t 35)⟩,
 ⟨some 37, none, .mv (.t 2)⟩,
 ⟨some 38, none, .mv (.t 3)⟩,
 ⟨some 39, none, .mv (.t 4)⟩,
 ⟨some 40, none, .call 23 [(.t 34), (.t 36), (.t 37), (.t 38), (.t 39)]⟩,
 ⟨some 29, none, .mv (.t 40)⟩,
 ⟨some 41, none, .ext (.t 29) 0⟩,
 ⟨some 42, none, .ext (.t 29) 1⟩,
 ⟨some 14, none, .al (.agg [.sc (.string ⟨#[]⟩), .sc (.string ⟨#[]⟩), .sc (.int .i64 0), .sc (.int .i64 0), .sc (.int .i64 0), .sc (.int .i64 0)]) 6⟩,
 ⟨none, none, .st 6 (.t 14) (.t 41)⟩,
 ⟨some 15, none, .mv (.t 42)⟩])
 (.seq (.seq (.reg [⟨some 43, none, .mv (.t 15)⟩,
 ⟨some 44, none, .bin .neq false (.t 43) (.k (.sc (.int .i64 0))) (pu (.binOp .neq 34 (.tmp 43) (.const (.int .i64 0)) 34) 4)⟩])
 (.cond (.t 44) (.seq (.reg [⟨some 45, none, .ld (some 7) (.t 5)⟩,
 ⟨some 46, none, .mv (.t 15)⟩,
 ⟨none, none, .st 7 (.t 10) (.t 45)⟩,
 ⟨some 11, none, .mv (.t 46)⟩])
 .ret)
 .skip))
 (.seq (.reg [⟨some 47, none, .bsl 6 0 true [] []⟩,
 ⟨some 48, none, .sh 6 (.t 5)⟩,
 ⟨some 49, none, .ld none (.t 48)⟩,
 ⟨some 50, none, .app 6 64 (.t 47) (.t 49)⟩,
 ⟨some 51, none, .sh 6 (.t 5)⟩,
 ⟨none, none, .st 1 (.t 51) (.t 50)⟩])
 (.seq (.reg [⟨some 52, none, .sh 6 (.t 5)⟩,
 ⟨some 53, none, .ld none (.t 52)⟩,
 ⟨some 54, none, .mv (.t 13)⟩,
 ⟨some 55, none, .ld (some 6) (.t 14)⟩,
 ⟨some 56, none, .ixs 6 (.t 53) (.t 54)⟩,
 ⟨none, none, .st 6 (.t 56) (.t 55)⟩])
 (.seq (.reg [⟨some 57, none, .ld (some 7) (.t 5)⟩,
 ⟨none, none, .st 7 (.t 10) (.t 57)⟩,
 ⟨some 11, none, .mv (.k (.sc (.int .i64 0)))⟩])
 .ret)))))))))
def k8 : List Nat := [0, 1, 2, 3, 4, 5, 10, 11, 12, 13, 14, 15, 19, 27, 44]
theorem ic8 : factsI Tryz.prog 8 = some (58, [.cell 10 29, .tmp 11], c8) := by kernel_rfl
def c9 : IC :=
 (.seq (.reg [⟨some 2, none, .bx (.t 0)⟩,
 ⟨some 3, none, .bx (.t 1)⟩,
 ⟨some 4, none, .mv (.k (.sc (.bool false)))⟩])
 (.seq (.seq (.reg [⟨some 7, none, .sh 0 (.t 2)⟩,
 ⟨some 8, none, .ld none (.t 7)⟩,
 ⟨some 9, none, .sh 0 (.t 3)⟩,
 ⟨some 10, none, .ld none (.t 9)⟩,
 ⟨some 11, none, .bin .neq false (.t 8) (.t 10) (pu (.binOp .neq 9 (.tmp 8) (.tmp 10) 9) 4)⟩,
 ⟨some 12, none, .mv (.t 11)⟩,
 ⟨some 13, (some ((some 12), false)), .sh 5 (.t 2)⟩,
 ⟨some 14, (some ((some 12), false)), .ld none (.t 13)⟩,
 ⟨some 15, (some ((some 12), false)), .len (.t 14) (pu (.call ⟨.builtin .len, #[(.tmp 14)], #[26]⟩) 3)⟩,
 ⟨some 16, (some ((some 12), false)), .sh 5 (.t 3)⟩,
 ⟨some 17, (some ((some 12), false)), .ld none (.t 16)⟩,
 ⟨some 18, (some ((some 12), false)), .len (.t 17) (pu (.call ⟨.builtin .len, #[(.tmp 17)], #[26]⟩) 3)⟩,
 ⟨some 19, (some ((some 12), false)), .bin .neq false (.t 15) (.t 18) (pu (.binOp .neq 3 (.tmp 15) (.tmp 18) 3) 4)⟩,
 ⟨some 20, none, .pick (.t 12) (.k (.sc (.bool true))) (.t 19)⟩,
 ⟨some 21, none, .mv (.t 20)⟩,
 ⟨some 22, (some ((some 21), false)), .sh 6 (.t 2)⟩,
 ⟨some 23, (some ((some 21), false)), .ld none (.t 22)⟩,
 ⟨some 24, (some ((some 21), false)), .len (.t 23) (pu (.call ⟨.builtin .len, #[(.tmp 23)], #[27]⟩) 3)⟩,
 ⟨some 25, (some ((some 21), false)), .sh 6 (.t 3)⟩,
 ⟨some 26, (some ((some 21), false)), .ld none (.t 25)⟩,
 ⟨some 27, (some ((some 21), false)), .len (.t 26) (pu (.call ⟨.builtin .len, #[(.tmp 26)], #[27]⟩) 3)⟩,
 ⟨some 28, (some ((some 21), false)), .bin .neq false (.t 24) (.t 27) (pu (.binOp .neq 3 (.tmp 24) (.tmp 27) 3) 4)⟩,
 ⟨some 29, none, .pick (.t 21) (.k (.sc (.bool true))) (.t 28)⟩,
 ⟨some 30, none, .mv (.t 29)⟩,
 ⟨some 31, (some ((some 30), false)), .sh 1 (.t 2)⟩,
 ⟨some 32, (some ((some 30), false)), .ld (some 4) (.t 31)⟩,
 ⟨some 33, (some ((some 30), false)), .sh 1 (.t 3)⟩,
 ⟨some 34, (some ((some 30), false)), .ld (some 4) (.t 33)⟩,
 ⟨some 35, (some ((some 30), false)), .call 24 [(.t 32), (.t 34)]⟩,
 ⟨some 36, (some ((some 30), false)), .un .not (.t 35) (pu (.unOp .not 4 (.tmp 35)) 4)⟩,
 ⟨some 37, none, .pick (.t 30) (.k (.sc (.bool true))) (.t 36)⟩])
 (.cond (.t 37) (.seq (.reg [⟨some 4, none, .mv (.k (.sc (.bool false)))⟩])
 .ret)
 .skip))
 (.seq (.seq (.reg [⟨some 5, none, .mv (.k (.sc (.int .i64 0)))⟩])
 (.block 0 (.loop (.seq (.seq (.reg [⟨some 38, none, .mv (.t 5)⟩,
 ⟨some 39, none, .sh 5 (.t 2)⟩,
 ⟨some 40, none, .ld none (.t 39)⟩,
 ⟨some 41, none, .len (.t 40) (pu (.call ⟨.builtin .len, #[(.tmp 40)], #[26]⟩) 3)⟩,
 ⟨some 42, none, .bin .lss false (.t 38) (.t 41) (pu (.binOp .lss 3 (.tmp 38) (.tmp 41) 3) 4)⟩])
 (.cond (.t 42) .skip
 (.exit 0)))
 (.seq (.block 1 (.seq (.drw [0, 1, 0, 7, 15, 0, 32, 0, 224, 480, 1023, 2047] [⟨some 45, none, .sh 5 (.t 2)⟩,
 ⟨some 46, none, .ld none (.t 45)⟩,
 ⟨some 47, none, .mv (.t 5)⟩,
 ⟨some 48, none, .ixs 14 (.t 46) (.t 47)⟩,
 ⟨some 49, none, .ld (some 14) (.t 48)⟩,
 ⟨some 50, none, .sh 5 (.t 3)⟩,
 ⟨some 51, none, .ld none (.t 50)⟩,
 ⟨some 52, none, .mv (.t 5)⟩,
 ⟨some 53, none, .ixs 14 (.t 51) (.t 52)⟩,
 ⟨some 54, none, .ld (some 14) (.t 53)⟩,
 ⟨some 55, none, .call 25 [(.t 49), (.t 54)]⟩,
 ⟨some 56, none, .un .not (.t 55) (pu (.unOp .not 4 (.tmp 55)) 4)⟩])
 (.cond (.t 56) (.seq (.reg [⟨some 4, none, .mv (.k (.sc (.bool false)))⟩])
 .ret)
 .skip)))
 (.reg [⟨some 43, none, .mv (.t 5)⟩,
 ⟨some 44, none, .bin .add false (.t 43) (.k (.sc (.int .i64 1))) (pu (.binOp .add 3 (.tmp 43) (.const (.int .i64 1)) 3) 3)⟩,
 ⟨some 5, none, .mv (.t 44)⟩]))))))
 (.seq (.seq (.reg [⟨some 6, none, .mv (.k (.sc (.int .i64 0)))⟩])
 (.block 2 (.loop (.seq (.seq (.reg [⟨some 57, none, .mv (.t 6)⟩,
 ⟨some 58, none, .sh 6 (.t 2)⟩,
 ⟨some 59, none, .ld none (.t 58)⟩,
 ⟨some 60, none, .len (.t 59) (pu (.call ⟨.builtin .len, #[(.tmp 59)], #[27]⟩) 3)⟩,
 ⟨some 61, none, .bin .lss false (.t 57) (.t 60) (pu (.binOp .lss 3 (.tmp 57) (.tmp 60) 3) 4)⟩])
 (.cond (.t 61) .skip
 (.exit 2)))
 (.seq (.block 3 (.seq (.drw [0, 1, 0, 7, 15, 0, 32, 0, 224, 480, 1023] [⟨some 64, none, .sh 6 (.t 2)⟩,
 ⟨some 65, none, .ld none (.t 64)⟩,
 ⟨some 66, none, .mv (.t 6)⟩,
 ⟨some 67, none, .ixs 6 (.t 65) (.t 66)⟩,
 ⟨some 68, none, .ld (some 6) (.t 67)⟩,
 ⟨some 69, none, .sh 6 (.t 3)⟩,
 ⟨some 70, none, .ld none (.t 69)⟩,
 ⟨some 71, none, .mv (.t 6)⟩,
 ⟨some 72, none, .ixs 6 (.t 70) (.t 71)⟩,
 ⟨some 73, none, .ld (some 6) (.t 72)⟩,
 ⟨some 74, none, .bin .neq false (.t 68) (.t 73) (pu (.binOp .neq 54 (.tmp 68) (.tmp 73) 54) 4)⟩])
 (.cond (.t 74) (.seq (.reg [⟨some 4, none, .mv (.k (.sc (.bool false)))⟩])
 .ret)
 .skip)))
 (.reg [⟨some 62, none, .mv (.t 6)⟩,
 ⟨some 63, none, .bin .add false (.t 62) (.k (.sc (.int .i64 1))) (pu (.binOp .add 3 (.tmp 62) (.const (.int .i64 1)) 3) 3)⟩,
 ⟨some 6, none, .mv (.t 63)⟩]))))))
 (.seq (.reg [⟨some 4, none, .mv (.k (.sc (.bool true)))⟩])
 .ret)))))
def k9 : List Nat := [0, 1, 2, 3, 4, 5, 6, 37, 42, 56, 61, 74]
theorem ic9 : factsI Tryz.prog 9 = some (75, [.tmp 4], c9) := by kernel_rfl
def c10 : IC :=
 (.seq (.reg [⟨some 4, none, .bx (.t 0)⟩,
 ⟨some 8, none, .al (.agg [.sc (.string ⟨#[]⟩), .sc (.string ⟨#[]⟩), .sc (.slice none 0 0), .sc (.slice none 0 0), .sc (.int .i64 0), .sc (.slice none 0 0), .sc (.slice none 0 0)]) 7⟩,
 ⟨some 9, none, .mv (.k (.sc (.int .i64 0)))⟩])
 (.seq (.seq (.reg [⟨some 15, none, .ld (some 7) (.t 4)⟩,
 ⟨some 16, none, .call 14 [(.t 15)]⟩,
 ⟨some 10, none, .mv (.t 16)⟩])
 (.seq (.reg [⟨some 17, none, .mv (.t 10)⟩,
 ⟨some 18, none, .bin .neq false (.t 17) (.k (.sc (.int .i64 0))) (pu (.binOp .neq 34 (.tmp 17) (.const (.int .i64 0)) 34) 4)⟩])
 (.cond (.t 18) (.seq (.reg [⟨some 19, none, .ld (some 7) (.t 4)⟩,
 ⟨some 20, none, .mv (.t 10)⟩,
 ⟨none, none, .st 7 (.t 8) (.t 19)⟩,
 ⟨some 9, none, .mv (.t 20)⟩])
 .ret)
 .skip)))
 (.seq (.reg [⟨some 21, none, .ld (some 7) (.t 4)⟩,
 ⟨some 22, none, .mv (.t 1)⟩,
 ⟨some 23, none, .call 26 [(.t 21), (.t 22)]⟩,
 ⟨some 11, none, .mv (.t 23)⟩])
 (.seq (.seq (.reg [⟨some 24, none, .mv (.t 11)⟩,
 ⟨some 25, none, .bin .lss false (.t 24) (.k (.sc (.int .i64 0))) (pu (.binOp .lss 3 (.tmp 24) (.const (.int .i64 0)) 3) 4)⟩])
 (.cond (.t 25) (.seq (.reg [⟨some 26, none, .ld (some 7) (.t 4)⟩,
 ⟨none, none, .st 7 (.t 8) (.t 26)⟩,
 ⟨some 9, none, .mv (.k (.sc (.int .i64 8)))⟩])
 .ret)
 .skip))
 (.seq (.seq (.drw [0, 1, 0, 7, 15, 31, 0, 64, 255] [⟨some 27, none, .sh 5 (.t 4)⟩,
 ⟨some 28, none, .ld none (.t 27)⟩,
 ⟨some 29, none, .mv (.t 11)⟩,
 ⟨some 30, none, .ixs 14 (.t 28) (.t 29)⟩,
 ⟨some 31, none, .sh 2 (.t 30)⟩,
 ⟨some 32, none, .ld none (.t 31)⟩,
 ⟨some 33, none, .sh 0 (.t 4)⟩,
 ⟨some 34, none, .ld none (.t 33)⟩,
 ⟨some 35, none, .bin .neq false (.t 32) (.t 34) (pu (.binOp .neq 9 (.tmp 32) (.tmp 34) 9) 4)⟩])
 (.cond (.t 35) (.seq (.reg [⟨some 36, none, .ld (some 7) (.t 4)⟩,
 ⟨none, none, .st 7 (.t 8) (.t 36)⟩,
 ⟨some 9, none, .mv (.k (.sc (.int .i64 15)))⟩])
 .ret)
 .skip))
 (.seq (.drw [0, 1, 0, 7, 15, 0, 32, 0, 0, 511, 1023, 2047, 2047, 0, 12287, 32767] [⟨some 38, none, .sh 5 (.t 4)⟩,
 ⟨some 39, none, .ld none (.t 38)⟩,
 ⟨some 40, none, .mv (.t 11)⟩,
 ⟨some 41, none, .ixs 14 (.t 39) (.t 40)⟩,
 ⟨some 42, none, .ld (some 14) (.t 41)⟩,
 ⟨some 43, none, .sh 0 (.t 4)⟩,
 ⟨some 44, none, .ld none (.t 43)⟩,
 ⟨some 45, none, .mv (.t 2)⟩,
 ⟨some 46, none, .mv (.t 3)⟩,
 ⟨some 47, none, .call 27 [(.t 42), (.t 44), (.t 45), (.t 46)]⟩,
 ⟨some 37, none, .mv (.t 47)⟩,
 ⟨some 48, none, .ext (.t 37) 0⟩,
 ⟨some 49, none, .ext (.t 37) 1⟩,
 ⟨some 12, none, .al (.agg [.sc (.string ⟨#[]⟩), .sc (.string ⟨#[]⟩), .sc (.int .i64 0), .sc (.int .i64 0), .sc (.int .i64 0), .sc (.int .i64 0)]) 6⟩,
 ⟨none, none, .st 6 (.t 12) (.t 48)⟩,
 ⟨some 13, none, .mv (.t 49)⟩])
 (.seq (.seq (.reg [⟨some 50, none, .mv (.t 13)⟩,
 ⟨some 51, none, .bin .neq false (.t 50) (.k (.sc (.int .i64 0))) (pu (.binOp .neq 34 (.tmp 50) (.const (.int .i64 0)) 34) 4)⟩])
 (.cond (.t 51) (.seq (.reg [⟨some 52, none, .ld (some 7) (.t 4)⟩,
 ⟨some 53, none, .mv (.t 13)⟩,
 ⟨none, none, .st 7 (.t 8) (.t 52)⟩,
 ⟨some 9, none, .mv (.t 53)⟩])
 .ret)
 .skip))
 (.seq (.seq (.reg [⟨some 54, none, .ld (some 7) (.t 4)⟩,
 ⟨some 55, none, .mv (.t 1)⟩,
 ⟨some 56, none, .call 18 [(.t 54), (.t 55)]⟩,
 ⟨some 57, none, .bin .geq false (.t 56) (.k (.sc (.int .i64 0))) (pu (.binOp .geq 3 (.tmp 56) (.const (.int .i64 0)) 3) 4)⟩])
 (.cond (.t 57) (.seq (.reg [⟨some 58, none, .ld (some 7) (.t 4)⟩,
 ⟨none, none, .st 7 (.t 8) (.t 58)⟩,
 ⟨some 9, none, .mv (.k (.sc (.int .i64 9)))⟩])
 .ret)
 .skip))
 (.seq (.seq (.reg [⟨some 59, none, .sh 6 (.t 4)⟩,
 ⟨some 60, none, .ld none (.t 59)⟩,
 ⟨some 61, none, .len (.t 60) (pu (.call ⟨.builtin .len, #[(.tmp 60)], #[27]⟩) 3)⟩,
 ⟨some 62, none, .bin .geq false (.t 61) (.k (.sc (.int .i64 256))) (pu (.binOp .geq 3 (.tmp 61) (.const (.int .i64 256)) 3) 4)⟩])
 (.cond (.t 62) (.seq (.reg [⟨some 63, none, .ld (some 7) (.t 4)⟩,
 ⟨none, none, .st 7 (.t 8) (.t 63)⟩,
 ⟨some 9, none, .mv (.k (.sc (.int .i64 3)))⟩])
 .ret)
 .skip))
 (.seq (.reg [⟨some 64, none, .ld (some 7) (.t 4)⟩,
 ⟨some 65, none, .call 20 [(.t 64)]⟩,
 ⟨some 14, none, .al (.agg [.sc (.string ⟨#[]⟩), .sc (.string ⟨#[]⟩), .sc (.slice none 0 0), .sc (.slice none 0 0), .sc (.int .i64 0), .sc (.slice none 0 0), .sc (.slice none 0 0)]) 7⟩,
 ⟨none, none, .st 7 (.t 14) (.t 65)⟩])
 (.seq (.reg [⟨some 66, none, .sh 6 (.t 14)⟩,
 ⟨some 67, none, .ld none (.t 66)⟩,
 ⟨some 68, none, .ld (some 6) (.t 12)⟩,
 ⟨some 69, none, .bsl 6 1 true [.sc (.string ⟨#[]⟩), .sc (.string ⟨#[]⟩), .sc (.int .i64 0), .sc (.int .i64 0), .sc (.int .i64 0), .sc (.int .i64 0)] [(0, 6, (.t 68))]⟩,
 ⟨some 70, none, .app 6 64 (.t 67) (.t 69)⟩,
 ⟨some 71, none, .sh 6 (.t 14)⟩,
 ⟨none, none, .st 1 (.t 71) (.t 70)⟩])
 (.seq (.reg [⟨some 72, none, .ld (some 7) (.t 14)⟩,
 ⟨none, none, .st 7 (.t 8) (.t 72)⟩,
 ⟨some 9, none, .mv (.k (.sc (.int .i64 0)))⟩])
 .ret))))))))))))
def k10 : List Nat := [0, 1, 2, 3, 4, 8, 9, 10, 11, 12, 13, 14, 18, 25, 35, 51, 57, 62]
theorem ic10 : factsI Tryz.prog 10 = some (73, [.cell 8 29, .tmp 9], c10) := by kernel_rfl
def c11 : IC :=
 (.seq (.reg [⟨some 4, none, .bx (.t 0)⟩,
 ⟨some 8, none, .al (.agg [.sc (.string ⟨#[]⟩), .sc (.string ⟨#[]⟩), .sc (.slice none 0 0), .sc (.slice none 0 0), .sc (.int .i64 0), .sc (.slice none 0 0), .sc (.slice none 0 0)]) 7⟩,
 ⟨some 9, none, .mv (.k (.sc (.int .i64 0)))⟩])
 (.seq (.seq (.reg [⟨some 14, none, .ld (some 7) (.t 4)⟩,
 ⟨some 15, none, .call 21 [(.t 14)]⟩,
 ⟨some 10, none, .mv (.t 15)⟩])
 (.seq (.reg [⟨some 16, none, .mv (.t 10)⟩,
 ⟨some 17, none, .bin .neq false (.t 16) (.k (.sc (.int .i64 0))) (pu (.binOp .neq 34 (.tmp 16) (.const (.int .i64 0)) 34) 4)⟩])
 (.cond (.t 17) (.seq (.reg [⟨some 18, none, .ld (some 7) (.t 4)⟩,
 ⟨some 19, none, .mv (.t 10)⟩,
 ⟨none, none, .st 7 (.t 8) (.t 18)⟩,
 ⟨some 9, none, .mv (.t 19)⟩])
 .ret)
 .skip)))
 (.seq (.reg [⟨some 20, none, .sh 5 (.t 4)⟩,
 ⟨some 21, none, .ld none (.t 20)⟩,
 ⟨some 22, none, .mv (.t 1)⟩,
 ⟨some 23, none, .call 28 [(.t 21), (.t 22)]⟩,
 ⟨some 11, none, .mv (.t 23)⟩])
 (.seq (.seq (.reg [⟨some 24, none, .mv (.t 11)⟩,
 ⟨some 25, none, .bin .lss false (.t 24) (.k (.sc (.int .i64 0))) (pu (.binOp .lss 3 (.tmp 24) (.const (.int .i64 0)) 3) 4)⟩])
 (.cond (.t 25) (.seq (.reg [⟨some 26, none, .ld (some 7) (.t 4)⟩,
 ⟨none, none, .st 7 (.t 8) (.t 26)⟩,
 ⟨some 9, none, .mv (.k (.sc (.int .i64 8)))⟩])
 .ret)
 .skip))
 (.seq (.seq (.drw [0, 1, 0, 7, 15, 31, 0, 64, 255] [⟨some 27, none, .sh 5 (.t 4)⟩,
 ⟨some 28, none, .ld none (.t 27)⟩,
 ⟨some 29, none, .mv (.t 11)⟩,
 ⟨some 30, none, .ixs 14 (.t 28) (.t 29)⟩,
 ⟨some 31, none, .sh 2 (.t 30)⟩,
 ⟨some 32, none, .ld none (.t 31)⟩,
 ⟨some 33, none, .sh 0 (.t 4)⟩,
 ⟨some 34, none, .ld none (.t 33)⟩,
 ⟨some 35, none, .bin .neq false (.t 32) (.t 34) (pu (.binOp .neq 9 (.tmp 32) (.tmp 34) 9) 4)⟩])
 (.cond (.t 35) (.seq (.reg [⟨some 36, none, .ld (some 7) (.t 4)⟩,
 ⟨none, none, .st 7 (.t 8) (.t 36)⟩,
 ⟨some 9, none, .mv (.k (.sc (.int .i64 15)))⟩])
 .ret)
 .skip))
 (.seq (.drw [0, 1, 0, 7, 15, 0, 32, 0, 0, 511, 1023, 2047, 2047, 0, 12287, 32767] [⟨some 38, none, .sh 5 (.t 4)⟩,
 ⟨some 39, none, .ld none (.t 38)⟩,
 ⟨some 40, none, .mv (.t 11)⟩,
 ⟨some 41, none, .ixs 14 (.t 39) (.t 40)⟩,
 ⟨some 42, none, .ld (some 14) (.t 41)⟩,
 ⟨some 43, none, .sh 0 (.t 4)⟩,
 ⟨some 44, none, .ld none (.t 43)⟩,
 ⟨some 45, none, .mv (.t 2)⟩,
 ⟨some 46, none, .mv (.t 3)⟩,
 ⟨some 47, none, .call 29 [(.t 42), (.t 44), (.t 45), (.t 46)]⟩,
 ⟨some 37, none, .mv (.t 47)⟩,
 ⟨some 48, none, .ext (.t 37) 0⟩,
 ⟨some 49, none, .ext (.t 37) 1⟩,
 ⟨some 12, none, .al (.agg [.sc (.string ⟨#[]⟩), .sc (.string ⟨#[]⟩), .sc (.int .i64 0), .sc (.int .i64 0), .sc (.int .i64 0), .sc (.int .i64 0)]) 6⟩,
 ⟨none, none, .st 6 (.t 12) (.t 48)⟩,
 ⟨some 13, none, .mv (.t 49)⟩])
 (.seq (.seq (.reg [⟨some 50, none, .mv (.t 13)⟩,
 ⟨some 51, none, .bin .neq false (.t 50) (.k (.sc (.int .i64 0))) (pu (.binOp .neq 34 (.tmp 50) (.const (.int .i64 0)) 34) 4)⟩])
 (.cond (.t 51) (.seq (.reg [⟨some 52, none, .ld (some 7) (.t 4)⟩,
 ⟨some 53, none, .mv (.t 13)⟩,
 ⟨none, none, .st 7 (.t 8) (.t 52)⟩,
 ⟨some 9, none, .mv (.t 53)⟩])
 .ret)
 .skip))
 (.seq (.seq (.reg [⟨some 54, none, .sh 6 (.t 4)⟩,
 ⟨some 55, none, .ld none (.t 54)⟩,
 ⟨some 56, none, .mv (.t 1)⟩,
 ⟨some 57, none, .call 22 [(.t 55), (.t 56)]⟩,
 ⟨some 58, none, .bin .geq false (.t 57) (.k (.sc (.int .i64 0))) (pu (.binOp .geq 3 (.tmp 57) (.const (.int .i64 0)) 3) 4)⟩])
 (.cond (.t 58) (.seq (.reg [⟨some 59, none, .ld (some 7) (.t 4)⟩,
 ⟨none, none, .st 7 (.t 8) (.t 59)⟩,
 ⟨some 9, none, .mv (.k (.sc (.int .i64 9)))⟩])
 .ret)
 .skip))
 (.seq (.seq (.reg [⟨some 60, none, .sh 6 (.t 4)⟩,
 ⟨some 61, none, .ld none (.t 60)⟩,
 ⟨some 62, none, .len (.t 61) (pu (.call ⟨.builtin .len, #[(.tmp 61)], #[27]⟩) 3)⟩,
 ⟨some 63, none, .bin .eql false (.t 62) (.k (.sc (.int .i64 256))) (pu (.binOp .eql 3 (.tmp 62) (.const (.int .i64 256)) 3) 4)⟩])
 (.cond (.t 63) (.seq (.reg [⟨some 64, none, .ld (some 7) (.t 4)⟩,
 ⟨none, none, .st 7 (.t 8) (.t 64)⟩,
 ⟨some 9, none, .mv (.k (.sc (.int .i64 3)))⟩])
 .ret)
 .skip))
 (.seq (.drw [0, 0, 2, 7, 0, 16, 63, 127, 255] [⟨some 65, none, .bsl 6 0 true [] []⟩,
 ⟨some 66, none, .sh 6 (.t 4)⟩,
 ⟨some 67, none, .ld none (.t 66)⟩,
 ⟨some 68, none, .app 6 64 (.t 65) (.t 67)⟩,
 ⟨some 69, none, .ld (some 6) (.t 12)⟩,
 ⟨some 70, none, .bsl 6 1 true [.sc (.string ⟨#[]⟩), .sc (.string ⟨#[]⟩), .sc (.int .i64 0), .sc (.int .i64 0), .sc (.int .i64 0), .sc (.int .i64 0)] [(0, 6, (.t 69))]⟩,
 ⟨some 71, none, .app 6 64 (.t 68) (.t 70)⟩,
 ⟨some 72, none, .sh 6 (.t 4)⟩,
 ⟨none, none, .st 1 (.t 72) (.t 71)⟩])
 (.seq (.reg [⟨some 73, none, .ld (some 7) (.t 4)⟩,
 ⟨none, none, .st 7 (.t 8) (.t 73)⟩,
 ⟨some 9, none, .mv (.k (.sc (.int .i64 0)))⟩])
 .ret)))))))))))
def k11 : List Nat := [0, 1, 2, 3, 4, 8, 9, 10, 11, 12, 13, 17, 25, 35, 51, 58, 63]
theorem ic11 : factsI Tryz.prog 11 = some (74, [.cell 8 29, .tmp 9], c11) := by kernel_rfl
def c12 : IC :=
 (.seq (.reg [⟨some 2, none, .al (.agg [.sc (.string ⟨#[]⟩), .sc (.string ⟨#[]⟩), .sc (.slice none 0 0), .sc (.slice none 0 0), .sc (.int .i64 0), .sc (.slice none 0 0), .sc (.slice none 0 0)]) 7⟩,
 ⟨some 3, none, .mv (.k (.sc (.int .i64 0)))⟩])
 (.seq (.seq (.reg [⟨some 6, none, .mv (.t 0)⟩,
 ⟨some 7, none, .call 30 [(.t 6)]⟩,
 ⟨some 8, none, .un .not (.t 7) (pu (.unOp .not 4 (.tmp 7)) 4)⟩])
 (.cond (.t 8) (.seq (.reg [⟨some 9, none, .bld [.sc (.string ⟨#[]⟩), .sc (.string ⟨#[]⟩), .sc (.slice none 0 0), .sc (.slice none 0 0), .sc (.int .i64 0), .sc (.slice none 0 0), .sc (.slice none 0 0)] []⟩,
 ⟨none, none, .st 7 (.t 2) (.t 9)⟩,
 ⟨some 3, none, .mv (.k (.sc (.int .i64 4)))⟩])
 .ret)
 .skip))
 (.seq (.reg [⟨some 11, none, .mv (.t 0)⟩,
 ⟨some 12, none, .call 31 [(.t 11)]⟩,
 ⟨some 10, none, .mv (.t 12)⟩,
 ⟨some 13, none, .ext (.t 10) 0⟩,
 ⟨some 14, none, .ext (.t 10) 1⟩,
 ⟨some 4, none, .al (.agg [.sc (.string ⟨#[]⟩), .sc (.slice none 0 0), .sc (.slice none 0 0), .sc (.int .i64 0)]) 4⟩,
 ⟨none, none, .st 4 (.t 4) (.t 13)⟩,
 ⟨some 5, none, .mv (.t 14)⟩])
 (.seq (.seq (.reg [⟨some 15, none, .mv (.t 5)⟩,
 ⟨some 16, none, .bin .neq false (.t 15) (.k (.sc (.int .i64 0))) (pu (.binOp .neq 34 (.tmp 15) (.const (.int .i64 0)) 34) 4)⟩])
 (.cond (.t 16) (.seq (.reg [⟨some 17, none, .bld [.sc (.string ⟨#[]⟩), .sc (.string ⟨#[]⟩), .sc (.slice none 0 0), .sc (.slice none 0 0), .sc (.int .i64 0), .sc (.slice none 0 0), .sc (.slice none 0 0)] []⟩,
 ⟨some 18, none, .mv (.t 5)⟩,
 ⟨none, none, .st 7 (.t 2) (.t 17)⟩,
 ⟨some 3, none, .mv (.t 18)⟩])
 .ret)
 .skip))
 (.seq (.reg [⟨some 19, none, .mv (.t 0)⟩,
 ⟨some 20, none, .ld (some 4) (.t 4)⟩,
 ⟨some 21, none, .bld [.sc (.string ⟨#[]⟩), .sc (.string ⟨#[]⟩), .sc (.slice none 0 0), .sc (.slice none 0 0), .sc (.int .i64 0), .sc (.slice none 0 0), .sc (.slice none 0 0)] [(0, 1, (.t 19)), (1, 4, (.t 20))]⟩,
 ⟨none, none, .st 7 (.t 2) (.t 21)⟩,
 ⟨some 3, none, .mv (.k (.sc (.int .i64 0)))⟩])
 .ret)))))
def k12 : List Nat := [0, 2, 3, 4, 5, 8, 16]
theorem ic12 : factsI Tryz.prog 12 = some (22, [.cell 2 29, .tmp 3], c12) := by kernel_rfl
def c13 : IC :=
 (.seq (.reg [⟨some 2, none, .bx (.t 0)⟩,
 ⟨some 3, none, .bx (.t 1)⟩,
 ⟨some 4, none, .mv (.k (.sc (.bool false)))⟩])
 (.seq (.reg [⟨some 23, none, .ld (some 7) (.t 2)⟩,
 ⟨some 24, none, .sh 0 (.t 2)⟩,
 ⟨some 25, none, .ld none (.t 24)⟩,
 ⟨some 26, none, .sh 0 (.t 3)⟩,
 ⟨some 27, none, .ld none (.t 26)⟩,
 ⟨some 28, none, .call 32 [(.t 23), (.t 25), (.t 27)]⟩,
 ⟨some 22, none, .mv (.t 28)⟩,
 ⟨some 29, none, .ext (.t 22) 0⟩,
 ⟨some 30, none, .ext (.t 22) 1⟩,
 ⟨some 5, none, .mv (.t 29)⟩,
 ⟨some 6, none, .mv (.t 30)⟩])
 (.seq (.reg [⟨some 32, none, .ld (some 7) (.t 3)⟩,
 ⟨some 33, none, .sh 0 (.t 2)⟩,
 ⟨some 34, none, .ld none (.t 33)⟩,
 ⟨some 35, none, .sh 0 (.t 3)⟩,
 ⟨some 36, none, .ld none (.t 35)⟩,
 ⟨some 37, none, .call 32 [(.t 32), (.t 34), (.t 36)]⟩,
 ⟨some 31, none, .mv (.t 37)⟩,
 ⟨some 38, none, .ext (.t 31) 0⟩,
 ⟨some 39, none, .ext (.t 31) 1⟩,
 ⟨some 7, none, .mv (.t 38)⟩,
 ⟨some 8, none, .mv (.t 39)⟩])
 (.seq (.seq (.reg [⟨some 40, none, .mv (.t 6)⟩,
 ⟨some 41, none, .mv (.t 8)⟩,
 ⟨some 42, none, .bin .neq false (.t 40) (.t 41) (pu (.binOp .neq 3 (.tmp 40) (.tmp 41) 3) 4)⟩])
 (.cond (.t 42) (.seq (.reg [⟨some 4, none, .mv (.k (.sc (.bool false)))⟩])
 .ret)
 .skip))
 (.seq (.seq (.reg [⟨some 43, none, .mv (.t 5)⟩,
 ⟨some 44, none, .opx (pu (.range 66 (.tmp 43)) 0)⟩])
 (.block 0 (.loop (.seq (.reg [⟨some 45, none, .opx (pu (.next (.tmp 44) false) 0)⟩,
 ⟨some 46, none, .ext (.t 45) 0⟩])
 (.seq (.cond (.t 46) .skip
 (.exit 0))
 (.block 1 (.seq (.reg [⟨some 47, none, .pur (pu (.entry (.tmp 44)) 0)⟩,
 ⟨some 48, none, .ext (.t 47) 0⟩,
 ⟨some 49, none, .ext (.t 47) 1⟩,
 ⟨some 10, none, .al (.agg [.sc (.string ⟨#[]⟩), .sc (.string ⟨#[]⟩), .sc (.string ⟨#[]⟩), .sc (.string ⟨#[]⟩), .sc (.int .i64 0), .sc (.int .i64 0), .sc (.int .i64 0), .sc (.int .i64 0), .sc (.string ⟨#[]⟩), .sc (.string ⟨#[]⟩), .sc (.slice none 0 0), .sc (.int .i64 0), .sc (.bool false), .sc (.string ⟨#[]⟩)]) 14⟩,
 ⟨some 9, none, .mv (.t 48)⟩,
 ⟨none, none, .st 14 (.t 10) (.t 49)⟩])
 (.seq (.reg [⟨some 51, none, .mv (.t 7)⟩,
 ⟨some 52, none, .mv (.t 9)⟩,
 ⟨some 53, none, .mlk false [.s] (.agg [.sc (.string ⟨#[]⟩), .sc (.string ⟨#[]⟩), .sc (.string ⟨#[]⟩), .sc (.string ⟨#[]⟩), .sc (.int .i64 0), .sc (.int .i64 0), .sc (.int .i64 0), .sc (.int .i64 0), .sc (.string ⟨#[]⟩), .sc (.string ⟨#[]⟩), .sc (.slice none 0 0), .sc (.int .i64 0), .sc (.bool false), .sc (.string ⟨#[]⟩)]) true (.t 51) (.t 52) (pu (.lookup 66 (.tmp 51) (.tmp 52) true) 69)⟩,
 ⟨some 50, none, .mv (.t 53)⟩,
 ⟨some 54, none, .ext (.t 50) 0⟩,
 ⟨some 55, none, .ext (.t 50) 1⟩,
 ⟨some 11, none, .al (.agg [.sc (.string ⟨#[]⟩), .sc (.string ⟨#[]⟩), .sc (.string ⟨#[]⟩), .sc (.string ⟨#[]⟩), .sc (.int .i64 0), .sc (.int .i64 0), .sc (.int .i64 0), .sc (.int .i64 0), .sc (.string ⟨#[]⟩), .sc (.string ⟨#[]⟩), .sc (.slice none 0 0), .sc (.int .i64 0), .sc (.bool false), .sc (.string ⟨#[]⟩)]) 14⟩,
 ⟨none, none, .st 14 (.t 11) (.t 54)⟩,
 ⟨some 12, none, .mv (.t 55)⟩])
 (.seq (.reg [⟨some 56, none, .mv (.t 12)⟩,
 ⟨some 57, none, .un .not (.t 56) (pu (.unOp .not 4 (.tmp 56)) 4)⟩,
 ⟨some 58, none, .mv (.t 57)⟩,
 ⟨some 59, (some ((some 58), false)), .ld (some 14) (.t 10)⟩,
 ⟨some 60, (some ((some 58), false)), .ld (some 14) (.t 11)⟩,
 ⟨some 61, (some ((some 58), false)), .call 33 [(.t 59), (.t 60)]⟩,
 ⟨some 62, (some ((some 58), false)), .un .not (.t 61) (pu (.unOp .not 4 (.tmp 61)) 4)⟩,
 ⟨some 63, none, .pick (.t 58) (.k (.sc (.bool true))) (.t 62)⟩])
 (.cond (.t 63) (.seq (.reg [⟨some 4, none, .mv (.k (.sc (.bool false)))⟩])
 .ret)
 .skip))))))))))
 (.seq (.any [0, 0, 2, 0, 8, 31, 0, 0, 128, 0, 512, 2047, 4095, 8191] [⟨some 64, none, .ld (some 7) (.t 2)⟩,
 ⟨some 65, none, .sh 0 (.t 2)⟩,
 ⟨some 66, none, .ld none (.t 65)⟩,
 ⟨some 67, none, .sh 0 (.t 3)⟩,
 ⟨some 68, none, .ld none (.t 67)⟩,
 ⟨some 69, none, .call 34 [(.t 64), (.t 66), (.t 68)]⟩,
 ⟨some 70, none, .ld (some 7) (.t 3)⟩,
 ⟨some 71, none, .sh 0 (.t 2)⟩,
 ⟨some 72, none, .ld none (.t 71)⟩,
 ⟨some 73, none, .sh 0 (.t 3)⟩,
 ⟨some 74, none, .ld none (.t 73)⟩,
 ⟨some 75, none, .call 34 [(.t 70), (.t 72), (.t 74)]⟩,
 ⟨some 13, none, .mv (.t 69)⟩,
 ⟨some 14, none, .mv (.t 75)⟩])
 (.seq (.seq (.reg [⟨some 76, none, .mv (.t 13)⟩,
 ⟨some 77, none, .len (.t 76) (pu (.call ⟨.builtin .len, #[(.tmp 76)], #[27]⟩) 3)⟩,
 ⟨some 78, none, .mv (.t 14)⟩,
 ⟨some 79, none, .len (.t 78) (pu (.call ⟨.builtin .len, #[(.tmp 78)], #[27]⟩) 3)⟩,
 ⟨some 80, none, .bin .neq false (.t 77) (.t 79) (pu (.binOp .neq 3 (.tmp 77) (.tmp 79) 3) 4)⟩])
 (.cond (.t 80) (.seq (.reg [⟨some 4, none, .mv (.k (.sc (.bool false)))⟩])
 .ret)
 .skip))
 (.seq (.reg [⟨some 81, none, .mv (.t 14)⟩,
 ⟨some 82, none, .len (.t 81) (pu (.call ⟨.builtin .len, #[(.tmp 81)], #[27]⟩) 3)⟩,
 ⟨some 83, none, .mmk (some (.t 82))⟩,
 ⟨some 15, none, .mv (.t 83)⟩])
 (.seq (.seq (.reg [⟨some 84, none, .mv (.t 14)⟩,
 ⟨some 85, none, .len (.t 84) (pu (.call ⟨.builtin .len, #[(.tmp 84)], #[27]⟩) 3)⟩,
 ⟨some 86, none, .mv (.k (.sc (.int .i64 0)))⟩])
 (.block 2 (.loop (.seq (.reg [⟨some 87, none, .bin .lss false (.t 86) (.t 85) (pu (.binOp .lss 3 (.tmp 86) (.tmp 85) 3) 0)⟩])
 (.seq (.cond (.t 87) .skip
 (.exit 2))
 (.seq (.block 3 (.seq (.reg [⟨some 88, none, .ixs 6 (.t 84) (.t 86)⟩,
 ⟨some 89, none, .ld (some 6) (.t 88)⟩,
 ⟨some 17, none, .al (.agg [.sc (.string ⟨#[]⟩), .sc (.string ⟨#[]⟩), .sc (.int .i64 0), .sc (.int .i64 0), .sc (.int .i64 0), .sc (.int .i64 0)]) 6⟩,
 ⟨none, none, .st 6 (.t 17) (.t 89)⟩])
 (.reg [⟨some 90, none, .mv (.t 15)⟩,
 ⟨some 91, none, .sh 0 (.t 17)⟩,
 ⟨some 92, none, .ld none (.t 91)⟩,
 ⟨some 93, none, .ld (some 6) (.t 17)⟩,
 ⟨none, none, .mpt false [.s] (.t 90) (.t 92) (.t 93)⟩])))
 (.reg [⟨some 94, none, .bin .add false (.t 86) (.k (.sc (.int .i64 1))) (pu (.binOp .add 3 (.tmp 86) (.const (.int .i64 1)) 3) 3)⟩,
 ⟨some 86, none, .mv (.t 94)⟩])))))))
 (.seq (.seq (.reg [⟨some 95, none, .mv (.t 13)⟩,
 ⟨some 96, none, .len (.t 95) (pu (.call ⟨.builtin .len, #[(.tmp 95)], #[27]⟩) 3)⟩,
 ⟨some 97, none, .mv (.k (.sc (.int .i64 0)))⟩])
 (.block 4 (.loop (.seq (.reg [⟨some 98, none, .bin .lss false (.t 97) (.t 96) (pu (.binOp .lss 3 (.tmp 97) (.tmp 96) 3) 0)⟩])
 (.seq (.cond (.t 98) .skip
 (.exit 4))
 (.seq (.block 5 (.seq (.reg [⟨some 99, none, .ixs 6 (.t 95) (.t 97)⟩,
 ⟨some 100, none, .ld (some 6) (.t 99)⟩,
 ⟨some 19, none, .al (.agg [.sc (.string ⟨#[]⟩), .sc (.string ⟨#[]⟩), .sc (.int .i64 0), .sc (.int .i64 0), .sc (.int .i64 0), .sc (.int .i64 0)]) 6⟩,
 ⟨none, none, .st 6 (.t 19) (.t 100)⟩])
 (.seq (.reg [⟨some 102, none, .mv (.t 15)⟩,
 ⟨some 103, none, .sh 0 (.t 19)⟩,
 ⟨some 104, none, .ld none (.t 103)⟩,
 ⟨some 105, none, .mlk false [.s] (.agg [.sc (.string ⟨#[]⟩), .sc (.string ⟨#[]⟩), .sc (.int .i64 0), .sc (.int .i64 0), .sc (.int .i64 0), .sc (.int .i64 0)]) true (.t 102) (.t 104) (pu (.lookup 71 (.tmp 102) (.tmp 104) true) 72)⟩,
 ⟨some 101, none, .mv (.t 105)⟩,
 ⟨some 106, none, .ext (.t 101) 0⟩,
 ⟨some 107, none, .ext (.t 101) 1⟩,
 ⟨some 20, none, .al (.agg [.sc (.string ⟨#[]⟩), .sc (.string ⟨#[]⟩), .sc (.int .i64 0), .sc (.int .i64 0), .sc (.int .i64 0), .sc (.int .i64 0)]) 6⟩,
 ⟨none, none, .st 6 (.t 20) (.t 106)⟩,
 ⟨some 21, none, .mv (.t 107)⟩])
 (.seq (.reg [⟨some 108, none, .mv (.t 21)⟩,
 ⟨some 109, none, .un .not (.t 108) (pu (.unOp .not 4 (.tmp 108)) 4)⟩,
 ⟨some 110, none, .mv (.t 109)⟩,
 ⟨some 111, (some ((some 110), false)), .ld (some 6) (.t 20)⟩,
 ⟨some 112, (some ((some 110), false)), .ld (some 6) (.t 19)⟩,
 ⟨some 113, (some ((some 110), false)), .bin .neq false (.t 111) (.t 112) (pu (.binOp .neq 54 (.tmp 111) (.tmp 112) 54) 4)⟩,
 ⟨some 114, none, .pick (.t 110) (.k (.sc (.bool true))) (.t 113)⟩])
 (.cond (.t 114) (.seq (.reg [⟨some 4, none, .mv (.k (.sc (.bool false)))⟩])
 .ret)
 .skip)))))
 (.reg [⟨some 115, none, .bin .add false (.t 97) (.k (.sc (.int .i64 1))) (pu (.binOp .add 3 (.tmp 97) (.const (.int .i64 1)) 3) 3)⟩,
 ⟨some 97, none, .mv (.t 115)⟩])))))))
 (.seq (.reg [⟨some 4, none, .mv (.k (.sc (.bool true)))⟩])
 .ret)))))))))))
def k13 : List Nat := [0, 1, 2, 3, 4, 5, 6, 7, 8, 9, 10, 11, 12, 13, 14, 15, 17, 19, 20, 21, 42, 44, 46, 63, 80, 84, 85, 86, 87, 95, 96, 97, 98, 114]
theorem ic13 : factsI Tryz.prog 13 = some (116, [.tmp 4], c13) := by kernel_rfl
def c14 : IC :=
 (.seq (.reg [⟨some 1, none, .bx (.t 0)⟩,
 ⟨some 2, none, .mv (.k (.sc (.int .i64 0)))⟩])
 (.seq (.seq (.reg [⟨some 5, none, .sh 0 (.t 1)⟩,
 ⟨some 6, none, .ld none (.t 5)⟩,
 ⟨some 7, none, .call 30 [(.t 6)]⟩,
 ⟨some 8, none, .un .not (.t 7) (pu (.unOp .not 4 (.tmp 7)) 4)⟩])
 (.cond (.t 8) (.seq (.reg [⟨some 2, none, .mv (.k (.sc (.int .i64 4)))⟩])
 .ret)
 .skip))
 (.seq (.seq (.reg [⟨some 9, none, .sh 1 (.t 1)⟩,
 ⟨some 10, none, .ld (some 4) (.t 9)⟩,
 ⟨some 11, none, .call 35 [(.t 10)]⟩,
 ⟨some 3, none, .mv (.t 11)⟩])
 (.seq (.reg [⟨some 12, none, .mv (.t 3)⟩,
 ⟨some 13, none, .bin .neq false (.t 12) (.k (.sc (.int .i64 0))) (pu (.binOp .neq 34 (.tmp 12) (.const (.int .i64 0)) 34) 4)⟩])
 (.cond (.t 13) (.seq (.reg [⟨some 14, none, .mv (.t 3)⟩,
 ⟨some 2, none, .mv (.t 14)⟩])
 .ret)
 .skip)))
 (.seq (.seq (.reg [⟨some 15, none, .sh 1 (.t 1)⟩,
 ⟨some 16, none, .sh 0 (.t 15)⟩,
 ⟨some 17, none, .ld none (.t 16)⟩,
 ⟨some 18, none, .sh 0 (.t 1)⟩,
 ⟨some 19, none, .ld none (.t 18)⟩,
 ⟨some 20, none, .bin .neq false (.t 17) (.t 19) (pu (.binOp .neq 9 (.tmp 17) (.tmp 19) 9) 4)⟩])
 (.cond (.t 20) (.seq (.reg [⟨some 2, none, .mv (.k (.sc (.int .i64 1)))⟩])
 .ret)
 .skip))
 (.seq (.seq (.reg [⟨some 21, none, .ld (some 7) (.t 1)⟩,
 ⟨some 22, none, .call 36 [(.t 21)]⟩,
 ⟨some 4, none, .mv (.t 22)⟩])
 (.seq (.reg [⟨some 23, none, .mv (.t 4)⟩,
 ⟨some 24, none, .bin .neq false (.t 23) (.k (.sc (.int .i64 0))) (pu (.binOp .neq 34 (.tmp 23) (.const (.int .i64 0)) 34) 4)⟩])
 (.cond (.t 24) (.seq (.reg [⟨some 25, none, .mv (.t 4)⟩,
 ⟨some 2, none, .mv (.t 25)⟩])
 .ret)
 .skip)))
 (.seq (.reg [⟨some 26, none, .ld (some 7) (.t 1)⟩,
 ⟨some 27, none, .call 37 [(.t 26)]⟩,
 ⟨some 2, none, .mv (.t 27)⟩])
 .ret))))))
def k14 : List Nat := [0, 1, 2, 3, 4, 8, 13, 20, 24]
theorem ic14 : factsI Tryz.prog 14 = some (28, [.tmp 2], c14) := by kernel_rfl
def c15 : IC :=
 (.seq (.reg [⟨some 2, none, .bx (.t 0)⟩,
 ⟨some 3, none, .bx (.t 1)⟩,
 ⟨some 4, none, .al (.agg [.sc (.string ⟨#[]⟩), .sc (.string ⟨#[]⟩), .sc (.slice none 0 0), .sc (.slice none 0 0), .sc (.int .i64 0), .sc (.slice none 0 0), .sc (.slice none 0 0)]) 7⟩,
 ⟨some 5, none, .mv (.k (.sc (.int .i64 0)))⟩])
 (.seq (.seq (.reg [⟨some 10, none, .ld (some 7) (.t 2)⟩,
 ⟨some 11, none, .call 14 [(.t 10)]⟩,
 ⟨some 6, none, .mv (.t 11)⟩])
 (.seq (.reg [⟨some 12, none, .mv (.t 6)⟩,
 ⟨some 13, none, .bin .neq false (.t 12) (.k (.sc (.int .i64 0))) (pu (.binOp .neq 34 (.tmp 12) (.const (.int .i64 0)) 34) 4)⟩])
 (.cond (.t 13) (.seq (.reg [⟨some 14, none, .ld (some 7) (.t 2)⟩,
 ⟨some 15, none, .mv (.t 6)⟩,
 ⟨none, none, .st 7 (.t 4) (.t 14)⟩,
 ⟨some 5, none, .mv (.t 15)⟩])
 .ret)
 .skip)))
 (.seq (.seq (.reg [⟨some 16, none, .ld (some 14) (.t 3)⟩,
 ⟨some 17, none, .call 38 [(.t 16)]⟩,
 ⟨some 7, none, .mv (.t 17)⟩])
 (.seq (.reg [⟨some 18, none, .mv (.t 7)⟩,
 ⟨some 19, none, .bin .neq false (.t 18) (.k (.sc (.int .i64 0))) (pu (.binOp .neq 34 (.tmp 18) (.const (.int .i64 0)) 34) 4)⟩])
 (.cond (.t 19) (.seq (.reg [⟨some 20, none, .ld (some 7) (.t 2)⟩,
 ⟨some 21, none, .mv (.t 7)⟩,
 ⟨none, none, .st 7 (.t 4) (.t 20)⟩,
 ⟨some 5, none, .mv (.t 21)⟩])
 .ret)
 .skip)))
 (.seq (.seq (.reg [⟨some 22, none, .sh 1 (.t 3)⟩,
 ⟨some 23, none, .ld none (.t 22)⟩,
 ⟨some 24, none, .sh 0 (.t 2)⟩,
 ⟨some 25, none, .ld none (.t 24)⟩,
 ⟨some 26, none, .bin .neq false (.t 23) (.t 25) (pu (.binOp .neq 9 (.tmp 23) (.tmp 25) 9) 4)⟩])
 (.cond (.t 26) (.seq (.reg [⟨some 27, none, .ld (some 7) (.t 2)⟩,
 ⟨none, none, .st 7 (.t 4) (.t 27)⟩,
 ⟨some 5, none, .mv (.k (.sc (.int .i64 15)))⟩])
 .ret)
 .skip))
 (.seq (.seq (.reg [⟨some 28, none, .ld (some 7) (.t 2)⟩,
 ⟨some 29, none, .sh 0 (.t 3)⟩,
 ⟨some 30, none, .ld none (.t 29)⟩,
 ⟨some 31, none, .call 26 [(.t 28), (.t 30)]⟩,
 ⟨some 32, none, .bin .geq false (.t 31) (.k (.sc (.int .i64 0))) (pu (.binOp .geq 3 (.tmp 31) (.const (.int .i64 0)) 3) 4)⟩])
 (.cond (.t 32) (.seq (.reg [⟨some 33, none, .ld (some 7) (.t 2)⟩,
 ⟨none, none, .st 7 (.t 4) (.t 33)⟩,
 ⟨some 5, none, .mv (.k (.sc (.int .i64 9)))⟩])
 .ret)
 .skip))
 (.seq (.seq (.reg [⟨some 34, none, .sh 12 (.t 3)⟩,
 ⟨some 35, none, .ld none (.t 34)⟩])
 (.cond (.t 35) (.seq (.reg [⟨some 36, none, .ld (some 7) (.t 2)⟩,
 ⟨some 37, none, .ld (some 14) (.t 3)⟩,
 ⟨some 38, none, .call 39 [(.t 36), (.t 37)]⟩,
 ⟨some 8, none, .mv (.t 38)⟩])
 (.seq (.reg [⟨some 39, none, .mv (.t 8)⟩,
 ⟨some 40, none, .bin .neq false (.t 39) (.k (.sc (.int .i64 0))) (pu (.binOp .neq 34 (.tmp 39) (.const (.int .i64 0)) 34) 4)⟩])
 (.cond (.t 40) (.seq (.reg [⟨some 41, none, .ld (some 7) (.t 2)⟩,
 ⟨some 42, none, .mv (.t 8)⟩,
 ⟨none, none, .st 7 (.t 4) (.t 41)⟩,
 ⟨some 5, none, .mv (.t 42)⟩])
 .ret)
 .skip)))
 .skip))
 (.seq (.seq (.reg [⟨some 43, none, .sh 5 (.t 2)⟩,
 ⟨some 44, none, .ld none (.t 43)⟩,
 ⟨some 45, none, .len (.t 44) (pu (.call ⟨.builtin .len, #[(.tmp 44)], #[26]⟩) 3)⟩,
 ⟨some 46, none, .bin .geq false (.t 45) (.k (.sc (.int .i64 256))) (pu (.binOp .geq 3 (.tmp 45) (.const (.int .i64 256)) 3) 4)⟩])
 (.cond (.t 46) (.seq (.reg [⟨some 47, none, .ld (some 7) (.t 2)⟩,
 ⟨none, none, .st 7 (.t 4) (.t 47)⟩,
 ⟨some 5, none, .mv (.k (.sc (.int .i64 3)))⟩])
 .ret)
 .skip))
 (.seq (.reg [⟨some 48, none, .ld (some 7) (.t 2)⟩,
 ⟨some 49, none, .call 20 [(.t 48)]⟩,
 ⟨some 9, none, .al (.agg [.sc (.string ⟨#[]⟩), .sc (.string ⟨#[]⟩), .sc (.slice none 0 0), .sc (.slice none 0 0), .sc (.int .i64 0), .sc (.slice none 0 0), .sc (.slice none 0 0)]) 7⟩,
 ⟨none, none, .st 7 (.t 9) (.t 49)⟩])
 (.seq (.drw [0, 1, 0, 4, 12, 31, 63, 127] [⟨some 50, none, .sh 5 (.t 9)⟩,
 ⟨some 51, none, .ld none (.t 50)⟩,
 ⟨some 52, none, .ld (some 14) (.t 3)⟩,
 ⟨some 53, none, .call 40 [(.t 52)]⟩,
 ⟨some 54, none, .bsl 14 1 true [.sc (.string ⟨#[]⟩), .sc (.string ⟨#[]⟩), .sc (.string ⟨#[]⟩), .sc (.string ⟨#[]⟩), .sc (.int .i64 0), .sc (.int .i64 0), .sc (.int .i64 0), .sc (.int .i64 0), .sc (.string ⟨#[]⟩), .sc (.string ⟨#[]⟩), .sc (.slice none 0 0), .sc (.int .i64 0), .sc (.bool false), .sc (.string ⟨#[]⟩)] [(0, 14, (.t 53))]⟩,
 ⟨some 55, none, .app 14 184 (.t 51) (.t 54)⟩,
 ⟨some 56, none, .sh 5 (.t 9)⟩,
 ⟨none, none, .st 1 (.t 56) (.t 55)⟩])
 (.seq (.reg [⟨some 57, none, .ld (some 7) (.t 9)⟩,
 ⟨none, none, .st 7 (.t 4) (.t 57)⟩,
 ⟨some 5, none, .mv (.k (.sc (.int .i64 0)))⟩])
 .ret))))))))))
def k15 : List Nat := [0, 1, 2, 3, 4, 5, 6, 7, 8, 9, 13, 19, 26, 32, 35, 40, 46]
theorem ic15 : factsI Tryz.prog 15 = some (58, [.cell 4 29, .tmp 5], c15) := by kernel_rfl
def c16 : IC :=
 (.seq (.reg [⟨some 6, none, .al (.agg [.sc (.string ⟨#[]⟩), .sc (.string ⟨#[]⟩), .sc (.string ⟨#[]⟩), .sc (.string ⟨#[]⟩), .sc (.int .i64 0), .sc (.int .i64 0), .sc (.int .i64 0), .sc (.int .i64 0), .sc (.string ⟨#[]⟩), .sc (.string ⟨#[]⟩), .sc (.slice none 0 0), .sc (.int .i64 0), .sc (.bool false), .sc (.string ⟨#[]⟩)]) 14⟩])
 (.seq (.reg [⟨some 7, none, .mv (.t 0)⟩,
 ⟨some 8, none, .mv (.t 1)⟩,
 ⟨some 9, none, .mv (.t 2)⟩,
 ⟨some 10, none, .bld [.sc (.string ⟨#[]⟩), .sc (.string ⟨#[]⟩), .sc (.string ⟨#[]⟩), .sc (.string ⟨#[]⟩), .sc (.int .i64 0), .sc (.int .i64 0), .sc (.int .i64 0), .sc (.int .i64 0), .sc (.string ⟨#[]⟩), .sc (.string ⟨#[]⟩), .sc (.slice none 0 0), .sc (.int .i64 0), .sc (.bool false), .sc (.string ⟨#[]⟩)] [(0, 1, (.t 7)), (1, 1, (.t 8)), (2, 1, (.t 9)), (3, 1, (.k (.sc (.string ⟨#[83, 45, 49]⟩)))), (4, 1, (.k (.sc (.int .i64 1)))), (8, 1, (.k (.sc (.string ⟨#[84]⟩)))), (9, 1, (.k (.sc (.string ⟨#[69, 85, 82]⟩))))]⟩,
 ⟨none, none, .st 14 (.t 6) (.t 10)⟩])
 .ret))
def k16 : List Nat := [0, 1, 2, 6]
theorem ic16 : factsI Tryz.prog 16 = some (11, [.cell 6 42], c16) := by kernel_rfl
def c17 : IC :=
 (.seq (.reg [⟨some 2, none, .bx (.t 0)⟩,
 ⟨some 3, none, .bx (.t 1)⟩,
 ⟨some 4, none, .al (.agg [.sc (.string ⟨#[]⟩), .sc (.string ⟨#[]⟩), .sc (.slice none 0 0), .sc (.slice none 0 0), .sc (.int .i64 0), .sc (.slice none 0 0), .sc (.slice none 0 0)]) 7⟩,
 ⟨some 5, none, .al (.agg [.sc (.string ⟨#[]⟩), .sc (.string ⟨#[]⟩), .sc (.slice none 0 0), .sc (.slice none 0 0), .sc (.int .i64 0), .sc (.slice none 0 0), .sc (.slice none 0 0)]) 7⟩,
 ⟨some 6, none, .mv (.k (.sc (.int .i64 0)))⟩])
 (.seq (.seq (.reg [⟨some 13, none, .ld (some 7) (.t 2)⟩,
 ⟨some 14, none, .call 14 [(.t 13)]⟩,
 ⟨some 7, none, .mv (.t 14)⟩])
 (.seq (.reg [⟨some 15, none, .mv (.t 7)⟩,
 ⟨some 16, none, .bin .neq false (.t 15) (.k (.sc (.int .i64 0))) (pu (.binOp .neq 34 (.tmp 15) (.const (.int .i64 0)) 34) 4)⟩])
 (.cond (.t 16) (.seq (.drw [0, 0, 0, 1, 11, 31] [⟨some 17, none, .ld (some 7) (.t 2)⟩,
 ⟨some 18, none, .ld (some 7) (.t 3)⟩,
 ⟨some 19, none, .mv (.t 7)⟩,
 ⟨none, none, .st 7 (.t 4) (.t 17)⟩,
 ⟨none, none, .st 7 (.t 5) (.t 18)⟩,
 ⟨some 6, none, .mv (.t 19)⟩])
 .ret)
 .skip)))
 (.seq (.seq (.reg [⟨some 20, none, .ld (some 7) (.t 3)⟩,
 ⟨some 21, none, .call 14 [(.t 20)]⟩,
 ⟨some 8, none, .mv (.t 21)⟩])
 (.seq (.reg [⟨some 22, none, .mv (.t 8)⟩,
 ⟨some 23, none, .bin .neq false (.t 22) (.k (.sc (.int .i64 0))) (pu (.binOp .neq 34 (.tmp 22) (.const (.int .i64 0)) 34) 4)⟩])
 (.cond (.t 23) (.seq (.drw [0, 0, 0, 1, 11, 31] [⟨some 24, none, .ld (some 7) (.t 2)⟩,
 ⟨some 25, none, .ld (some 7) (.t 3)⟩,
 ⟨some 26, none, .mv (.t 8)⟩,
 ⟨none, none, .st 7 (.t 4) (.t 24)⟩,
 ⟨none, none, .st 7 (.t 5) (.t 25)⟩,
 ⟨some 6, none, .mv (.t 26)⟩])
 .ret)
 .skip)))
 (.seq (.seq (.reg [⟨some 27, none, .sh 0 (.t 2)⟩,
 ⟨some 28, none, .ld none (.t 27)⟩,
 ⟨some 29, none, .sh 0 (.t 3)⟩,
 ⟨some 30, none, .ld none (.t 29)⟩,
 ⟨some 31, none, .bin .eql false (.t 28) (.t 30) (pu (.binOp .eql 9 (.tmp 28) (.tmp 30) 9) 4)⟩])
 (.cond (.t 31) (.seq (.drw [0, 0, 1, 7, 15] [⟨some 32, none, .ld (some 7) (.t 2)⟩,
 ⟨some 33, none, .ld (some 7) (.t 3)⟩,
 ⟨none, none, .st 7 (.t 4) (.t 32)⟩,
 ⟨none, none, .st 7 (.t 5) (.t 33)⟩,
 ⟨some 6, none, .mv (.k (.sc (.int .i64 1)))⟩])
 .ret)
 .skip))
 (.seq (.any [0, 1, 0, 7, 15, 0, 63] [⟨some 34, none, .ld (some 7) (.t 2)⟩,
 ⟨some 35, none, .call 20 [(.t 34)]⟩,
 ⟨some 36, none, .ld (some 7) (.t 3)⟩,
 ⟨some 37, none, .call 20 [(.t 36)]⟩,
 ⟨some 38, none, .bld [.sc (.string ⟨#[]⟩), .sc (.string ⟨#[]⟩), .sc (.slice none 0 0), .sc (.slice none 0 0), .sc (.int .i64 0), .sc (.slice none 0 0), .sc (.slice none 0 0), .sc (.string ⟨#[]⟩), .sc (.string ⟨#[]⟩), .sc (.slice none 0 0), .sc (.slice none 0 0), .sc (.int .i64 0), .sc (.slice none 0 0), .sc (.slice none 0 0)] [(0, 7, (.t 35)), (7, 7, (.t 37))]⟩,
 ⟨some 9, none, .al (.agg [.sc (.string ⟨#[]⟩), .sc (.string ⟨#[]⟩), .sc (.slice none 0 0), .sc (.slice none 0 0), .sc (.int .i64 0), .sc (.slice none 0 0), .sc (.slice none 0 0), .sc (.string ⟨#[]⟩), .sc (.string ⟨#[]⟩), .sc (.slice none 0 0), .sc (.slice none 0 0), .sc (.int .i64 0), .sc (.slice none 0 0), .sc (.slice none 0 0)]) 14⟩,
 ⟨none, none, .st 14 (.t 9) (.t 38)⟩])
 (.seq (.seq (.reg [⟨some 39, none, .mkf (.func 41) [(.t 9)] []⟩,
 ⟨some 40, none, .mkf (.func 42) [(.t 9)] []⟩,
 ⟨some 41, none, .mkf (.func 43) [(.t 9)] []⟩,
 ⟨some 42, none, .mkf (.func 44) [(.t 9)] []⟩,
 ⟨some 43, none, .bsl 1 4 false [(.sc .nilFunc), (.sc .nilFunc), (.sc .nilFunc), (.sc .nilFunc)] [(0, 1, (.t 39)), (1, 1, (.t 40)), (2, 1, (.t 41)), (3, 1, (.t 42))]⟩,
 ⟨some 44, none, .len (.t 43) (pu (.call ⟨.builtin .len, #[(.tmp 43)], #[80]⟩) 3)⟩,
 ⟨some 45, none, .mv (.k (.sc (.int .i64 0)))⟩])
 (.block 0 (.loop (.seq (.reg [⟨some 46, none, .bin .lss false (.t 45) (.t 44) (pu (.binOp .lss 3 (.tmp 45) (.tmp 44) 3) 0)⟩])
 (.seq (.cond (.t 46) .skip
 (.exit 0))
 (.seq (.block 1 (.seq (.reg [⟨some 47, none, .ixs 1 (.t 43) (.t 45)⟩,
 ⟨some 48, none, .ld none (.t 47)⟩,
 ⟨some 11, none, .mv (.t 48)⟩])
 (.seq (.reg [⟨some 49, none, .mv (.t 11)⟩,
 ⟨some 50, none, .callv (.t 49) []⟩,
 ⟨some 12, none, .mv (.t 50)⟩])
 (.seq (.reg [⟨some 51, none, .mv (.t 12)⟩,
 ⟨some 52, none, .bin .neq false (.t 51) (.k (.sc (.int .i64 0))) (pu (.binOp .neq 34 (.tmp 51) (.const (.int .i64 0)) 34) 4)⟩])
 (.cond (.t 52) (.seq (.drw [0, 0, 0, 1, 11, 31] [⟨some 53, none, .ld (some 7) (.t 2)⟩,
 ⟨some 54, none, .ld (some 7) (.t 3)⟩,
 ⟨some 55, none, .mv (.t 12)⟩,
 ⟨none, none, .st 7 (.t 4) (.t 53)⟩,
 ⟨none, none, .st 7 (.t 5) (.t 54)⟩,
 ⟨some 6, none, .mv (.t 55)⟩])
 .ret)
 .skip)))))
 (.reg [⟨some 56, none, .bin .add false (.t 45) (.k (.sc (.int .i64 1))) (pu (.binOp .add 3 (.tmp 45) (.const (.int .i64 1)) 3) 3)⟩,
 ⟨some 45, none, .mv (.t 56)⟩])))))))
 (.seq (.drw [0, 1, 0, 4, 3, 31, 63] [⟨some 57, none, .sh 0 (.t 9)⟩,
 ⟨some 58, none, .ld (some 7) (.t 57)⟩,
 ⟨some 59, none, .sh 7 (.t 9)⟩,
 ⟨some 60, none, .ld (some 7) (.t 59)⟩,
 ⟨none, none, .st 7 (.t 4) (.t 58)⟩,
 ⟨none, none, .st 7 (.t 5) (.t 60)⟩,
 ⟨some 6, none, .mv (.k (.sc (.int .i64 0)))⟩])
 .ret)))))))
def k17 : List Nat := [0, 1, 2, 3, 4, 5, 6, 7, 8, 9, 11, 12, 16, 23, 31, 43, 44, 45, 46, 52]
theorem ic17 : factsI Tryz.prog 17 = some (61, [.cell 4 29, .cell 5 29, .tmp 6], c17) := by kernel_rfl
def c18 : IC :=
 (.seq (.reg [⟨some 2, none, .bx (.t 0)⟩,
 ⟨some 4, none, .mv (.k (.sc (.int .i64 0)))⟩])
 (.seq (.seq (.reg [⟨some 7, none, .sh 6 (.t 2)⟩,
 ⟨some 8, none, .ld none (.t 7)⟩,
 ⟨some 9, none, .len (.t 8) (pu (.call ⟨.builtin .len, #[(.tmp 8)], #[27]⟩) 3)⟩,
 ⟨some 10, none, .mv (.k (.sc (.int .i64 0)))⟩])
 (.block 0 (.loop (.seq (.reg [⟨some 11, none, .bin .lss false (.t 10) (.t 9) (pu (.binOp .lss 3 (.tmp 10) (.tmp 9) 3) 0)⟩])
 (.seq (.cond (.t 11) .skip
 (.exit 0))
 (.seq (.block 1 (.seq (.reg [⟨some 12, none, .mv (.t 10)⟩,
 ⟨some 13, none, .ixs 6 (.t 8) (.t 10)⟩,
 ⟨some 14, none, .ld (some 6) (.t 13)⟩,
 ⟨some 6, none, .al (.agg [.sc (.string ⟨#[]⟩), .sc (.string ⟨#[]⟩), .sc (.int .i64 0), .sc (.int .i64 0), .sc (.int .i64 0), .sc (.int .i64 0)]) 6⟩,
 ⟨some 5, none, .mv (.t 12)⟩,
 ⟨none, none, .st 6 (.t 6) (.t 14)⟩])
 (.seq (.reg [⟨some 15, none, .sh 0 (.t 6)⟩,
 ⟨some 16, none, .ld none (.t 15)⟩,
 ⟨some 17, none, .mv (.t 1)⟩,
 ⟨some 18, none, .bin .eql false (.t 16) (.t 17) (pu (.binOp .eql 9 (.tmp 16) (.tmp 17) 9) 4)⟩])
 (.cond (.t 18) (.seq (.reg [⟨some 19, none, .mv (.t 5)⟩,
 ⟨some 4, none, .mv (.t 19)⟩])
 .ret)
 .skip))))
 (.reg [⟨some 20, none, .bin .add false (.t 10) (.k (.sc (.int .i64 1))) (pu (.binOp .add 3 (.tmp 10) (.const (.int .i64 1)) 3) 3)⟩,
 ⟨some 10, none, .mv (.t 20)⟩])))))))
 (.seq (.reg [⟨some 4, none, .mv (.k (.sc (.int .i64 (-1))))⟩])
 .ret)))
def k18 : List Nat := [0, 1, 2, 4, 5, 6, 8, 9, 10, 11, 18]
theorem ic18 : factsI Tryz.prog 18 = some (21, [.tmp 4], c18) := by kernel_rfl
def c19 : IC :=
 (.seq (.reg [⟨some 5, none, .bx (.t 0)⟩,
 ⟨some 10, none, .al (.agg [.sc (.string ⟨#[]⟩), .sc (.string ⟨#[]⟩), .sc (.int .i64 0), .sc (.int .i64 0), .sc (.int .i64 0), .sc (.int .i64 0)]) 6⟩,
 ⟨some 11, none, .mv (.k (.sc (.int .i64 0)))⟩])
 (.seq (.seq (.reg [⟨some 16, none, .ld (some 6) (.t 5)⟩,
 ⟨some 17, none, .call 45 [(.t 16)]⟩,
 ⟨some 12, none, .mv (.t 17)⟩])
 (.seq (.reg [⟨some 18, none, .mv (.t 12)⟩,
 ⟨some 19, none, .bin .neq false (.t 18) (.k (.sc (.int .i64 0))) (pu (.binOp .neq 34 (.tmp 18) (.const (.int .i64 0)) 34) 4)⟩])
 (.cond (.t 19) (.seq (.reg [⟨some 20, none, .ld (some 6) (.t 5)⟩,
 ⟨some 21, none, .mv (.t 12)⟩,
 ⟨none, none, .st 6 (.t 10) (.t 20)⟩,
 ⟨some 11, none, .mv (.t 21)⟩])
 .ret)
 .skip)))
 (.seq (.seq (.reg [⟨some 22, none, .mv (.t 1)⟩,
 ⟨some 23, none, .call 30 [(.t 22)]⟩,
 ⟨some 24, none, .un .not (.t 23) (pu (.unOp .not 4 (.tmp 23)) 4)⟩])
 (.cond (.t 24) (.seq (.reg [⟨some 25, none, .ld (some 6) (.t 5)⟩,
 ⟨none, none, .st 6 (.t 10) (.t 25)⟩,
 ⟨some 11, none, .mv (.k (.sc (.int .i64 4)))⟩])
 .ret)
 .skip))
 (.seq (.seq (.reg [⟨some 26, none, .ld (some 6) (.t 5)⟩,
 ⟨some 27, none, .mv (.t 2)⟩,
 ⟨some 28, none, .mv (.t 3)⟩,
 ⟨some 29, none, .mv (.t 4)⟩,
 ⟨some 30, none, .call 46 [(.t 26), (.t 27), (.t 28), (.t 29)]⟩,
 ⟨some 31, none, .un .not (.t 30) (pu (.unOp .not 4 (.tmp 30)) 4)⟩])
 (.cond (.t 31) (.seq (.reg [⟨some 32, none, .ld (some 6) (.t 5)⟩,
 ⟨none, none, .st 6 (.t 10) (.t 32)⟩,
 ⟨some 11, none, .mv (.k (.sc (.int .i64 2)))⟩])
 .ret)
 .skip))
 (.seq (.seq (.reg [⟨some 33, none, .sh 2 (.t 5)⟩,
 ⟨some 34, none, .ld none (.t 33)⟩,
 ⟨some 35, none, .bin .eql false (.t 34) (.k (.sc (.int .i64 4))) (pu (.binOp .eql 3 (.tmp 34) (.const (.int .i64 4)) 3) 4)⟩,
 ⟨some 36, none, .mv (.t 35)⟩,
 ⟨some 37, (some ((some 36), false)), .sh 2 (.t 5)⟩,
 ⟨some 38, (some ((some 36), false)), .ld none (.t 37)⟩,
 ⟨some 39, (some ((some 36), false)), .bin .eql false (.t 38) (.k (.sc (.int .i64 5))) (pu (.binOp .eql 3 (.tmp 38) (.const (.int .i64 5)) 3) 4)⟩,
 ⟨some 40, none, .pick (.t 36) (.k (.sc (.bool true))) (.t 39)⟩,
 ⟨some 41, none, .mv (.t 40)⟩,
 ⟨some 42, (some ((some 41), false)), .sh 2 (.t 5)⟩,
 ⟨some 43, (some ((some 41), false)), .ld none (.t 42)⟩,
 ⟨some 44, (some ((some 41), false)), .bin .eql false (.t 43) (.k (.sc (.int .i64 6))) (pu (.binOp .eql 3 (.tmp 43) (.const (.int .i64 6)) 3) 4)⟩,
 ⟨some 45, none, .pick (.t 41) (.k (.sc (.bool true))) (.t 44)⟩])
 (.cond (.t 45) (.seq (.reg [⟨some 46, none, .ld (some 6) (.t 5)⟩,
 ⟨none, none, .st 6 (.t 10) (.t 46)⟩,
 ⟨some 11, none, .mv (.k (.sc (.int .i64 10)))⟩])
 .ret)
 .skip))
 (.seq (.seq (.reg [⟨some 47, none, .mv (.t 2)⟩,
 ⟨some 48, none, .mv (.t 1)⟩,
 ⟨some 49, none, .sh 1 (.t 5)⟩,
 ⟨some 50, none, .ld none (.t 49)⟩,
 ⟨some 51, none, .bin .eql false (.t 48) (.t 50) (pu (.binOp .eql 9 (.tmp 48) (.tmp 50) 9) 4)⟩,
 ⟨some 52, none, .call 47 [(.t 47), (.t 51)]⟩,
 ⟨some 53, none, .un .not (.t 52) (pu (.unOp .not 4 (.tmp 52)) 4)⟩])
 (.cond (.t 53) (.seq (.reg [⟨some 54, none, .ld (some 6) (.t 5)⟩,
 ⟨none, none, .st 6 (.t 10) (.t 54)⟩,
 ⟨some 11, none, .mv (.k (.sc (.int .i64 15)))⟩])
 .ret)
 .skip))
 (.seq (.reg [⟨some 55, none, .mv (.t 4)⟩,
 ⟨some 56, none, .sh 3 (.t 5)⟩,
 ⟨some 57, none, .ld none (.t 56)⟩,
 ⟨some 58, none, .bin .add false (.t 57) (.k (.sc (.int .i64 43200))) (pu (.binOp .add 3 (.tmp 57) (.const (.int .i64 43200)) 3) 3)⟩,
 ⟨some 59, none, .bin .geq false (.t 55) (.t 58) (pu (.binOp .geq 3 (.tmp 55) (.tmp 58) 3) 4)⟩,
 ⟨some 13, none, .mv (.t 59)⟩])
 (.seq (.seq (.reg [⟨some 60, none, .mv (.t 2)⟩,
 ⟨some 61, none, .bin .eql false (.t 60) (.k (.sc (.int .i64 1))) (pu (.binOp .eql 3 (.tmp 60) (.const (.int .i64 1)) 3) 4)⟩,
 ⟨some 62, none, .mv (.t 61)⟩,
 ⟨some 63, (some ((some 62), true)), .mv (.t 13)⟩,
 ⟨some 64, none, .pick (.t 62) (.t 63) (.k (.sc (.bool false)))⟩])
 (.cond (.t 64) (.seq (.reg [⟨some 65, none, .ld (some 6) (.t 5)⟩,
 ⟨none, none, .st 6 (.t 10) (.t 65)⟩,
 ⟨some 11, none, .mv (.k (.sc (.int .i64 12)))⟩])
 .ret)
 .skip))
 (.seq (.reg [⟨some 67, none, .sh 2 (.t 5)⟩,
 ⟨some 68, none, .ld none (.t 67)⟩,
 ⟨some 69, none, .mv (.t 2)⟩,
 ⟨some 70, none, .mv (.t 13)⟩,
 ⟨some 71, none, .call 48 [(.t 68), (.t 69), (.t 70)]⟩,
 ⟨some 66, none, .mv (.t 71)⟩,
 ⟨some 72, none, .ext (.t 66) 0⟩,
 ⟨some 73, none, .ext (.t 66) 1⟩,
 ⟨some 14, none, .mv (.t 72)⟩,
 ⟨some 15, none, .mv (.t 73)⟩])
 (.seq (.seq (.reg [⟨some 74, none, .mv (.t 15)⟩,
 ⟨some 75, none, .un .not (.t 74) (pu (.unOp .not 4 (.tmp 74)) 4)⟩])
 (.cond (.t 75) (.seq (.reg [⟨some 76, none, .ld (some 6) (.t 5)⟩,
 ⟨none, none, .st 6 (.t 10) (.t 76)⟩,
 ⟨some 11, none, .mv (.k (.sc (.int .i64 10)))⟩])
 .ret)
 .skip))
 (.seq (.reg [⟨some 77, none, .mv (.t 14)⟩,
 ⟨some 78, none, .sh 2 (.t 5)⟩,
 ⟨none, none, .st 1 (.t 78) (.t 77)⟩])
 (.seq (.seq (.reg [⟨some 79, none, .mv (.t 2)⟩,
 ⟨some 80, none, .bin .eql false (.t 79) (.k (.sc (.int .i64 3))) (pu (.binOp .eql 3 (.tmp 79) (.const (.int .i64 3)) 3) 4)⟩])
 (.cond (.t 80) (.reg [⟨some 81, none, .mv (.t 3)⟩,
 ⟨some 82, none, .sh 5 (.t 5)⟩,
 ⟨none, none, .st 1 (.t 82) (.t 81)⟩])
 .skip))
 (.seq (.reg [⟨some 83, none, .ld (some 6) (.t 5)⟩,
 ⟨none, none, .st 6 (.t 10) (.t 83)⟩,
 ⟨some 11, none, .mv (.k (.sc (.int .i64 0)))⟩])
 .ret)))))))))))))
def k19 : List Nat := [0, 1, 2, 3, 4, 5, 10, 11, 12, 13, 14, 15, 19, 24, 31, 45, 53, 64, 75, 80]
theorem ic19 : factsI Tryz.prog 19 = some (84, [.cell 10 54, .tmp 11], c19) := by kernel_rfl
def c20 : IC :=
 (.seq (.reg [⟨some 1, none, .bx (.t 0)⟩,
 ⟨some 2, none, .al (.agg [.sc (.string ⟨#[]⟩), .sc (.string ⟨#[]⟩), .sc (.slice none 0 0), .sc (.slice none 0 0), .sc (.int .i64 0), .sc (.slice none 0 0), .sc (.slice none 0 0)]) 7⟩])
 (.seq (.reg [⟨some 8, none, .ld (some 7) (.t 1)⟩,
 ⟨some 3, none, .al (.agg [.sc (.string ⟨#[]⟩), .sc (.string ⟨#[]⟩), .sc (.slice none 0 0), .sc (.slice none 0 0), .sc (.int .i64 0), .sc (.slice none 0 0), .sc (.slice none 0 0)]) 7⟩,
 ⟨none, none, .st 7 (.t 3) (.t 8)⟩])
 (.seq (.reg [⟨some 9, none, .sh 1 (.t 1)⟩,
 ⟨some 10, none, .sh 2 (.t 9)⟩,
 ⟨some 11, none, .ld none (.t 10)⟩,
 ⟨some 12, none, .app 1 8 (.k (.sc (.slice none 0 0))) (.t 11)⟩,
 ⟨some 13, none, .sh 1 (.t 3)⟩,
 ⟨some 14, none, .sh 2 (.t 13)⟩,
 ⟨none, none, .st 1 (.t 14) (.t 12)⟩])
 (.seq (.reg [⟨some 15, none, .sh 1 (.t 1)⟩,
 ⟨some 16, none, .sh 1 (.t 15)⟩,
 ⟨some 17, none, .ld none (.t 16)⟩,
 ⟨some 18, none, .len (.t 17) (pu (.call ⟨.builtin .len, #[(.tmp 17)], #[22]⟩) 3)⟩,
 ⟨some 19, none, .mks 6 80 (.agg [.sc (.int .i64 0), .sc (.string ⟨#[]⟩), .sc (.string ⟨#[]⟩), .sc (.int .i64 0), .sc (.bool false), .sc (.slice none 0 0)]) (.k (.sc (.int .i64 0))) (.t 18)⟩,
 ⟨some 20, none, .sh 1 (.t 3)⟩,
 ⟨some 21, none, .sh 1 (.t 20)⟩,
 ⟨none, none, .st 1 (.t 21) (.t 19)⟩])
 (.seq (.seq (.reg [⟨some 22, none, .sh 1 (.t 1)⟩,
 ⟨some 23, none, .sh 1 (.t 22)⟩,
 ⟨some 24, none, .ld none (.t 23)⟩,
 ⟨some 25, none, .len (.t 24) (pu (.call ⟨.builtin .len, #[(.tmp 24)], #[22]⟩) 3)⟩,
 ⟨some 26, none, .mv (.k (.sc (.int .i64 0)))⟩])
 (.block 0 (.loop (.seq (.reg [⟨some 27, none, .bin .lss false (.t 26) (.t 25) (pu (.binOp .lss 3 (.tmp 26) (.tmp 25) 3) 0)⟩])
 (.seq (.cond (.t 27) .skip
 (.exit 0))
 (.seq (.block 1 (.seq (.reg [⟨some 28, none, .ixs 6 (.t 24) (.t 26)⟩,
 ⟨some 29, none, .ld (some 6) (.t 28)⟩,
 ⟨some 5, none, .al (.agg [.sc (.int .i64 0), .sc (.string ⟨#[]⟩), .sc (.string ⟨#[]⟩), .sc (.int .i64 0), .sc (.bool false), .sc (.slice none 0 0)]) 6⟩,
 ⟨none, none, .st 6 (.t 5) (.t 29)⟩])
 (.seq (.reg [⟨some 30, none, .sh 5 (.t 5)⟩,
 ⟨some 31, none, .ld none (.t 30)⟩,
 ⟨some 32, none, .app 1 1 (.k (.sc (.slice none 0 0))) (.t 31)⟩,
 ⟨some 33, none, .sh 5 (.t 5)⟩,
 ⟨none, none, .st 1 (.t 33) (.t 32)⟩])
 (.reg [⟨some 34, none, .sh 1 (.t 3)⟩,
 ⟨some 35, none, .sh 1 (.t 34)⟩,
 ⟨some 36, none, .ld none (.t 35)⟩,
 ⟨some 37, none, .ld (some 6) (.t 5)⟩,
 ⟨some 38, none, .bsl 6 1 true [.sc (.int .i64 0), .sc (.string ⟨#[]⟩), .sc (.string ⟨#[]⟩), .sc (.int .i64 0), .sc (.bool false), .sc (.slice none 0 0)] [(0, 6, (.t 37))]⟩,
 ⟨some 39, none, .app 6 80 (.t 36) (.t 38)⟩,
 ⟨some 40, none, .sh 1 (.t 3)⟩,
 ⟨some 41, none, .sh 1 (.t 40)⟩,
 ⟨none, none, .st 1 (.t 41) (.t 39)⟩]))))
 (.reg [⟨some 42, none, .bin .add false (.t 26) (.k (.sc (.int .i64 1))) (pu (.binOp .add 3 (.tmp 26) (.const (.int .i64 1)) 3) 3)⟩,
 ⟨some 26, none, .mv (.t 42)⟩])))))))
 (.seq (.reg [⟨some 43, none, .sh 5 (.t 1)⟩,
 ⟨some 44, none, .ld none (.t 43)⟩,
 ⟨some 45, none, .len (.t 44) (pu (.call ⟨.builtin .len, #[(.tmp 44)], #[26]⟩) 3)⟩,
 ⟨some 46, none, .bin .add false (.t 45) (.k (.sc (.int .i64 1))) (pu (.binOp .add 3 (.tmp 45) (.const (.int .i64 1)) 3) 3)⟩,
 ⟨some 47, none, .mks 14 184 (.agg [.sc (.string ⟨#[]⟩), .sc (.string ⟨#[]⟩), .sc (.string ⟨#[]⟩), .sc (.string ⟨#[]⟩), .sc (.int .i64 0), .sc (.int .i64 0), .sc (.int .i64 0), .sc (.int .i64 0), .sc (.string ⟨#[]⟩), .sc (.string ⟨#[]⟩), .sc (.slice none 0 0), .sc (.int .i64 0), .sc (.bool false), .sc (.string ⟨#[]⟩)]) (.k (.sc (.int .i64 0))) (.t 46)⟩,
 ⟨some 48, none, .sh 5 (.t 3)⟩,
 ⟨none, none, .st 1 (.t 48) (.t 47)⟩])
 (.seq (.seq (.reg [⟨some 49, none, .sh 5 (.t 1)⟩,
 ⟨some 50, none, .ld none (.t 49)⟩,
 ⟨some 51, none, .len (.t 50) (pu (.call ⟨.builtin .len, #[(.tmp 50)], #[26]⟩) 3)⟩,
 ⟨some 52, none, .mv (.k (.sc (.int .i64 0)))⟩])
 (.block 2 (.loop (.seq (.reg [⟨some 53, none, .bin .lss false (.t 52) (.t 51) (pu (.binOp .lss 3 (.tmp 52) (.tmp 51) 3) 0)⟩])
 (.seq (.cond (.t 53) .skip
 (.exit 2))
 (.seq (.block 3 (.seq (.reg [⟨some 54, none, .ixs 14 (.t 50) (.t 52)⟩,
 ⟨some 55, none, .ld (some 14) (.t 54)⟩,
 ⟨some 7, none, .al (.agg [.sc (.string ⟨#[]⟩), .sc (.string ⟨#[]⟩), .sc (.string ⟨#[]⟩), .sc (.string ⟨#[]⟩), .sc (.int .i64 0), .sc (.int .i64 0), .sc (.int .i64 0), .sc (.int .i64 0), .sc (.string ⟨#[]⟩), .sc (.string ⟨#[]⟩), .sc (.slice none 0 0), .sc (.int .i64 0), .sc (.bool false), .sc (.string ⟨#[]⟩)]) 14⟩,
 ⟨none, none, .st 14 (.t 7) (.t 55)⟩])
 (.drw [0, 1, 0, 4, 12, 31, 63, 127] [⟨some 56, none, .sh 5 (.t 3)⟩,
 ⟨some 57, none, .ld none (.t 56)⟩,
 ⟨some 58, none, .ld (some 14) (.t 7)⟩,
 ⟨some 59, none, .call 40 [(.t 58)]⟩,
 ⟨some 60, none, .bsl 14 1 true [.sc (.string ⟨#[]⟩), .sc (.string ⟨#[]⟩), .sc (.string ⟨#[]⟩), .sc (.string ⟨#[]⟩), .sc (.int .i64 0), .sc (.int .i64 0), .sc (.int .i64 0), .sc (.int .i64 0), .sc (.string ⟨#[]⟩), .sc (.string ⟨#[]⟩), .sc (.slice none 0 0), .sc (.int .i64 0), .sc (.bool false), .sc (.string ⟨#[]⟩)] [(0, 14, (.t 59))]⟩,
 ⟨some 61, none, .app 14 184 (.t 57) (.t 60)⟩,
 ⟨some 62, none, .sh 5 (.t 3)⟩,
 ⟨none, none, .st 1 (.t 62) (.t 61)⟩])))
 (.reg [⟨some 63, none, .bin .add false (.t 52) (.k (.sc (.int .i64 1))) (pu (.binOp .add 3 (.tmp 52) (.const (.int .i64 1)) 3) 3)⟩,
 ⟨some 52, none, .mv (.t 63)⟩])))))))
 (.seq (.reg [⟨some 64, none, .sh 6 (.t 1)⟩,
 ⟨some 65, none, .ld none (.t 64)⟩,
 ⟨some 66, none, .len (.t 65) (pu (.call ⟨.builtin .len, #[(.tmp 65)], #[27]⟩) 3)⟩,
 ⟨some 67, none, .sh 6 (.t 1)⟩,
 ⟨some 68, none, .ld none (.t 67)⟩,
 ⟨some 69, none, .len (.t 68) (pu (.call ⟨.builtin .len, #[(.tmp 68)], #[27]⟩) 3)⟩,
 ⟨some 70, none, .bin .add false (.t 69) (.k (.sc (.int .i64 1))) (pu (.binOp .add 3 (.tmp 69) (.const (.int .i64 1)) 3) 3)⟩,
 ⟨some 71, none, .mks 6 64 (.agg [.sc (.string ⟨#[]⟩), .sc (.string ⟨#[]⟩), .sc (.int .i64 0), .sc (.int .i64 0), .sc (.int .i64 0), .sc (.int .i64 0)]) (.t 66) (.t 70)⟩,
 ⟨some 72, none, .sh 6 (.t 3)⟩,
 ⟨none, none, .st 1 (.t 72) (.t 71)⟩])
 (.seq (.reg [⟨some 73, none, .sh 6 (.t 3)⟩,
 ⟨some 74, none, .ld none (.t 73)⟩,
 ⟨some 75, none, .sh 6 (.t 1)⟩,
 ⟨some 76, none, .ld none (.t 75)⟩,
 ⟨some 77, none, .pur (pu (.call ⟨.builtin .copy, #[(.tmp 74), (.tmp 76)], #[27, 27]⟩) 3)⟩])
 (.seq (.reg [⟨some 78, none, .ld (some 7) (.t 3)⟩,
 ⟨none, none, .st 7 (.t 2) (.t 78)⟩])
 .ret))))))))))
def k20 : List Nat := [0, 1, 2, 3, 5, 7, 24, 25, 26, 27, 50, 51, 52, 53]
theorem ic20 : factsI Tryz.prog 20 = some (79, [.cell 2 29], c20) := by kernel_rfl
def c21 : IC :=
 (.seq (.reg [⟨some 1, none, .bx (.t 0)⟩,
 ⟨some 2, none, .mv (.k (.sc (.int .i64 0)))⟩])
 (.seq (.seq (.reg [⟨some 5, none, .sh 0 (.t 1)⟩,
 ⟨some 6, none, .ld none (.t 5)⟩,
 ⟨some 7, none, .call 49 [(.t 6)]⟩,
 ⟨some 8, none, .un .not (.t 7) (pu (.unOp .not 4 (.tmp 7)) 4)⟩])
 (.cond (.t 8) (.seq (.reg [⟨some 2, none, .mv (.k (.sc (.int .i64 4)))⟩])
 .ret)
 .skip))
 (.seq (.seq (.reg [⟨some 9, none, .sh 1 (.t 1)⟩,
 ⟨some 10, none, .ld (some 4) (.t 9)⟩,
 ⟨some 11, none, .call 50 [(.t 10)]⟩,
 ⟨some 3, none, .mv (.t 11)⟩])
 (.seq (.reg [⟨some 12, none, .mv (.t 3)⟩,
 ⟨some 13, none, .bin .neq false (.t 12) (.k (.sc (.int .i64 0))) (pu (.binOp .neq 34 (.tmp 12) (.const (.int .i64 0)) 34) 4)⟩])
 (.cond (.t 13) (.seq (.reg [⟨some 14, none, .mv (.t 3)⟩,
 ⟨some 2, none, .mv (.t 14)⟩])
 .ret)
 .skip)))
 (.seq (.seq (.reg [⟨some 15, none, .sh 1 (.t 1)⟩,
 ⟨some 16, none, .sh 0 (.t 15)⟩,
 ⟨some 17, none, .ld none (.t 16)⟩,
 ⟨some 18, none, .sh 0 (.t 1)⟩,
 ⟨some 19, none, .ld none (.t 18)⟩,
 ⟨some 20, none, .bin .neq false (.t 17) (.t 19) (pu (.binOp .neq 9 (.tmp 17) (.tmp 19) 9) 4)⟩])
 (.cond (.t 20) (.seq (.reg [⟨some 2, none, .mv (.k (.sc (.int .i64 1)))⟩])
 .ret)
 .skip))
 (.seq (.seq (.reg [⟨some 21, none, .ld (some 7) (.t 1)⟩,
 ⟨some 22, none, .call 51 [(.t 21)]⟩,
 ⟨some 4, none, .mv (.t 22)⟩])
 (.seq (.reg [⟨some 23, none, .mv (.t 4)⟩,
 ⟨some 24, none, .bin .neq false (.t 23) (.k (.sc (.int .i64 0))) (pu (.binOp .neq 34 (.tmp 23) (.const (.int .i64 0)) 34) 4)⟩])
 (.cond (.t 24) (.seq (.reg [⟨some 25, none, .mv (.t 4)⟩,
 ⟨some 2, none, .mv (.t 25)⟩])
 .ret)
 .skip)))
 (.seq (.reg [⟨some 26, none, .ld (some 7) (.t 1)⟩,
 ⟨some 27, none, .call 52 [(.t 26)]⟩,
 ⟨some 2, none, .mv (.t 27)⟩])
 .ret))))))
def k21 : List Nat := [0, 1, 2, 3, 4, 8, 13, 20, 24]
theorem ic21 : factsI Tryz.prog 21 = some (28, [.tmp 2], c21) := by kernel_rfl
def c22 : IC :=
 (.seq (.reg [⟨some 4, none, .mv (.k (.sc (.int .i64 0)))⟩])
 (.seq (.seq (.reg [⟨some 5, none, .mv (.k (.sc (.int .i64 0)))⟩])
 (.block 0 (.loop (.seq (.seq (.reg [⟨some 6, none, .mv (.t 5)⟩,
 ⟨some 7, none, .mv (.t 0)⟩,
 ⟨some 8, none, .len (.t 7) (pu (.call ⟨.builtin .len, #[(.tmp 7)], #[27]⟩) 3)⟩,
 ⟨some 9, none, .bin .lss false (.t 6) (.t 8) (pu (.binOp .lss 3 (.tmp 6) (.tmp 8) 3) 4)⟩])
 (.cond (.t 9) .skip
 (.exit 0)))
 (.seq (.block 1 (.seq (.reg [⟨some 12, none, .mv (.t 0)⟩,
 ⟨some 13, none, .mv (.t 5)⟩,
 ⟨some 14, none, .ixs 6 (.t 12) (.t 13)⟩,
 ⟨some 15, none, .sh 0 (.t 14)⟩,
 ⟨some 16, none, .ld none (.t 15)⟩,
 ⟨some 17, none, .mv (.t 1)⟩,
 ⟨some 18, none, .bin .eql false (.t 16) (.t 17) (pu (.binOp .eql 9 (.tmp 16) (.tmp 17) 9) 4)⟩])
 (.cond (.t 18) (.seq (.reg [⟨some 19, none, .mv (.t 5)⟩,
 ⟨some 4, none, .mv (.t 19)⟩])
 .ret)
 .skip)))
 (.reg [⟨some 10, none, .mv (.t 5)⟩,
 ⟨some 11, none, .bin .add false (.t 10) (.k (.sc (.int .i64 1))) (pu (.binOp .add 3 (.tmp 10) (.const (.int .i64 1)) 3) 3)⟩,
 ⟨some 5, none, .mv (.t 11)⟩]))))))
 (.seq (.reg [⟨some 4, none, .mv (.k (.sc (.int .i64 (-1))))⟩])
 .ret)))
def k22 : List Nat := [0, 1, 4, 5, 9, 18]
theorem ic22 : factsI Tryz.prog 22 = some (20, [.tmp 4], c22) := by kernel_rfl
def c23 : IC :=
 (.seq (.reg [⟨some 5, none, .bx (.t 0)⟩,
 ⟨some 10, none, .al (.agg [.sc (.string ⟨#[]⟩), .sc (.string ⟨#[]⟩), .sc (.int .i64 0), .sc (.int .i64 0), .sc (.int .i64 0), .sc (.int .i64 0)]) 6⟩,
 ⟨some 11, none, .mv (.k (.sc (.int .i64 0)))⟩])
 (.seq (.seq (.reg [⟨some 13, none, .ld (some 6) (.t 5)⟩,
 ⟨some 14, none, .call 53 [(.t 13)]⟩,
 ⟨some 12, none, .mv (.t 14)⟩])
 (.seq (.reg [⟨some 15, none, .mv (.t 12)⟩,
 ⟨some 16, none, .bin .neq false (.t 15) (.k (.sc (.int .i64 0))) (pu (.binOp .neq 34 (.tmp 15) (.const (.int .i64 0)) 34) 4)⟩])
 (.cond (.t 16) (.seq (.reg [⟨some 17, none, .ld (some 6) (.t 5)⟩,
 ⟨some 18, none, .mv (.t 12)⟩,
 ⟨none, none, .st 6 (.t 10) (.t 17)⟩,
 ⟨some 11, none, .mv (.t 18)⟩])
 .ret)
 .skip)))
 (.seq (.seq (.reg [⟨some 19, none, .mv (.t 1)⟩,
 ⟨some 20, none, .call 49 [(.t 19)]⟩,
 ⟨some 21, none, .un .not (.t 20) (pu (.unOp .not 4 (.tmp 20)) 4)⟩])
 (.cond (.t 21) (.seq (.reg [⟨some 22, none, .ld (some 6) (.t 5)⟩,
 ⟨none, none, .st 6 (.t 10) (.t 22)⟩,
 ⟨some 11, none, .mv (.k (.sc (.int .i64 4)))⟩])
 .ret)
 .skip))
 (.seq (.seq (.reg [⟨some 23, none, .ld (some 6) (.t 5)⟩,
 ⟨some 24, none, .mv (.t 2)⟩,
 ⟨some 25, none, .mv (.t 3)⟩,
 ⟨some 26, none, .mv (.t 4)⟩,
 ⟨some 27, none, .call 54 [(.t 23), (.t 24), (.t 25), (.t 26)]⟩,
 ⟨some 28, none, .un .not (.t 27) (pu (.unOp .not 4 (.tmp 27)) 4)⟩])
 (.cond (.t 28) (.seq (.reg [⟨some 29, none, .ld (some 6) (.t 5)⟩,
 ⟨none, none, .st 6 (.t 10) (.t 29)⟩,
 ⟨some 11, none, .mv (.k (.sc (.int .i64 2)))⟩])
 .ret)
 .skip))
 (.seq (.seq (.reg [⟨some 30, none, .sh 2 (.t 5)⟩,
 ⟨some 31, none, .ld none (.t 30)⟩,
 ⟨some 32, none, .bin .geq false (.t 31) (.k (.sc (.int .i64 4))) (pu (.binOp .geq 3 (.tmp 31) (.const (.int .i64 4)) 3) 4)⟩])
 (.cond (.t 32) (.seq (.reg [⟨some 33, none, .ld (some 6) (.t 5)⟩,
 ⟨none, none, .st 6 (.t 10) (.t 33)⟩,
 ⟨some 11, none, .mv (.k (.sc (.int .i64 10)))⟩])
 .ret)
 .skip))
 (.seq (.seq (.reg [⟨some 34, none, .mv (.t 2)⟩,
 ⟨some 35, none, .bin .eql false (.t 34) (.k (.sc (.int .i64 2))) (pu (.binOp .eql 3 (.tmp 34) (.const (.int .i64 2)) 3) 4)⟩,
 ⟨some 36, none, .mv (.t 35)⟩,
 ⟨some 37, (some ((some 36), false)), .mv (.t 2)⟩,
 ⟨some 38, (some ((some 36), false)), .bin .eql false (.t 37) (.k (.sc (.int .i64 5))) (pu (.binOp .eql 3 (.tmp 37) (.const (.int .i64 5)) 3) 4)⟩,
 ⟨some 39, none, .pick (.t 36) (.k (.sc (.bool true))) (.t 38)⟩,
 ⟨some 40, none, .mv (.t 1)⟩,
 ⟨some 41, none, .sh 1 (.t 5)⟩,
 ⟨some 42, none, .ld none (.t 41)⟩,
 ⟨some 43, none, .bin .eql false (.t 40) (.t 42) (pu (.binOp .eql 9 (.tmp 40) (.tmp 42) 9) 4)⟩,
 ⟨some 44, none, .bin .neq true (.t 39) (.t 43) (pu (.binOp .neq 4 (.tmp 39) (.tmp 43) 4) 4)⟩])
 (.cond (.t 44) (.seq (.reg [⟨some 45, none, .ld (some 6) (.t 5)⟩,
 ⟨none, none, .st 6 (.t 10) (.t 45)⟩,
 ⟨some 11, none, .mv (.k (.sc (.int .i64 15)))⟩])
 .ret)
 .skip))
 (.seq (.seq (.reg [⟨some 46, none, .mv (.t 2)⟩,
 ⟨some 47, none, .bin .eql false (.t 46) (.k (.sc (.int .i64 1))) (pu (.binOp .eql 3 (.tmp 46) (.const (.int .i64 1)) 3) 4)⟩,
 ⟨some 48, none, .mv (.t 47)⟩,
 ⟨some 49, (some ((some 48), true)), .mv (.t 4)⟩,
 ⟨some 50, (some ((some 48), true)), .sh 3 (.t 5)⟩,
 ⟨some 51, (some ((some 48), true)), .ld none (.t 50)⟩,
 ⟨some 52, (some ((some 48), true)), .bin .add false (.t 51) (.k (.sc (.int .i64 43200))) (pu (.binOp .add 3 (.tmp 51) (.const (.int .i64 43200)) 3) 3)⟩,
 ⟨some 53, (some ((some 48), true)), .bin .geq false (.t 49) (.t 52) (pu (.binOp .geq 3 (.tmp 49) (.tmp 52) 3) 4)⟩,
 ⟨some 54, none, .pick (.t 48) (.t 53) (.k (.sc (.bool false)))⟩])
 (.cond (.t 54) (.seq (.reg [⟨some 55, none, .ld (some 6) (.t 5)⟩,
 ⟨none, none, .st 6 (.t 10) (.t 55)⟩,
 ⟨some 11, none, .mv (.k (.sc (.int .i64 12)))⟩])
 .ret)
 .skip))
 (.seq (.seq (.reg [⟨some 56, none, .ld (some 6) (.t 5)⟩,
 ⟨some 57, none, .mv (.t 2)⟩,
 ⟨some 58, none, .mv (.t 4)⟩,
 ⟨some 59, none, .call 55 [(.t 56), (.t 57), (.t 58)]⟩,
 ⟨some 60, none, .un .not (.t 59) (pu (.unOp .not 4 (.tmp 59)) 4)⟩])
 (.cond (.t 60) (.seq (.reg [⟨some 61, none, .ld (some 6) (.t 5)⟩,
 ⟨none, none, .st 6 (.t 10) (.t 61)⟩,
 ⟨some 11, none, .mv (.k (.sc (.int .i64 10)))⟩])
 .ret)
 .skip))
 (.seq (.reg [⟨some 62, none, .mv (.t 2)⟩,
 ⟨some 63, none, .call 56 [(.t 62)]⟩,
 ⟨some 64, none, .mv (.t 3)⟩,
 ⟨some 65, none, .sh 2 (.t 5)⟩,
 ⟨none, none, .st 1 (.t 65) (.t 63)⟩,
 ⟨some 66, none, .sh 5 (.t 5)⟩,
 ⟨none, none, .st 1 (.t 66) (.t 64)⟩])
 (.seq (.reg [⟨some 67, none, .ld (some 6) (.t 5)⟩,
 ⟨none, none, .st 6 (.t 10) (.t 67)⟩,
 ⟨some 11, none, .mv (.k (.sc (.int .i64 0)))⟩])
 .ret))))))))))
def k23 : List Nat := [0, 1, 2, 3, 4, 5, 10, 11, 12, 16, 21, 28, 32, 44, 54, 60]
theorem ic23 : factsI Tryz.prog 23 = some (68, [.cell 10 54, .tmp 11], c23) := by kernel_rfl
def c24 : IC :=
 (.seq (.reg [⟨some 2, none, .bx (.t 0)⟩,
 ⟨some 3, none, .bx (.t 1)⟩,
 ⟨some 4, none, .mv (.k (.sc (.bool false)))⟩])
 (.seq (.seq (.reg [⟨some 9, none, .sh 0 (.t 2)⟩,
 ⟨some 10, none, .ld none (.t 9)⟩,
 ⟨some 11, none, .sh 0 (.t 3)⟩,
 ⟨some 12, none, .ld none (.t 11)⟩,
 ⟨some 13, none, .bin .neq false (.t 10) (.t 12) (pu (.binOp .neq 9 (.tmp 10) (.tmp 12) 9) 4)⟩,
 ⟨some 14, none, .mv (.t 13)⟩,
 ⟨some 15, (some ((some 14), false)), .sh 3 (.t 2)⟩,
 ⟨some 16, (some ((some 14), false)), .ld none (.t 15)⟩,
 ⟨some 17, (some ((some 14), false)), .sh 3 (.t 3)⟩,
 ⟨some 18, (some ((some 14), false)), .ld none (.t 17)⟩,
 ⟨some 19, (some ((some 14), false)), .bin .neq false (.t 16) (.t 18) (pu (.binOp .neq 3 (.tmp 16) (.tmp 18) 3) 4)⟩,
 ⟨some 20, none, .pick (.t 14) (.k (.sc (.bool true))) (.t 19)⟩,
 ⟨some 21, none, .mv (.t 20)⟩,
 ⟨some 22, (some ((some 21), false)), .sh 1 (.t 2)⟩,
 ⟨some 23, (some ((some 21), false)), .ld none (.t 22)⟩,
 ⟨some 24, (some ((some 21), false)), .len (.t 23) (pu (.call ⟨.builtin .len, #[(.tmp 23)], #[22]⟩) 3)⟩,
 ⟨some 25, (some ((some 21), false)), .sh 1 (.t 3)⟩,
 ⟨some 26, (some ((some 21), false)), .ld none (.t 25)⟩,
 ⟨some 27, (some ((some 21), false)), .len (.t 26) (pu (.call ⟨.builtin .len, #[(.tmp 26)], #[22]⟩) 3)⟩,
 ⟨some 28, (some ((some 21), false)), .bin .neq false (.t 24) (.t 27) (pu (.binOp .neq 3 (.tmp 24) (.tmp 27) 3) 4)⟩,
 ⟨some 29, none, .pick (.t 21) (.k (.sc (.bool true))) (.t 28)⟩,
 ⟨some 30, none, .mv (.t 29)⟩,
 ⟨some 31, (some ((some 30), false)), .sh 2 (.t 2)⟩,
 ⟨some 32, (some ((some 30), false)), .ld none (.t 31)⟩,
 ⟨some 33, (some ((some 30), false)), .len (.t 32) (pu (.call ⟨.builtin .len, #[(.tmp 32)], #[23]⟩) 3)⟩,
 ⟨some 34, (some ((some 30), false)), .sh 2 (.t 3)⟩,
 ⟨some 35, (some ((some 30), false)), .ld none (.t 34)⟩,
 ⟨some 36, (some ((some 30), false)), .len (.t 35) (pu (.call ⟨.builtin .len, #[(.tmp 35)], #[23]⟩) 3)⟩,
 ⟨some 37, (some ((some 30), false)), .bin .neq false (.t 33) (.t 36) (pu (.binOp .neq 3 (.tmp 33) (.tmp 36) 3) 4)⟩,
 ⟨some 38, none, .pick (.t 30) (.k (.sc (.bool true))) (.t 37)⟩])
 (.cond (.t 38) (.seq (.reg [⟨some 4, none, .mv (.k (.sc (.bool false)))⟩])
 .ret)
 .skip))
 (.seq (.seq (.reg [⟨some 5, none, .mv (.k (.sc (.int .i64 0)))⟩])
 (.block 0 (.loop (.seq (.seq (.reg [⟨some 39, none, .mv (.t 5)⟩,
 ⟨some 40, none, .sh 2 (.t 2)⟩,
 ⟨some 41, none, .ld none (.t 40)⟩,
 ⟨some 42, none, .len (.t 41) (pu (.call ⟨.builtin .len, #[(.tmp 41)], #[23]⟩) 3)⟩,
 ⟨some 43, none, .bin .lss false (.t 39) (.t 42) (pu (.binOp .lss 3 (.tmp 39) (.tmp 42) 3) 4)⟩])
 (.cond (.t 43) .skip
 (.exit 0)))
 (.seq (.block 1 (.seq (.drw [0, 1, 0, 7, 15, 0, 32, 0, 224, 480, 1023] [⟨some 46, none, .sh 2 (.t 2)⟩,
 ⟨some 47, none, .ld none (.t 46)⟩,
 ⟨some 48, none, .mv (.t 5)⟩,
 ⟨some 49, none, .ixs 1 (.t 47) (.t 48)⟩,
 ⟨some 50, none, .ld none (.t 49)⟩,
 ⟨some 51, none, .sh 2 (.t 3)⟩,
 ⟨some 52, none, .ld none (.t 51)⟩,
 ⟨some 53, none, .mv (.t 5)⟩,
 ⟨some 54, none, .ixs 1 (.t 52) (.t 53)⟩,
 ⟨some 55, none, .ld none (.t 54)⟩,
 ⟨some 56, none, .bin .neq false (.t 50) (.t 55) (pu (.binOp .neq 3 (.tmp 50) (.tmp 55) 3) 4)⟩])
 (.cond (.t 56) (.seq (.reg [⟨some 4, none, .mv (.k (.sc (.bool false)))⟩])
 .ret)
 .skip)))
 (.reg [⟨some 44, none, .mv (.t 5)⟩,
 ⟨some 45, none, .bin .add false (.t 44) (.k (.sc (.int .i64 1))) (pu (.binOp .add 3 (.tmp 44) (.const (.int .i64 1)) 3) 3)⟩,
 ⟨some 5, none, .mv (.t 45)⟩]))))))
 (.seq (.seq (.reg [⟨some 6, none, .mv (.k (.sc (.int .i64 0)))⟩])
 (.block 2 (.loop (.seq (.seq (.reg [⟨some 57, none, .mv (.t 6)⟩,
 ⟨some 58, none, .sh 1 (.t 2)⟩,
 ⟨some 59, none, .ld none (.t 58)⟩,
 ⟨some 60, none, .len (.t 59) (pu (.call ⟨.builtin .len, #[(.tmp 59)], #[22]⟩) 3)⟩,
 ⟨some 61, none, .bin .lss false (.t 57) (.t 60) (pu (.binOp .lss 3 (.tmp 57) (.tmp 60) 3) 4)⟩])
 (.cond (.t 61) .skip
 (.exit 2)))
 (.seq (.block 3 (.seq (.drw [0, 1, 0, 7, 15, 0, 32, 0, 224, 480, 0, 0, 3103, 8191] [⟨some 64, none, .sh 1 (.t 2)⟩,
 ⟨some 65, none, .ld none (.t 64)⟩,
 ⟨some 66, none, .mv (.t 6)⟩,
 ⟨some 67, none, .ixs 6 (.t 65) (.t 66)⟩,
 ⟨some 68, none, .ld (some 6) (.t 67)⟩,
 ⟨some 69, none, .sh 1 (.t 3)⟩,
 ⟨some 70, none, .ld none (.t 69)⟩,
 ⟨some 71, none, .mv (.t 6)⟩,
 ⟨some 72, none, .ixs 6 (.t 70) (.t 71)⟩,
 ⟨some 73, none, .ld (some 6) (.t 72)⟩,
 ⟨some 7, none, .al (.agg [.sc (.int .i64 0), .sc (.string ⟨#[]⟩), .sc (.string ⟨#[]⟩), .sc (.int .i64 0), .sc (.bool false), .sc (.slice none 0 0)]) 6⟩,
 ⟨some 8, none, .al (.agg [.sc (.int .i64 0), .sc (.string ⟨#[]⟩), .sc (.string ⟨#[]⟩), .sc (.int .i64 0), .sc (.bool false), .sc (.slice none 0 0)]) 6⟩,
 ⟨none, none, .st 6 (.t 7) (.t 68)⟩,
 ⟨none, none, .st 6 (.t 8) (.t 73)⟩])
 (.seq (.reg [⟨some 74, none, .sh 0 (.t 7)⟩,
 ⟨some 75, none, .ld none (.t 74)⟩,
 ⟨some 76, none, .sh 0 (.t 8)⟩,
 ⟨some 77, none, .ld none (.t 76)⟩,
 ⟨some 78, none, .bin .neq false (.t 75) (.t 77) (pu (.binOp .neq 3 (.tmp 75) (.tmp 77) 3) 4)⟩,
 ⟨some 79, none, .mv (.t 78)⟩,
 ⟨some 80, (some ((some 79), false)), .sh 1 (.t 7)⟩,
 ⟨some 81, (some ((some 79), false)), .ld none (.t 80)⟩,
 ⟨some 82, (some ((some 79), false)), .sh 1 (.t 8)⟩,
 ⟨some 83, (some ((some 79), false)), .ld none (.t 82)⟩,
 ⟨some 84, (some ((some 79), false)), .bin .neq false (.t 81) (.t 83) (pu (.binOp .neq 9 (.tmp 81) (.tmp 83) 9) 4)⟩,
 ⟨some 85, none, .pick (.t 79) (.k (.sc (.bool true))) (.t 84)⟩,
 ⟨some 86, none, .mv (.t 85)⟩,
 ⟨some 87, (some ((some 86), false)), .sh 2 (.t 7)⟩,
 ⟨some 88, (some ((some 86), false)), .ld none (.t 87)⟩,
 ⟨some 89, (some ((some 86), false)), .sh 2 (.t 8)⟩,
 ⟨some 90, (some ((some 86), false)), .ld none (.t 89)⟩,
 ⟨some 91, (some ((some 86), false)), .bin .neq false (.t 88) (.t 90) (pu (.binOp .neq 9 (.tmp 88) (.tmp 90) 9) 4)⟩,
 ⟨some 92, none, .pick (.t 86) (.k (.sc (.bool true))) (.t 91)⟩,
 ⟨some 93, none, .mv (.t 92)⟩,
 ⟨some 94, (some ((some 93), false)), .sh 3 (.t 7)⟩,
 ⟨some 95, (some ((some 93), false)), .ld none (.t 94)⟩,
 ⟨some 96, (some ((some 93), false)), .sh 3 (.t 8)⟩,
 ⟨some 97, (some ((some 93), false)), .ld none (.t 96)⟩,
 ⟨some 98, (some ((some 93), false)), .bin .neq false (.t 95) (.t 97) (pu (.binOp .neq 3 (.tmp 95) (.tmp 97) 3) 4)⟩,
 ⟨some 99, none, .pick (.t 93) (.k (.sc (.bool true))) (.t 98)⟩,
 ⟨some 100, none, .mv (.t 99)⟩,
 ⟨some 101, (some ((some 100), false)), .sh 4 (.t 7)⟩,
 ⟨some 102, (some ((some 100), false)), .ld none (.t 101)⟩,
 ⟨some 103, (some ((some 100), false)), .sh 4 (.t 8)⟩,
 ⟨some 104, (some ((some 100), false)), .ld none (.t 103)⟩,
 ⟨some 105, (some ((some 100), false)), .bin .neq true (.t 102) (.t 104) (pu (.binOp .neq 4 (.tmp 102) (.tmp 104) 4) 4)⟩,
 ⟨some 106, none, .pick (.t 100) (.k (.sc (.bool true))) (.t 105)⟩,
 ⟨some 107, none, .mv (.t 106)⟩,
 ⟨some 108, (some ((some 107), false)), .sh 5 (.t 7)⟩,
 ⟨some 109, (some ((some 107), false)), .ld none (.t 108)⟩,
 ⟨some 110, (some ((some 107), false)), .pur (pu (.convert 43 9 (.tmp 109)) 9)⟩,
 ⟨some 111, (some ((some 107), false)), .sh 5 (.t 8)⟩,
 ⟨some 112, (some ((some 107), false)), .ld none (.t 111)⟩,
 ⟨some 113, (some ((some 107), false)), .pur (pu (.convert 43 9 (.tmp 112)) 9)⟩,
 ⟨some 114, (some ((some 107), false)), .bin .neq false (.t 110) (.t 113) (pu (.binOp .neq 9 (.tmp 110) (.tmp 113) 9) 4)⟩,
 ⟨some 115, none, .pick (.t 107) (.k (.sc (.bool true))) (.t 114)⟩])
 (.cond (.t 115) (.seq (.reg [⟨some 4, none, .mv (.k (.sc (.bool false)))⟩])
 .ret)
 .skip))))
 (.reg [⟨some 62, none, .mv (.t 6)⟩,
 ⟨some 63, none, .bin .add false (.t 62) (.k (.sc (.int .i64 1))) (pu (.binOp .add 3 (.tmp 62) (.const (.int .i64 1)) 3) 3)⟩,
 ⟨some 6, none, .mv (.t 63)⟩]))))))
 (.seq (.reg [⟨some 4, none, .mv (.k (.sc (.bool true)))⟩])
 .ret)))))
def k24 : List Nat := [0, 1, 2, 3, 4, 5, 6, 7, 8, 38, 43, 56, 61, 115]
theorem ic24 : factsI Tryz.prog 24 = some (116, [.tmp 4], c24) := by kernel_rfl
def c25 : IC :=
 (.seq (.reg [⟨some 2, none, .bx (.t 0)⟩,
 ⟨some 3, none, .bx (.t 1)⟩,
 ⟨some 4, none, .mv (.k (.sc (.bool false)))⟩])
 (.seq (.seq (.reg [⟨some 6, none, .sh 0 (.t 2)⟩,
 ⟨some 7, none, .ld none (.t 6)⟩,
 ⟨some 8, none, .sh 0 (.t 3)⟩,
 ⟨some 9, none, .ld none (.t 8)⟩,
 ⟨some 10, none, .bin .neq false (.t 7) (.t 9) (pu (.binOp .neq 9 (.tmp 7) (.tmp 9) 9) 4)⟩,
 ⟨some 11, none, .mv (.t 10)⟩,
 ⟨some 12, (some ((some 11), false)), .sh 1 (.t 2)⟩,
 ⟨some 13, (some ((some 11), false)), .ld none (.t 12)⟩,
 ⟨some 14, (some ((some 11), false)), .sh 1 (.t 3)⟩,
 ⟨some 15, (some ((some 11), false)), .ld none (.t 14)⟩,
 ⟨some 16, (some ((some 11), false)), .bin .neq false (.t 13) (.t 15) (pu (.binOp .neq 9 (.tmp 13) (.tmp 15) 9) 4)⟩,
 ⟨some 17, none, .pick (.t 11) (.k (.sc (.bool true))) (.t 16)⟩,
 ⟨some 18, none, .mv (.t 17)⟩,
 ⟨some 19, (some ((some 18), false)), .sh 2 (.t 2)⟩,
 ⟨some 20, (some ((some 18), false)), .ld none (.t 19)⟩,
 ⟨some 21, (some ((some 18), false)), .sh 2 (.t 3)⟩,
 ⟨some 22, (some ((some 18), false)), .ld none (.t 21)⟩,
 ⟨some 23, (some ((some 18), false)), .bin .neq false (.t 20) (.t 22) (pu (.binOp .neq 9 (.tmp 20) (.tmp 22) 9) 4)⟩,
 ⟨some 24, none, .pick (.t 18) (.k (.sc (.bool true))) (.t 23)⟩,
 ⟨some 25, none, .mv (.t 24)⟩,
 ⟨some 26, (some ((some 25), false)), .sh 3 (.t 2)⟩,
 ⟨some 27, (some ((some 25), false)), .ld none (.t 26)⟩,
 ⟨some 28, (some ((some 25), false)), .sh 3 (.t 3)⟩,
 ⟨some 29, (some ((some 25), false)), .ld none (.t 28)⟩,
 ⟨some 30, (some ((some 25), false)), .bin .neq false (.t 27) (.t 29) (pu (.binOp .neq 9 (.tmp 27) (.tmp 29) 9) 4)⟩,
 ⟨some 31, none, .pick (.t 25) (.k (.sc (.bool true))) (.t 30)⟩,
 ⟨some 32, none, .mv (.t 31)⟩,
 ⟨some 33, (some ((some 32), false)), .sh 4 (.t 2)⟩,
 ⟨some 34, (some ((some 32), false)), .ld none (.t 33)⟩,
 ⟨some 35, (some ((some 32), false)), .sh 4 (.t 3)⟩,
 ⟨some 36, (some ((some 32), false)), .ld none (.t 35)⟩,
 ⟨some 37, (some ((some 32), false)), .bin .neq false (.t 34) (.t 36) (pu (.binOp .neq 3 (.tmp 34) (.tmp 36) 3) 4)⟩,
 ⟨some 38, none, .pick (.t 32) (.k (.sc (.bool true))) (.t 37)⟩,
 ⟨some 39, none, .mv (.t 38)⟩,
 ⟨some 40, (some ((some 39), false)), .sh 5 (.t 2)⟩,
 ⟨some 41, (some ((some 39), false)), .ld none (.t 40)⟩,
 ⟨some 42, (some ((some 39), false)), .sh 5 (.t 3)⟩,
 ⟨some 43, (some ((some 39), false)), .ld none (.t 42)⟩,
 ⟨some 44, (some ((some 39), false)), .bin .neq false (.t 41) (.t 43) (pu (.binOp .neq 3 (.tmp 41) (.tmp 43) 3) 4)⟩,
 ⟨some 45, none, .pick (.t 39) (.k (.sc (.bool true))) (.t 44)⟩,
 ⟨some 46, none, .mv (.t 45)⟩,
 ⟨some 47, (some ((some 46), false)), .sh 6 (.t 2)⟩,
 ⟨some 48, (some ((some 46), false)), .ld none (.t 47)⟩,
 ⟨some 49, (some ((some 46), false)), .sh 6 (.t 3)⟩,
 ⟨some 50, (some ((some 46), false)), .ld none (.t 49)⟩,
 ⟨some 51, (some ((some 46), false)), .bin .neq false (.t 48) (.t 50) (pu (.binOp .neq 3 (.tmp 48) (.tmp 50) 3) 4)⟩,
 ⟨some 52, none, .pick (.t 46) (.k (.sc (.bool true))) (.t 51)⟩])
 (.cond (.t 52) (.seq (.reg [⟨some 4, none, .mv (.k (.sc (.bool false)))⟩])
 .ret)
 .skip))
 (.seq (.seq (.reg [⟨some 53, none, .sh 7 (.t 2)⟩,
 ⟨some 54, none, .ld none (.t 53)⟩,
 ⟨some 55, none, .sh 7 (.t 3)⟩,
 ⟨some 56, none, .ld none (.t 55)⟩,
 ⟨some 57, none, .bin .neq false (.t 54) (.t 56) (pu (.binOp .neq 3 (.tmp 54) (.tmp 56) 3) 4)⟩,
 ⟨some 58, none, .mv (.t 57)⟩,
 ⟨some 59, (some ((some 58), false)), .sh 8 (.t 2)⟩,
 ⟨some 60, (some ((some 58), false)), .ld none (.t 59)⟩,
 ⟨some 61, (some ((some 58), false)), .sh 8 (.t 3)⟩,
 ⟨some 62, (some ((some 58), false)), .ld none (.t 61)⟩,
 ⟨some 63, (some ((some 58), false)), .bin .neq false (.t 60) (.t 62) (pu (.binOp .neq 9 (.tmp 60) (.tmp 62) 9) 4)⟩,
 ⟨some 64, none, .pick (.t 58) (.k (.sc (.bool true))) (.t 63)⟩,
 ⟨some 65, none, .mv (.t 64)⟩,
 ⟨some 66, (some ((some 65), false)), .sh 9 (.t 2)⟩,
 ⟨some 67, (some ((some 65), false)), .ld none (.t 66)⟩,
 ⟨some 68, (some ((some 65), false)), .sh 9 (.t 3)⟩,
 ⟨some 69, (some ((some 65), false)), .ld none (.t 68)⟩,
 ⟨some 70, (some ((some 65), false)), .bin .neq false (.t 67) (.t 69) (pu (.binOp .neq 9 (.tmp 67) (.tmp 69) 9) 4)⟩,
 ⟨some 71, none, .pick (.t 65) (.k (.sc (.bool true))) (.t 70)⟩,
 ⟨some 72, none, .mv (.t 71)⟩,
 ⟨some 73, (some ((some 72), false)), .sh 11 (.t 2)⟩,
 ⟨some 74, (some ((some 72), false)), .ld none (.t 73)⟩,
 ⟨some 75, (some ((some 72), false)), .sh 11 (.t 3)⟩,
 ⟨some 76, (some ((some 72), false)), .ld none (.t 75)⟩,
 ⟨some 77, (some ((some 72), false)), .bin .neq false (.t 74) (.t 76) (pu (.binOp .neq 3 (.tmp 74) (.tmp 76) 3) 4)⟩,
 ⟨some 78, none, .pick (.t 72) (.k (.sc (.bool true))) (.t 77)⟩,
 ⟨some 79, none, .mv (.t 78)⟩,
 ⟨some 80, (some ((some 79), false)), .sh 12 (.t 2)⟩,
 ⟨some 81, (some ((some 79), false)), .ld none (.t 80)⟩,
 ⟨some 82, (some ((some 79), false)), .sh 12 (.t 3)⟩,
 ⟨some 83, (some ((some 79), false)), .ld none (.t 82)⟩,
 ⟨some 84, (some ((some 79), false)), .bin .neq true (.t 81) (.t 83) (pu (.binOp .neq 4 (.tmp 81) (.tmp 83) 4) 4)⟩,
 ⟨some 85, none, .pick (.t 79) (.k (.sc (.bool true))) (.t 84)⟩,
 ⟨some 86, none, .mv (.t 85)⟩,
 ⟨some 87, (some ((some 86), false)), .sh 13 (.t 2)⟩,
 ⟨some 88, (some ((some 86), false)), .ld none (.t 87)⟩,
 ⟨some 89, (some ((some 86), false)), .sh 13 (.t 3)⟩,
 ⟨some 90, (some ((some 86), false)), .ld none (.t 89)⟩,
 ⟨some 91, (some ((some 86), false)), .bin .neq false (.t 88) (.t 90) (pu (.binOp .neq 9 (.tmp 88) (.tmp 90) 9) 4)⟩,
 ⟨some 92, none, .pick (.t 86) (.k (.sc (.bool true))) (.t 91)⟩,
 ⟨some 93, none, .mv (.t 92)⟩,
 ⟨some 94, (some ((some 93), false)), .sh 10 (.t 2)⟩,
 ⟨some 95, (some ((some 93), false)), .ld none (.t 94)⟩,
 ⟨some 96, (some ((some 93), false)), .len (.t 95) (pu (.call ⟨.builtin .len, #[(.tmp 95)], #[40]⟩) 3)⟩,
 ⟨some 97, (some ((some 93), false)), .sh 10 (.t 3)⟩,
 ⟨some 98, (some ((some 93), false)), .ld none (.t 97)⟩,
 ⟨some 99, (some ((some 93), false)), .len (.t 98) (pu (.call ⟨.builtin .len, #[(.tmp 98)], #[40]⟩) 3)⟩,
 ⟨some 100, (some ((some 93), false)), .bin .neq false (.t 96) (.t 99) (pu (.binOp .neq 3 (.tmp 96) (.tmp 99) 3) 4)⟩,
 ⟨some 101, none, .pick (.t 93) (.k (.sc (.bool true))) (.t 100)⟩])
 (.cond (.t 101) (.seq (.reg [⟨some 4, none, .mv (.k (.sc (.bool false)))⟩])
 .ret)
 .skip))
 (.seq (.seq (.reg [⟨some 5, none, .mv (.k (.sc (.int .i64 0)))⟩])
 (.block 0 (.loop (.seq (.seq (.reg [⟨some 102, none, .mv (.t 5)⟩,
 ⟨some 103, none, .sh 10 (.t 2)⟩,
 ⟨some 104, none, .ld none (.t 103)⟩,
 ⟨some 105, none, .len (.t 104) (pu (.call ⟨.builtin .len, #[(.tmp 104)], #[40]⟩) 3)⟩,
 ⟨some 106, none, .bin .lss false (.t 102) (.t 105) (pu (.binOp .lss 3 (.tmp 102) (.tmp 105) 3) 4)⟩])
 (.cond (.t 106) .skip
 (.exit 0)))
 (.seq (.block 1 (.seq (.drw [0, 1, 0, 7, 15, 0, 32, 0, 224, 480, 1023] [⟨some 109, none, .sh 10 (.t 2)⟩,
 ⟨some 110, none, .ld none (.t 109)⟩,
 ⟨some 111, none, .mv (.t 5)⟩,
 ⟨some 112, none, .ixs 7 (.t 110) (.t 111)⟩,
 ⟨some 113, none, .ld (some 7) (.t 112)⟩,
 ⟨some 114, none, .sh 10 (.t 3)⟩,
 ⟨some 115, none, .ld none (.t 114)⟩,
 ⟨some 116, none, .mv (.t 5)⟩,
 ⟨some 117, none, .ixs 7 (.t 115) (.t 116)⟩,
 ⟨some 118, none, .ld (some 7) (.t 117)⟩,
 ⟨some 119, none, .bin .neq false (.t 113) (.t 118) (pu (.binOp .neq 89 (.tmp 113) (.tmp 118) 89) 4)⟩])
 (.cond (.t 119) (.seq (.reg [⟨some 4, none, .mv (.k (.sc (.bool false)))⟩])
 .ret)
 .skip)))
 (.reg [⟨some 107, none, .mv (.t 5)⟩,
 ⟨some 108, none, .bin .add false (.t 107) (.k (.sc (.int .i64 1))) (pu (.binOp .add 3 (.tmp 107) (.const (.int .i64 1)) 3) 3)⟩,
 ⟨some 5, none, .mv (.t 108)⟩]))))))
 (.seq (.reg [⟨some 4, none, .mv (.k (.sc (.bool true)))⟩])
 .ret)))))
def k25 : List Nat := [0, 1, 2, 3, 4, 5, 52, 101, 106, 119]
theorem ic25 : factsI Tryz.prog 25 = some (120, [.tmp 4], c25) := by kernel_rfl
def c26 : IC :=
 (.seq (.reg [⟨some 2, none, .bx (.t 0)⟩,
 ⟨some 4, none, .mv (.k (.sc (.int .i64 0)))⟩])
 (.seq (.seq (.reg [⟨some 7, none, .sh 5 (.t 2)⟩,
 ⟨some 8, none, .ld none (.t 7)⟩,
 ⟨some 9, none, .len (.t 8) (pu (.call ⟨.builtin .len, #[(.tmp 8)], #[26]⟩) 3)⟩,
 ⟨some 10, none, .mv (.k (.sc (.int .i64 0)))⟩])
 (.block 0 (.loop (.seq (.reg [⟨some 11, none, .bin .lss false (.t 10) (.t 9) (pu (.binOp .lss 3 (.tmp 10) (.tmp 9) 3) 0)⟩])
 (.seq (.cond (.t 11) .skip
 (.exit 0))
 (.seq (.block 1 (.seq (.reg [⟨some 12, none, .mv (.t 10)⟩,
 ⟨some 13, none, .ixs 14 (.t 8) (.t 10)⟩,
 ⟨some 14, none, .ld (some 14) (.t 13)⟩,
 ⟨some 6, none, .al (.agg [.sc (.string ⟨#[]⟩), .sc (.string ⟨#[]⟩), .sc (.string ⟨#[]⟩), .sc (.string ⟨#[]⟩), .sc (.int .i64 0), .sc (.int .i64 0), .sc (.int .i64 0), .sc (.int .i64 0), .sc (.string ⟨#[]⟩), .sc (.string ⟨#[]⟩), .sc (.slice none 0 0), .sc (.int .i64 0), .sc (.bool false), .sc (.string ⟨#[]⟩)]) 14⟩,
 ⟨some 5, none, .mv (.t 12)⟩,
 ⟨none, none, .st 14 (.t 6) (.t 14)⟩])
 (.seq (.reg [⟨some 15, none, .sh 0 (.t 6)⟩,
 ⟨some 16, none, .ld none (.t 15)⟩,
 ⟨some 17, none, .mv (.t 1)⟩,
 ⟨some 18, none, .bin .eql false (.t 16) (.t 17) (pu (.binOp .eql 9 (.tmp 16) (.tmp 17) 9) 4)⟩])
 (.cond (.t 18) (.seq (.reg [⟨some 19, none, .mv (.t 5)⟩,
 ⟨some 4, none, .mv (.t 19)⟩])
 .ret)
 .skip))))
 (.reg [⟨some 20, none, .bin .add false (.t 10) (.k (.sc (.int .i64 1))) (pu (.binOp .add 3 (.tmp 10) (.const (.int .i64 1)) 3) 3)⟩,
 ⟨some 10, none, .mv (.t 20)⟩])))))))
 (.seq (.reg [⟨some 4, none, .mv (.k (.sc (.int .i64 (-1))))⟩])
 .ret)))
def k26 : List Nat := [0, 1, 2, 4, 5, 6, 8, 9, 10, 11, 18]
theorem ic26 : factsI Tryz.prog 26 = some (21, [.tmp 4], c26) := by kernel_rfl
def c27 : IC :=
 (.seq (.reg [⟨some 4, none, .bx (.t 0)⟩,
 ⟨some 8, none, .al (.agg [.sc (.string ⟨#[]⟩), .sc (.string ⟨#[]⟩), .sc (.int .i64 0), .sc (.int .i64 0), .sc (.int .i64 0), .sc (.int .i64 0)]) 6⟩,
 ⟨some 9, none, .mv (.k (.sc (.int .i64 0)))⟩])
 (.seq (.seq (.reg [⟨some 11, none, .ld (some 14) (.t 4)⟩,
 ⟨some 12, none, .call 38 [(.t 11)]⟩,
 ⟨some 10, none, .mv (.t 12)⟩])
 (.seq (.reg [⟨some 13, none, .mv (.t 10)⟩,
 ⟨some 14, none, .bin .neq false (.t 13) (.k (.sc (.int .i64 0))) (pu (.binOp .neq 34 (.tmp 13) (.const (.int .i64 0)) 34) 4)⟩])
 (.cond (.t 14) (.seq (.reg [⟨some 15, none, .bld [.sc (.string ⟨#[]⟩), .sc (.string ⟨#[]⟩), .sc (.int .i64 0), .sc (.int .i64 0), .sc (.int .i64 0), .sc (.int .i64 0)] []⟩,
 ⟨some 16, none, .mv (.t 10)⟩,
 ⟨none, none, .st 6 (.t 8) (.t 15)⟩,
 ⟨some 9, none, .mv (.t 16)⟩])
 .ret)
 .skip)))
 (.seq (.seq (.reg [⟨some 17, none, .sh 12 (.t 4)⟩,
 ⟨some 18, none, .ld none (.t 17)⟩])
 (.cond (.t 18) (.seq (.reg [⟨some 19, none, .bld [.sc (.string ⟨#[]⟩), .sc (.string ⟨#[]⟩), .sc (.int .i64 0), .sc (.int .i64 0), .sc (.int .i64 0), .sc (.int .i64 0)] []⟩,
 ⟨none, none, .st 6 (.t 8) (.t 19)⟩,
 ⟨some 9, none, .mv (.k (.sc (.int .i64 10)))⟩])
 .ret)
 .skip))
 (.seq (.seq (.reg [⟨some 20, none, .mv (.t 1)⟩,
 ⟨some 21, none, .sh 2 (.t 4)⟩,
 ⟨some 22, none, .ld none (.t 21)⟩,
 ⟨some 23, none, .bin .neq false (.t 20) (.t 22) (pu (.binOp .neq 9 (.tmp 20) (.tmp 22) 9) 4)⟩])
 (.cond (.t 23) (.seq (.reg [⟨some 24, none, .bld [.sc (.string ⟨#[]⟩), .sc (.string ⟨#[]⟩), .sc (.int .i64 0), .sc (.int .i64 0), .sc (.int .i64 0), .sc (.int .i64 0)] []⟩,
 ⟨none, none, .st 6 (.t 8) (.t 24)⟩,
 ⟨some 9, none, .mv (.k (.sc (.int .i64 15)))⟩])
 .ret)
 .skip))
 (.seq (.seq (.reg [⟨some 25, none, .mv (.t 2)⟩,
 ⟨some 26, none, .bin .lss false (.t 25) (.k (.sc (.int .i64 1))) (pu (.binOp .lss 3 (.tmp 25) (.const (.int .i64 1)) 3) 4)⟩,
 ⟨some 27, none, .mv (.t 26)⟩,
 ⟨some 28, (some ((some 27), false)), .mv (.t 2)⟩,
 ⟨some 29, (some ((some 27), false)), .sh 11 (.t 4)⟩,
 ⟨some 30, (some ((some 27), false)), .ld none (.t 29)⟩,
 ⟨some 31, (some ((some 27), false)), .bin .gtr false (.t 28) (.t 30) (pu (.binOp .gtr 3 (.tmp 28) (.tmp 30) 3) 4)⟩,
 ⟨some 32, none, .pick (.t 27) (.k (.sc (.bool true))) (.t 31)⟩,
 ⟨some 33, none, .mv (.t 32)⟩,
 ⟨some 34, (some ((some 33), false)), .mv (.t 2)⟩,
 ⟨some 35, (some ((some 33), false)), .bin .gtr false (.t 34) (.k (.sc (.int .i64 36028797018963968))) (pu (.binOp .gtr 3 (.tmp 34) (.const (.int .i64 36028797018963968)) 3) 4)⟩,
 ⟨some 36, none, .pick (.t 33) (.k (.sc (.bool true))) (.t 35)⟩,
 ⟨some 37, none, .mv (.t 36)⟩,
 ⟨some 38, (some ((some 37), false)), .mv (.t 3)⟩,
 ⟨some 39, (some ((some 37), false)), .sh 6 (.t 4)⟩,
 ⟨some 40, (some ((some 37), false)), .ld none (.t 39)⟩,
 ⟨some 41, (some ((some 37), false)), .bin .lss false (.t 38) (.t 40) (pu (.binOp .lss 3 (.tmp 38) (.tmp 40) 3) 4)⟩,
 ⟨some 42, none, .pick (.t 37) (.k (.sc (.bool true))) (.t 41)⟩,
 ⟨some 43, none, .mv (.t 42)⟩,
 ⟨some 44, (some ((some 43), false)), .mv (.t 3)⟩,
 ⟨some 45, (some ((some 43), false)), .bin .gtr false (.t 44) (.k (.sc (.int .i64 268435456))) (pu (.binOp .gtr 3 (.tmp 44) (.const (.int .i64 268435456)) 3) 4)⟩,
 ⟨some 46, none, .pick (.t 43) (.k (.sc (.bool true))) (.t 45)⟩])
 (.cond (.t 46) (.seq (.reg [⟨some 47, none, .bld [.sc (.string ⟨#[]⟩), .sc (.string ⟨#[]⟩), .sc (.int .i64 0), .sc (.int .i64 0), .sc (.int .i64 0), .sc (.int .i64 0)] []⟩,
 ⟨none, none, .st 6 (.t 8) (.t 47)⟩,
 ⟨some 9, none, .mv (.k (.sc (.int .i64 2)))⟩])
 .ret)
 .skip))
 (.seq (.seq (.reg [⟨some 48, none, .mv (.t 3)⟩,
 ⟨some 49, none, .sh 6 (.t 4)⟩,
 ⟨some 50, none, .ld none (.t 49)⟩,
 ⟨some 51, none, .bin .add false (.t 50) (.k (.sc (.int .i64 43200))) (pu (.binOp .add 3 (.tmp 50) (.const (.int .i64 43200)) 3) 3)⟩,
 ⟨some 52, none, .bin .gtr false (.t 48) (.t 51) (pu (.binOp .gtr 3 (.tmp 48) (.tmp 51) 3) 4)⟩])
 (.cond (.t 52) (.seq (.reg [⟨some 53, none, .bld [.sc (.string ⟨#[]⟩), .sc (.string ⟨#[]⟩), .sc (.int .i64 0), .sc (.int .i64 0), .sc (.int .i64 0), .sc (.int .i64 0)] []⟩,
 ⟨none, none, .st 6 (.t 8) (.t 53)⟩,
 ⟨some 9, none, .mv (.k (.sc (.int .i64 12)))⟩])
 .ret)
 .skip))
 (.seq (.reg [⟨some 54, none, .sh 0 (.t 4)⟩,
 ⟨some 55, none, .ld none (.t 54)⟩,
 ⟨some 56, none, .mv (.t 1)⟩,
 ⟨some 57, none, .mv (.t 3)⟩,
 ⟨some 58, none, .mv (.t 2)⟩,
 ⟨some 59, none, .bld [.sc (.string ⟨#[]⟩), .sc (.string ⟨#[]⟩), .sc (.int .i64 0), .sc (.int .i64 0), .sc (.int .i64 0), .sc (.int .i64 0)] [(0, 1, (.t 55)), (1, 1, (.t 56)), (2, 1, (.k (.sc (.int .i64 1)))), (3, 1, (.t 57)), (4, 1, (.t 58))]⟩,
 ⟨none, none, .st 6 (.t 8) (.t 59)⟩,
 ⟨some 9, none, .mv (.k (.sc (.int .i64 0)))⟩])
 .ret)))))))
def k27 : List Nat := [0, 1, 2, 3, 4, 8, 9, 10, 14, 18, 23, 46, 52]
theorem ic27 : factsI Tryz.prog 27 = some (60, [.cell 8 54, .tmp 9], c27) := by kernel_rfl
def c28 : IC :=
 (.seq (.reg [⟨some 4, none, .mv (.k (.sc (.int .i64 0)))⟩])
 (.seq (.seq (.reg [⟨some 5, none, .mv (.k (.sc (.int .i64 0)))⟩])
 (.block 0 (.loop (.seq (.seq (.reg [⟨some 6, none, .mv (.t 5)⟩,
 ⟨some 7, none, .mv (.t 0)⟩,
 ⟨some 8, none, .len (.t 7) (pu (.call ⟨.builtin .len, #[(.tmp 7)], #[26]⟩) 3)⟩,
 ⟨some 9, none, .bin .lss false (.t 6) (.t 8) (pu (.binOp .lss 3 (.tmp 6) (.tmp 8) 3) 4)⟩])
 (.cond (.t 9) .skip
 (.exit 0)))
 (.seq (.block 1 (.seq (.reg [⟨some 12, none, .mv (.t 0)⟩,
 ⟨some 13, none, .mv (.t 5)⟩,
 ⟨some 14, none, .ixs 14 (.t 12) (.t 13)⟩,
 ⟨some 15, none, .sh 0 (.t 14)⟩,
 ⟨some 16, none, .ld none (.t 15)⟩,
 ⟨some 17, none, .mv (.t 1)⟩,
 ⟨some 18, none, .bin .eql false (.t 16) (.t 17) (pu (.binOp .eql 9 (.tmp 16) (.tmp 17) 9) 4)⟩])
 (.cond (.t 18) (.seq (.reg [⟨some 19, none, .mv (.t 5)⟩,
 ⟨some 4, none, .mv (.t 19)⟩])
 .ret)
 .skip)))
 (.reg [⟨some 10, none, .mv (.t 5)⟩,
 ⟨some 11, none, .bin .add false (.t 10) (.k (.sc (.int .i64 1))) (pu (.binOp .add 3 (.tmp 10) (.const (.int .i64 1)) 3) 3)⟩,
 ⟨some 5, none, .mv (.t 11)⟩]))))))
 (.seq (.reg [⟨some 4, none, .mv (.k (.sc (.int .i64 (-1))))⟩])
 .ret)))
def k28 : List Nat := [0, 1, 4, 5, 9, 18]
theorem ic28 : factsI Tryz.prog 28 = some (20, [.tmp 4], c28) := by kernel_rfl
def c29 : IC :=
 (.seq (.reg [⟨some 4, none, .bx (.t 0)⟩,
 ⟨some 8, none, .al (.agg [.sc (.string ⟨#[]⟩), .sc (.string ⟨#[]⟩), .sc (.int .i64 0), .sc (.int .i64 0), .sc (.int .i64 0), .sc (.int .i64 0)]) 6⟩,
 ⟨some 9, none, .mv (.k (.sc (.int .i64 0)))⟩])
 (.seq (.seq (.reg [⟨some 11, none, .ld (some 14) (.t 4)⟩,
 ⟨some 12, none, .call 57 [(.t 11)]⟩,
 ⟨some 10, none, .mv (.t 12)⟩])
 (.seq (.reg [⟨some 13, none, .mv (.t 10)⟩,
 ⟨some 14, none, .bin .neq false (.t 13) (.k (.sc (.int .i64 0))) (pu (.binOp .neq 34 (.tmp 13) (.const (.int .i64 0)) 34) 4)⟩])
 (.cond (.t 14) (.seq (.reg [⟨some 15, none, .bld [.sc (.string ⟨#[]⟩), .sc (.string ⟨#[]⟩), .sc (.int .i64 0), .sc (.int .i64 0), .sc (.int .i64 0), .sc (.int .i64 0)] []⟩,
 ⟨some 16, none, .mv (.t 10)⟩,
 ⟨none, none, .st 6 (.t 8) (.t 15)⟩,
 ⟨some 9, none, .mv (.t 16)⟩])
 .ret)
 .skip)))
 (.seq (.seq (.reg [⟨some 17, none, .sh 12 (.t 4)⟩,
 ⟨some 18, none, .ld none (.t 17)⟩])
 (.cond (.t 18) (.seq (.reg [⟨some 19, none, .bld [.sc (.string ⟨#[]⟩), .sc (.string ⟨#[]⟩), .sc (.int .i64 0), .sc (.int .i64 0), .sc (.int .i64 0), .sc (.int .i64 0)] []⟩,
 ⟨none, none, .st 6 (.t 8) (.t 19)⟩,
 ⟨some 9, none, .mv (.k (.sc (.int .i64 10)))⟩])
 .ret)
 .skip))
 (.seq (.seq (.reg [⟨some 20, none, .mv (.t 1)⟩,
 ⟨some 21, none, .sh 2 (.t 4)⟩,
 ⟨some 22, none, .ld none (.t 21)⟩,
 ⟨some 23, none, .bin .neq false (.t 20) (.t 22) (pu (.binOp .neq 9 (.tmp 20) (.tmp 22) 9) 4)⟩])
 (.cond (.t 23) (.seq (.reg [⟨some 24, none, .bld [.sc (.string ⟨#[]⟩), .sc (.string ⟨#[]⟩), .sc (.int .i64 0), .sc (.int .i64 0), .sc (.int .i64 0), .sc (.int .i64 0)] []⟩,
 ⟨none, none, .st 6 (.t 8) (.t 24)⟩,
 ⟨some 9, none, .mv (.k (.sc (.int .i64 15)))⟩])
 .ret)
 .skip))
 (.seq (.seq (.reg [⟨some 25, none, .mv (.t 2)⟩,
 ⟨some 26, none, .bin .lss false (.t 25) (.k (.sc (.int .i64 1))) (pu (.binOp .lss 3 (.tmp 25) (.const (.int .i64 1)) 3) 4)⟩,
 ⟨some 27, none, .mv (.t 26)⟩,
 ⟨some 28, (some ((some 27), false)), .mv (.t 2)⟩,
 ⟨some 29, (some ((some 27), false)), .sh 11 (.t 4)⟩,
 ⟨some 30, (some ((some 27), false)), .ld none (.t 29)⟩,
 ⟨some 31, (some ((some 27), false)), .bin .gtr false (.t 28) (.t 30) (pu (.binOp .gtr 3 (.tmp 28) (.tmp 30) 3) 4)⟩,
 ⟨some 32, none, .pick (.t 27) (.k (.sc (.bool true))) (.t 31)⟩,
 ⟨some 33, none, .mv (.t 32)⟩,
 ⟨some 34, (some ((some 33), false)), .mv (.t 2)⟩,
 ⟨some 35, (some ((some 33), false)), .bin .gtr false (.t 34) (.k (.sc (.int .i64 36028797018963968))) (pu (.binOp .gtr 3 (.tmp 34) (.const (.int .i64 36028797018963968)) 3) 4)⟩,
 ⟨some 36, none, .pick (.t 33) (.k (.sc (.bool true))) (.t 35)⟩,
 ⟨some 37, none, .mv (.t 36)⟩,
 ⟨some 38, (some ((some 37), false)), .mv (.t 3)⟩,
 ⟨some 39, (some ((some 37), false)), .sh 6 (.t 4)⟩,
 ⟨some 40, (some ((some 37), false)), .ld none (.t 39)⟩,
 ⟨some 41, (some ((some 37), false)), .bin .lss false (.t 38) (.t 40) (pu (.binOp .lss 3 (.tmp 38) (.tmp 40) 3) 4)⟩,
 ⟨some 42, none, .pick (.t 37) (.k (.sc (.bool true))) (.t 41)⟩,
 ⟨some 43, none, .mv (.t 42)⟩,
 ⟨some 44, (some ((some 43), false)), .mv (.t 3)⟩,
 ⟨some 45, (some ((some 43), false)), .bin .gtr false (.t 44) (.k (.sc (.int .i64 268435456))) (pu (.binOp .gtr 3 (.tmp 44) (.const (.int .i64 268435456)) 3) 4)⟩,
 ⟨some 46, none, .pick (.t 43) (.k (.sc (.bool true))) (.t 45)⟩])
 (.cond (.t 46) (.seq (.reg [⟨some 47, none, .bld [.sc (.string ⟨#[]⟩), .sc (.string ⟨#[]⟩), .sc (.int .i64 0), .sc (.int .i64 0), .sc (.int .i64 0), .sc (.int .i64 0)] []⟩,
 ⟨none, none, .st 6 (.t 8) (.t 47)⟩,
 ⟨some 9, none, .mv (.k (.sc (.int .i64 2)))⟩])
 .ret)
 .skip))
 (.seq (.seq (.reg [⟨some 48, none, .mv (.t 3)⟩,
 ⟨some 49, none, .sh 6 (.t 4)⟩,
 ⟨some 50, none, .ld none (.t 49)⟩,
 ⟨some 51, none, .bin .add false (.t 50) (.k (.sc (.int .i64 43200))) (pu (.binOp .add 3 (.tmp 50) (.const (.int .i64 43200)) 3) 3)⟩,
 ⟨some 52, none, .bin .gtr false (.t 48) (.t 51) (pu (.binOp .gtr 3 (.tmp 48) (.tmp 51) 3) 4)⟩])
 (.cond (.t 52) (.seq (.reg [⟨some 53, none, .bld [.sc (.string ⟨#[]⟩), .sc (.string ⟨#[]⟩), .sc (.int .i64 0), .sc (.int .i64 0), .sc (.int .i64 0), .sc (.int .i64 0)] []⟩,
 ⟨none, none, .st 6 (.t 8) (.t 53)⟩,
 ⟨some 9, none, .mv (.k (.sc (.int .i64 12)))⟩])
 .ret)
 .skip))
 (.seq (.reg [⟨some 54, none, .sh 0 (.t 4)⟩,
 ⟨some 55, none, .ld none (.t 54)⟩,
 ⟨some 56, none, .mv (.t 1)⟩,
 ⟨some 57, none, .mv (.t 3)⟩,
 ⟨some 58, none, .mv (.t 2)⟩,
 ⟨some 59, none, .bld [.sc (.string ⟨#[]⟩), .sc (.string ⟨#[]⟩), .sc (.int .i64 0), .sc (.int .i64 0), .sc (.int .i64 0), .sc (.int .i64 0)] [(0, 1, (.t 55)), (1, 1, (.t 56)), (2, 1, (.k (.sc (.int .i64 1)))), (3, 1, (.t 57)), (4, 1, (.t 58))]⟩,
 ⟨none, none, .st 6 (.t 8) (.t 59)⟩,
 ⟨some 9, none, .mv (.k (.sc (.int .i64 0)))⟩])
 .ret)))))))
def k29 : List Nat := [0, 1, 2, 3, 4, 8, 9, 10, 14, 18, 23, 46, 52]
theorem ic29 : factsI Tryz.prog 29 = some (60, [.cell 8 54, .tmp 9], c29) := by kernel_rfl
def c30 : IC :=
 (.seq (.reg [⟨some 2, none, .mv (.k (.sc (.bool false)))⟩])
 (.seq (.seq (.reg [⟨some 5, none, .mv (.t 0)⟩,
 ⟨some 6, none, .lens (.t 5) (pu (.call ⟨.builtin .len, #[(.tmp 5)], #[9]⟩) 3)⟩,
 ⟨some 7, none, .bin .lss false (.t 6) (.k (.sc (.int .i64 1))) (pu (.binOp .lss 3 (.tmp 6) (.const (.int .i64 1)) 3) 4)⟩,
 ⟨some 8, none, .mv (.t 7)⟩,
 ⟨some 9, (some ((some 8), false)), .mv (.t 0)⟩,
 ⟨some 10, (some ((some 8), false)), .lens (.t 9) (pu (.call ⟨.builtin .len, #[(.tmp 9)], #[9]⟩) 3)⟩,
 ⟨some 11, (some ((some 8), false)), .bin .gtr false (.t 10) (.k (.sc (.int .i64 36))) (pu (.binOp .gtr 3 (.tmp 10) (.const (.int .i64 36)) 3) 4)⟩,
 ⟨some 12, none, .pick (.t 8) (.k (.sc (.bool true))) (.t 11)⟩])
 (.cond (.t 12) (.seq (.reg [⟨some 2, none, .mv (.k (.sc (.bool false)))⟩])
 .ret)
 .skip))
 (.seq (.seq (.reg [⟨some 13, none, .mv (.t 0)⟩,
 ⟨some 14, none, .rng (.t 13)⟩])
 (.block 0 (.loop (.seq (.reg [⟨some 15, none, .nxt (.t 14)⟩,
 ⟨some 16, none, .ext (.t 15) 0⟩])
 (.seq (.cond (.t 16) .skip
 (.exit 0))
 (.block 1 (.seq (.reg [⟨some 17, none, .ext (.t 15) 2⟩,
 ⟨some 4, none, .mv (.t 17)⟩])
 (.seq (.seq (.reg [⟨some 18, none, .mv (.t 4)⟩])
 (.block 2 (.seq (.seq (.reg [⟨some 20, none, .bin .eql false (.t 18) (.k (.sc (.int .i32 45))) (pu (.binOp .eql 21 (.tmp 18) (.const (.int .i32 45)) 21) 4)⟩,
 ⟨some 19, none, .mv (.t 20)⟩])
 (.cond (.t 19) .skip
 (.seq (.reg [⟨some 21, none, .bin .eql false (.t 18) (.k (.sc (.int .i32 95))) (pu (.binOp .eql 21 (.tmp 18) (.const (.int .i32 95)) 21) 4)⟩,
 ⟨some 19, none, .mv (.t 21)⟩])
 (.cond (.t 19) .skip
 (.seq (.reg [⟨some 22, none, .bin .eql false (.t 18) (.k (.sc (.int .i32 46))) (pu (.binOp .eql 21 (.tmp 18) (.const (.int .i32 46)) 21) 4)⟩,
 ⟨some 19, none, .mv (.t 22)⟩])
 (.cond (.t 19) .skip
 (.seq (.reg [⟨some 23, none, .bin .eql false (.t 18) (.k (.sc (.int .i32 58))) (pu (.binOp .eql 21 (.tmp 18) (.const (.int .i32 58)) 21) 4)⟩,
 ⟨some 19, none, .mv (.t 23)⟩])
 (.cond (.t 19) .skip
 (.reg [⟨some 24, none, .bin .eql false (.t 18) (.k (.sc (.int .i32 42))) (pu (.binOp .eql 21 (.tmp 18) (.const (.int .i32 42)) 21) 4)⟩,
 ⟨some 19, none, .mv (.t 24)⟩])))))))))
 (.cond (.t 19) (.exit 1)
 .skip))))
 (.seq (.reg [⟨some 25, none, .mv (.t 4)⟩,
 ⟨some 26, none, .call 58 [(.t 25)]⟩,
 ⟨some 27, none, .bin .lss false (.t 26) (.k (.sc (.int .i64 0))) (pu (.binOp .lss 3 (.tmp 26) (.const (.int .i64 0)) 3) 4)⟩])
 (.cond (.t 27) (.seq (.reg [⟨some 2, none, .mv (.k (.sc (.bool false)))⟩])
 .ret)
 .skip))))))))))
 (.seq (.reg [⟨some 2, none, .mv (.k (.sc (.bool true)))⟩])
 .ret))))
def k30 : List Nat := [0, 2, 4, 12, 14, 15, 16, 18, 19, 27]
theorem ic30 : factsI Tryz.prog 30 = some (28, [.tmp 2], c30) := by kernel_rfl
def c31 : IC :=
 (.seq (.reg [⟨some 2, none, .al (.agg [.sc (.string ⟨#[]⟩), .sc (.slice none 0 0), .sc (.slice none 0 0), .sc (.int .i64 0)]) 4⟩,
 ⟨some 3, none, .mv (.k (.sc (.int .i64 0)))⟩])
 (.seq (.seq (.reg [⟨some 4, none, .mv (.t 0)⟩,
 ⟨some 5, none, .call 30 [(.t 4)]⟩,
 ⟨some 6, none, .un .not (.t 5) (pu (.unOp .not 4 (.tmp 5)) 4)⟩])
 (.cond (.t 6) (.seq (.reg [⟨some 7, none, .bld [.sc (.string ⟨#[]⟩), .sc (.slice none 0 0), .sc (.slice none 0 0), .sc (.int .i64 0)] []⟩,
 ⟨none, none, .st 4 (.t 2) (.t 7)⟩,
 ⟨some 3, none, .mv (.k (.sc (.int .i64 4)))⟩])
 .ret)
 .skip))
 (.seq (.reg [⟨some 8, none, .mv (.t 0)⟩,
 ⟨some 9, none, .bld [.sc (.string ⟨#[]⟩), .sc (.slice none 0 0), .sc (.slice none 0 0), .sc (.int .i64 0)] [(0, 1, (.t 8)), (3, 1, (.k (.sc (.int .i64 1))))]⟩,
 ⟨none, none, .st 4 (.t 2) (.t 9)⟩,
 ⟨some 3, none, .mv (.k (.sc (.int .i64 0)))⟩])
 .ret)))
def k31 : List Nat := [0, 2, 3, 6]
theorem ic31 : factsI Tryz.prog 31 = some (10, [.cell 2 25, .tmp 3], c31) := by kernel_rfl
def c32 : IC :=
 (.seq (.reg [⟨some 3, none, .bx (.t 0)⟩,
 ⟨some 6, none, .mv (.k (.sc (.map none)))⟩,
 ⟨some 7, none, .mv (.k (.sc (.int .i64 0)))⟩])
 (.seq (.reg [⟨some 12, none, .mmk none⟩,
 ⟨some 8, none, .mv (.t 12)⟩,
 ⟨some 9, none, .mv (.k (.sc (.int .i64 0)))⟩])
 (.seq (.seq (.reg [⟨some 13, none, .sh 5 (.t 3)⟩,
 ⟨some 14, none, .ld none (.t 13)⟩,
 ⟨some 15, none, .len (.t 14) (pu (.call ⟨.builtin .len, #[(.tmp 14)], #[26]⟩) 3)⟩,
 ⟨some 16, none, .mv (.k (.sc (.int .i64 0)))⟩])
 (.block 0 (.loop (.seq (.reg [⟨some 17, none, .bin .lss false (.t 16) (.t 15) (pu (.binOp .lss 3 (.tmp 16) (.tmp 15) 3) 0)⟩])
 (.seq (.cond (.t 17) .skip
 (.exit 0))
 (.seq (.block 1 (.seq (.reg [⟨some 18, none, .ixs 14 (.t 14) (.t 16)⟩,
 ⟨some 19, none, .ld (some 14) (.t 18)⟩,
 ⟨some 11, none, .al (.agg [.sc (.string ⟨#[]⟩), .sc (.string ⟨#[]⟩), .sc (.string ⟨#[]⟩), .sc (.string ⟨#[]⟩), .sc (.int .i64 0), .sc (.int .i64 0), .sc (.int .i64 0), .sc (.int .i64 0), .sc (.string ⟨#[]⟩), .sc (.string ⟨#[]⟩), .sc (.slice none 0 0), .sc (.int .i64 0), .sc (.bool false), .sc (.string ⟨#[]⟩)]) 14⟩,
 ⟨none, none, .st 14 (.t 11) (.t 19)⟩])
 (.seq (.reg [⟨some 20, none, .ld (some 14) (.t 11)⟩,
 ⟨some 21, none, .mv (.t 1)⟩,
 ⟨some 22, none, .mv (.t 2)⟩,
 ⟨some 23, none, .call 59 [(.t 20), (.t 21), (.t 22)]⟩])
 (.cond (.t 23) (.seq (.reg [⟨some 24, none, .mv (.t 8)⟩,
 ⟨some 25, none, .sh 0 (.t 11)⟩,
 ⟨some 26, none, .ld none (.t 25)⟩,
 ⟨some 27, none, .ld (some 14) (.t 11)⟩,
 ⟨none, none, .mpt false [.s] (.t 24) (.t 26) (.t 27)⟩])
 (.reg [⟨some 28, none, .mv (.t 9)⟩,
 ⟨some 29, none, .bin .add false (.t 28) (.k (.sc (.int .i64 1))) (pu (.binOp .add 3 (.tmp 28) (.const (.int .i64 1)) 3) 3)⟩,
 ⟨some 9, none, .mv (.t 29)⟩]))
 .skip))))
 (.reg [⟨some 30, none, .bin .add false (.t 16) (.k (.sc (.int .i64 1))) (pu (.binOp .add 3 (.tmp 16) (.const (.int .i64 1)) 3) 3)⟩,
 ⟨some 16, none, .mv (.t 30)⟩])))))))
 (.seq (.reg [⟨some 31, none, .mv (.t 8)⟩,
 ⟨some 32, none, .mv (.t 9)⟩,
 ⟨some 6, none, .mv (.t 31)⟩,
 ⟨some 7, none, .mv (.t 32)⟩])
 .ret))))
def k32 : List Nat := [0, 1, 2, 3, 6, 7, 8, 9, 11, 14, 15, 16, 17, 23]
theorem ic32 : factsI Tryz.prog 32 = some (33, [.tmp 6, .tmp 7], c32) := by kernel_rfl
def c33 : IC :=
 (.seq (.reg [⟨some 2, none, .bx (.t 0)⟩,
 ⟨some 3, none, .bx (.t 1)⟩,
 ⟨some 4, none, .mv (.k (.sc (.bool false)))⟩])
 (.seq (.reg [⟨some 5, none, .sh 0 (.t 2)⟩,
 ⟨some 6, none, .ld none (.t 5)⟩,
 ⟨some 7, none, .sh 0 (.t 3)⟩,
 ⟨some 8, none, .ld none (.t 7)⟩,
 ⟨some 9, none, .bin .eql false (.t 6) (.t 8) (pu (.binOp .eql 9 (.tmp 6) (.tmp 8) 9) 4)⟩,
 ⟨some 10, none, .mv (.t 9)⟩,
 ⟨some 11, (some ((some 10), true)), .sh 1 (.t 2)⟩,
 ⟨some 12, (some ((some 10), true)), .ld none (.t 11)⟩,
 ⟨some 13, (some ((some 10), true)), .sh 1 (.t 3)⟩,
 ⟨some 14, (some ((some 10), true)), .ld none (.t 13)⟩,
 ⟨some 15, (some ((some 10), true)), .bin .eql false (.t 12) (.t 14) (pu (.binOp .eql 9 (.tmp 12) (.tmp 14) 9) 4)⟩,
 ⟨some 16, none, .pick (.t 10) (.t 15) (.k (.sc (.bool false)))⟩,
 ⟨some 17, none, .mv (.t 16)⟩,
 ⟨some 18, (some ((some 17), true)), .sh 2 (.t 2)⟩,
 ⟨some 19, (some ((some 17), true)), .ld none (.t 18)⟩,
 ⟨some 20, (some ((some 17), true)), .sh 2 (.t 3)⟩,
 ⟨some 21, (some ((some 17), true)), .ld none (.t 20)⟩,
 ⟨some 22, (some ((some 17), true)), .bin .eql false (.t 19) (.t 21) (pu (.binOp .eql 9 (.tmp 19) (.tmp 21) 9) 4)⟩,
 ⟨some 23, none, .pick (.t 17) (.t 22) (.k (.sc (.bool false)))⟩,
 ⟨some 24, none, .mv (.t 23)⟩,
 ⟨some 25, (some ((some 24), true)), .sh 3 (.t 2)⟩,
 ⟨some 26, (some ((some 24), true)), .ld none (.t 25)⟩,
 ⟨some 27, (some ((some 24), true)), .sh 3 (.t 3)⟩,
 ⟨some 28, (some ((some 24), true)), .ld none (.t 27)⟩,
 ⟨some 29, (some ((some 24), true)), .bin .eql false (.t 26) (.t 28) (pu (.binOp .eql 9 (.tmp 26) (.tmp 28) 9) 4)⟩,
 ⟨some 30, none, .pick (.t 24) (.t 29) (.k (.sc (.bool false)))⟩,
 ⟨some 31, none, .mv (.t 30)⟩,
 ⟨some 32, (some ((some 31), true)), .sh 4 (.t 2)⟩,
 ⟨some 33, (some ((some 31), true)), .ld none (.t 32)⟩,
 ⟨some 34, (some ((some 31), true)), .sh 4 (.t 3)⟩,
 ⟨some 35, (some ((some 31), true)), .ld none (.t 34)⟩,
 ⟨some 36, (some ((some 31), true)), .bin .eql false (.t 33) (.t 35) (pu (.binOp .eql 3 (.tmp 33) (.tmp 35) 3) 4)⟩,
 ⟨some 37, none, .pick (.t 31) (.t 36) (.k (.sc (.bool false)))⟩,
 ⟨some 38, none, .mv (.t 37)⟩,
 ⟨some 39, (some ((some 38), true)), .sh 5 (.t 2)⟩,
 ⟨some 40, (some ((some 38), true)), .ld none (.t 39)⟩,
 ⟨some 41, (some ((some 38), true)), .sh 5 (.t 3)⟩,
 ⟨some 42, (some ((some 38), true)), .ld none (.t 41)⟩,
 ⟨some 43, (some ((some 38), true)), .bin .eql false (.t 40) (.t 42) (pu (.binOp .eql 3 (.tmp 40) (.tmp 42) 3) 4)⟩,
 ⟨some 44, none, .pick (.t 38) (.t 43) (.k (.sc (.bool false)))⟩,
 ⟨some 45, none, .mv (.t 44)⟩,
 ⟨some 46, (some ((some 45), true)), .sh 6 (.t 2)⟩,
 ⟨some 47, (some ((some 45), true)), .ld none (.t 46)⟩,
 ⟨some 48, (some ((some 45), true)), .sh 6 (.t 3)⟩,
 ⟨some 49, (some ((some 45), true)), .ld none (.t 48)⟩,
 ⟨some 50, (some ((some 45), true)), .bin .eql false (.t 47) (.t 49) (pu (.binOp .eql 3 (.tmp 47) (.tmp 49) 3) 4)⟩,
 ⟨some 51, none, .pick (.t 45) (.t 50) (.k (.sc (.bool false)))⟩,
 ⟨some 52, none, .mv (.t 51)⟩,
 ⟨some 53, (some ((some 52), true)), .sh 7 (.t 2)⟩,
 ⟨some 54, (some ((some 52), true)), .ld none (.t 53)⟩,
 ⟨some 55, (some ((some 52), true)), .sh 7 (.t 3)⟩,
 ⟨some 56, (some ((some 52), true)), .ld none (.t 55)⟩,
 ⟨some 57, (some ((some 52), true)), .bin .eql false (.t 54) (.t 56) (pu (.binOp .eql 3 (.tmp 54) (.tmp 56) 3) 4)⟩,
 ⟨some 58, none, .pick (.t 52) (.t 57) (.k (.sc (.bool false)))⟩,
 ⟨some 59, none, .mv (.t 58)⟩,
 ⟨some 60, (some ((some 59), true)), .sh 8 (.t 2)⟩,
 ⟨some 61, (some ((some 59), true)), .ld none (.t 60)⟩,
 ⟨some 62, (some ((some 59), true)), .sh 8 (.t 3)⟩,
 ⟨some 63, (some ((some 59), true)), .ld none (.t 62)⟩,
 ⟨some 64, (some ((some 59), true)), .bin .eql false (.t 61) (.t 63) (pu (.binOp .eql 9 (.tmp 61) (.tmp 63) 9) 4)⟩,
 ⟨some 65, none, .pick (.t 59) (.t 64) (.k (.sc (.bool false)))⟩,
 ⟨some 66, none, .mv (.t 65)⟩,
 ⟨some 67, (some ((some 66), true)), .sh 9 (.t 2)⟩,
 ⟨some 68, (some ((some 66), true)), .ld none (.t 67)⟩,
 ⟨some 69, (some ((some 66), true)), .sh 9 (.t 3)⟩,
 ⟨some 70, (some ((some 66), true)), .ld none (.t 69)⟩,
 ⟨some 71, (some ((some 66), true)), .bin .eql false (.t 68) (.t 70) (pu (.binOp .eql 9 (.tmp 68) (.tmp 70) 9) 4)⟩,
 ⟨some 72, none, .pick (.t 66) (.t 71) (.k (.sc (.bool false)))⟩,
 ⟨some 73, none, .mv (.t 72)⟩,
 ⟨some 74, (some ((some 73), true)), .sh 10 (.t 2)⟩,
 ⟨some 75, (some ((some 73), true)), .ld none (.t 74)⟩,
 ⟨some 76, (some ((some 73), true)), .sh 10 (.t 3)⟩,
 ⟨some 77, (some ((some 73), true)), .ld none (.t 76)⟩,
 ⟨some 78, (some ((some 73), true)), .call 60 [(.t 75), (.t 77)]⟩,
 ⟨some 79, none, .pick (.t 73) (.t 78) (.k (.sc (.bool false)))⟩,
 ⟨some 80, none, .mv (.t 79)⟩,
 ⟨some 81, (some ((some 80), true)), .sh 11 (.t 2)⟩,
 ⟨some 82, (some ((some 80), true)), .ld none (.t 81)⟩,
 ⟨some 83, (some ((some 80), true)), .sh 11 (.t 3)⟩,
 ⟨some 84, (some ((some 80), true)), .ld none (.t 83)⟩,
 ⟨some 85, (some ((some 80), true)), .bin .eql false (.t 82) (.t 84) (pu (.binOp .eql 3 (.tmp 82) (.tmp 84) 3) 4)⟩,
 ⟨some 86, none, .pick (.t 80) (.t 85) (.k (.sc (.bool false)))⟩,
 ⟨some 87, none, .mv (.t 86)⟩,
 ⟨some 88, (some ((some 87), true)), .sh 12 (.t 2)⟩,
 ⟨some 89, (some ((some 87), true)), .ld none (.t 88)⟩,
 ⟨some 90, (some ((some 87), true)), .sh 12 (.t 3)⟩,
 ⟨some 91, (some ((some 87), true)), .ld none (.t 90)⟩,
 ⟨some 92, (some ((some 87), true)), .bin .eql true (.t 89) (.t 91) (pu (.binOp .eql 4 (.tmp 89) (.tmp 91) 4) 4)⟩,
 ⟨some 93, none, .pick (.t 87) (.t 92) (.k (.sc (.bool false)))⟩,
 ⟨some 94, none, .mv (.t 93)⟩,
 ⟨some 95, (some ((some 94), true)), .sh 13 (.t 2)⟩,
 ⟨some 96, (some ((some 94), true)), .ld none (.t 95)⟩,
 ⟨some 97, (some ((some 94), true)), .sh 13 (.t 3)⟩,
 ⟨some 98, (some ((some 94), true)), .ld none (.t 97)⟩,
 ⟨some 99, (some ((some 94), true)), .bin .eql false (.t 96) (.t 98) (pu (.binOp .eql 9 (.tmp 96) (.tmp 98) 9) 4)⟩,
 ⟨some 100, none, .pick (.t 94) (.t 99) (.k (.sc (.bool false)))⟩,
 ⟨some 4, none, .mv (.t 100)⟩])
 .ret))
def k33 : List Nat := [0, 1, 2, 3, 4]
theorem ic33 : factsI Tryz.prog 33 = some (101, [.tmp 4], c33) := by kernel_rfl
def c34 : IC :=
 (.seq (.reg [⟨some 3, none, .bx (.t 0)⟩,
 ⟨some 6, none, .mv (.k (.sc (.slice none 0 0)))⟩])
 (.seq (.reg [⟨some 13, none, .mmk none⟩,
 ⟨some 7, none, .mv (.t 13)⟩])
 (.seq (.seq (.reg [⟨some 14, none, .sh 5 (.t 3)⟩,
 ⟨some 15, none, .ld none (.t 14)⟩,
 ⟨some 16, none, .len (.t 15) (pu (.call ⟨.builtin .len, #[(.tmp 15)], #[26]⟩) 3)⟩,
 ⟨some 17, none, .mv (.k (.sc (.int .i64 0)))⟩])
 (.block 0 (.loop (.seq (.reg [⟨some 18, none, .bin .lss false (.t 17) (.t 16) (pu (.binOp .lss 3 (.tmp 17) (.tmp 16) 3) 0)⟩])
 (.seq (.cond (.t 18) .skip
 (.exit 0))
 (.seq (.block 1 (.seq (.reg [⟨some 19, none, .ixs 14 (.t 15) (.t 17)⟩,
 ⟨some 20, none, .ld (some 14) (.t 19)⟩,
 ⟨some 9, none, .al (.agg [.sc (.string ⟨#[]⟩), .sc (.string ⟨#[]⟩), .sc (.string ⟨#[]⟩), .sc (.string ⟨#[]⟩), .sc (.int .i64 0), .sc (.int .i64 0), .sc (.int .i64 0), .sc (.int .i64 0), .sc (.string ⟨#[]⟩), .sc (.string ⟨#[]⟩), .sc (.slice none 0 0), .sc (.int .i64 0), .sc (.bool false), .sc (.string ⟨#[]⟩)]) 14⟩,
 ⟨none, none, .st 14 (.t 9) (.t 20)⟩])
 (.seq (.reg [⟨some 21, none, .ld (some 14) (.t 9)⟩,
 ⟨some 22, none, .mv (.t 1)⟩,
 ⟨some 23, none, .mv (.t 2)⟩,
 ⟨some 24, none, .call 59 [(.t 21), (.t 22), (.t 23)]⟩])
 (.cond (.t 24) (.reg [⟨some 25, none, .mv (.t 7)⟩,
 ⟨some 26, none, .sh 0 (.t 9)⟩,
 ⟨some 27, none, .ld none (.t 26)⟩,
 ⟨none, none, .mpt false [.s] (.t 25) (.t 27) (.k (.sc (.bool true)))⟩])
 .skip))))
 (.reg [⟨some 28, none, .bin .add false (.t 17) (.k (.sc (.int .i64 1))) (pu (.binOp .add 3 (.tmp 17) (.const (.int .i64 1)) 3) 3)⟩,
 ⟨some 17, none, .mv (.t 28)⟩])))))))
 (.seq (.reg [⟨some 10, none, .mv (.k (.sc (.slice none 0 0)))⟩])
 (.seq (.seq (.reg [⟨some 29, none, .sh 6 (.t 3)⟩,
 ⟨some 30, none, .ld none (.t 29)⟩,
 ⟨some 31, none, .len (.t 30) (pu (.call ⟨.builtin .len, #[(.tmp 30)], #[27]⟩) 3)⟩,
 ⟨some 32, none, .mv (.k (.sc (.int .i64 0)))⟩])
 (.block 2 (.loop (.seq (.reg [⟨some 33, none, .bin .lss false (.t 32) (.t 31) (pu (.binOp .lss 3 (.tmp 32) (.tmp 31) 3) 0)⟩])
 (.seq (.cond (.t 33) .skip
 (.exit 2))
 (.seq (.block 3 (.seq (.reg [⟨some 34, none, .ixs 6 (.t 30) (.t 32)⟩,
 ⟨some 35, none, .ld (some 6) (.t 34)⟩,
 ⟨some 12, none, .al (.agg [.sc (.string ⟨#[]⟩), .sc (.string ⟨#[]⟩), .sc (.int .i64 0), .sc (.int .i64 0), .sc (.int .i64 0), .sc (.int .i64 0)]) 6⟩,
 ⟨none, none, .st 6 (.t 12) (.t 35)⟩])
 (.seq (.reg [⟨some 36, none, .mv (.t 7)⟩,
 ⟨some 37, none, .sh 0 (.t 12)⟩,
 ⟨some 38, none, .ld none (.t 37)⟩,
 ⟨some 39, none, .mlk false [.s] (.sc (.bool false)) false (.t 36) (.t 38) (pu (.lookup 93 (.tmp 36) (.tmp 38) false) 4)⟩])
 (.cond (.t 39) (.reg [⟨some 40, none, .mv (.t 10)⟩,
 ⟨some 41, none, .ld (some 6) (.t 12)⟩,
 ⟨some 42, none, .bsl 6 1 true [.sc (.string ⟨#[]⟩), .sc (.string ⟨#[]⟩), .sc (.int .i64 0), .sc (.int .i64 0), .sc (.int .i64 0), .sc (.int .i64 0)] [(0, 6, (.t 41))]⟩,
 ⟨some 43, none, .app 6 64 (.t 40) (.t 42)⟩,
 ⟨some 10, none, .mv (.t 43)⟩])
 .skip))))
 (.reg [⟨some 44, none, .bin .add false (.t 32) (.k (.sc (.int .i64 1))) (pu (.binOp .add 3 (.tmp 32) (.const (.int .i64 1)) 3) 3)⟩,
 ⟨some 32, none, .mv (.t 44)⟩])))))))
 (.seq (.reg [⟨some 45, none, .mv (.t 10)⟩,
 ⟨some 6, none, .mv (.t 45)⟩])
 .ret))))))
def k34 : List Nat := [0, 1, 2, 3, 6, 7, 9, 10, 12, 15, 16, 17, 18, 24, 30, 31, 32, 33, 39]
theorem ic34 : factsI Tryz.prog 34 = some (46, [.tmp 6], c34) := by kernel_rfl
def c35 : IC :=
 (.seq (.reg [⟨some 1, none, .bx (.t 0)⟩,
 ⟨some 2, none, .mv (.k (.sc (.int .i64 0)))⟩])
 (.seq (.seq (.reg [⟨some 8, none, .sh 0 (.t 1)⟩,
 ⟨some 9, none, .ld none (.t 8)⟩,
 ⟨some 10, none, .call 30 [(.t 9)]⟩,
 ⟨some 11, none, .un .not (.t 10) (pu (.unOp .not 4 (.tmp 10)) 4)⟩])
 (.cond (.t 11) (.seq (.reg [⟨some 2, none, .mv (.k (.sc (.int .i64 4)))⟩])
 .ret)
 .skip))
 (.seq (.seq (.reg [⟨some 12, none, .sh 2 (.t 1)⟩,
 ⟨some 13, none, .ld none (.t 12)⟩,
 ⟨some 14, none, .len (.t 13) (pu (.call ⟨.builtin .len, #[(.tmp 13)], #[23]⟩) 3)⟩,
 ⟨some 15, none, .sh 1 (.t 1)⟩,
 ⟨some 16, none, .ld none (.t 15)⟩,
 ⟨some 17, none, .len (.t 16) (pu (.call ⟨.builtin .len, #[(.tmp 16)], #[22]⟩) 3)⟩,
 ⟨some 18, none, .bin .neq false (.t 14) (.t 17) (pu (.binOp .neq 3 (.tmp 14) (.tmp 17) 3) 4)⟩])
 (.cond (.t 18) (.seq (.reg [⟨some 2, none, .mv (.k (.sc (.int .i64 1)))⟩])
 .ret)
 .skip))
 (.seq (.seq (.reg [⟨some 19, none, .sh 1 (.t 1)⟩,
 ⟨some 20, none, .ld none (.t 19)⟩,
 ⟨some 21, none, .len (.t 20) (pu (.call ⟨.builtin .len, #[(.tmp 20)], #[22]⟩) 3)⟩,
 ⟨some 22, none, .bin .gtr false (.t 21) (.k (.sc (.int .i64 256))) (pu (.binOp .gtr 3 (.tmp 21) (.const (.int .i64 256)) 3) 4)⟩])
 (.cond (.t 22) (.seq (.reg [⟨some 2, none, .mv (.k (.sc (.int .i64 3)))⟩])
 .ret)
 .skip))
 (.seq (.reg [⟨some 23, none, .sh 1 (.t 1)⟩,
 ⟨some 24, none, .ld none (.t 23)⟩,
 ⟨some 25, none, .len (.t 24) (pu (.call ⟨.builtin .len, #[(.tmp 24)], #[22]⟩) 3)⟩,
 ⟨some 26, none, .mmk (some (.t 25))⟩,
 ⟨some 3, none, .mv (.t 26)⟩])
 (.seq (.reg [⟨some 4, none, .mv (.k (.sc (.int .i64 0)))⟩])
 (.seq (.seq (.reg [⟨some 27, none, .sh 1 (.t 1)⟩,
 ⟨some 28, none, .ld none (.t 27)⟩,
 ⟨some 29, none, .len (.t 28) (pu (.call ⟨.builtin .len, #[(.tmp 28)], #[22]⟩) 3)⟩,
 ⟨some 30, none, .mv (.k (.sc (.int .i64 0)))⟩])
 (.block 0 (.loop (.seq (.reg [⟨some 31, none, .bin .lss false (.t 30) (.t 29) (pu (.binOp .lss 3 (.tmp 30) (.tmp 29) 3) 0)⟩])
 (.seq (.cond (.t 31) .skip
 (.exit 0))
 (.seq (.block 1 (.seq (.reg [⟨some 32, none, .mv (.t 30)⟩,
 ⟨some 33, none, .ixs 6 (.t 28) (.t 30)⟩,
 ⟨some 34, none, .ld (some 6) (.t 33)⟩,
 ⟨some 6, none, .al (.agg [.sc (.int .i64 0), .sc (.string ⟨#[]⟩), .sc (.string ⟨#[]⟩), .sc (.int .i64 0), .sc (.bool false), .sc (.slice none 0 0)]) 6⟩,
 ⟨some 5, none, .mv (.t 32)⟩,
 ⟨none, none, .st 6 (.t 6) (.t 34)⟩])
 (.seq (.seq (.reg [⟨some 35, none, .ld (some 6) (.t 6)⟩,
 ⟨some 36, none, .call 61 [(.t 35)]⟩,
 ⟨some 7, none, .mv (.t 36)⟩])
 (.seq (.reg [⟨some 37, none, .mv (.t 7)⟩,
 ⟨some 38, none, .bin .neq false (.t 37) (.k (.sc (.int .i64 0))) (pu (.binOp .neq 34 (.tmp 37) (.const (.int .i64 0)) 34) 4)⟩])
 (.cond (.t 38) (.seq (.reg [⟨some 39, none, .mv (.t 7)⟩,
 ⟨some 2, none, .mv (.t 39)⟩])
 .ret)
 .skip)))
 (.seq (.seq (.reg [⟨some 40, none, .mv (.t 3)⟩,
 ⟨some 41, none, .ld (some 6) (.t 6)⟩,
 ⟨some 42, none, .call 62 [(.t 41)]⟩,
 ⟨some 43, none, .mlk true [(.i .i64), .s, .s] (.sc (.bool false)) false (.t 40) (.t 42) (pu (.lookup 94 (.tmp 40) (.tmp 42) false) 4)⟩])
 (.cond (.t 43) (.seq (.reg [⟨some 2, none, .mv (.k (.sc (.int .i64 9)))⟩])
 .ret)
 .skip))
 (.seq (.reg [⟨some 44, none, .mv (.t 3)⟩,
 ⟨some 45, none, .ld (some 6) (.t 6)⟩,
 ⟨some 46, none, .call 62 [(.t 45)]⟩,
 ⟨none, none, .mpt true [(.i .i64), .s, .s] (.t 44) (.t 46) (.k (.sc (.bool true)))⟩])
 (.seq (.seq (.drw [0, 1, 0, 7, 15, 31, 63, 127, 255, 127, 1023, 2047, 127, 8191, 16383, 32767, 65535, 131071, 65535, 524287, 1048575, 65535, 2162687, 8388607, 16777215] [⟨some 47, none, .sh 2 (.t 1)⟩,
 ⟨some 48, none, .ld none (.t 47)⟩,
 ⟨some 49, none, .mv (.t 5)⟩,
 ⟨some 50, none, .ixs 1 (.t 48) (.t 49)⟩,
 ⟨some 51, none, .ld none (.t 50)⟩,
 ⟨some 52, none, .bin .lss false (.t 51) (.k (.sc (.int .i64 1))) (pu (.binOp .lss 3 (.tmp 51) (.const (.int .i64 1)) 3) 4)⟩,
 ⟨some 53, none, .mv (.t 52)⟩,
 ⟨some 54, (some ((some 53), false)), .sh 2 (.t 1)⟩,
 ⟨some 55, (some ((some 53), false)), .ld none (.t 54)⟩,
 ⟨some 56, (some ((some 53), false)), .mv (.t 5)⟩,
 ⟨some 57, (some ((some 53), false)), .ixs 1 (.t 55) (.t 56)⟩,
 ⟨some 58, (some ((some 53), false)), .ld none (.t 57)⟩,
 ⟨some 59, (some ((some 53), false)), .mv (.t 4)⟩,
 ⟨some 60, (some ((some 53), false)), .bin .leq false (.t 58) (.t 59) (pu (.binOp .leq 3 (.tmp 58) (.tmp 59) 3) 4)⟩,
 ⟨some 61, none, .pick (.t 53) (.k (.sc (.bool true))) (.t 60)⟩,
 ⟨some 62, none, .mv (.t 61)⟩,
 ⟨some 63, (some ((some 62), false)), .sh 2 (.t 1)⟩,
 ⟨some 64, (some ((some 62), false)), .ld none (.t 63)⟩,
 ⟨some 65, (some ((some 62), false)), .mv (.t 5)⟩,
 ⟨some 66, (some ((some 62), false)), .ixs 1 (.t 64) (.t 65)⟩,
 ⟨some 67, (some ((some 62), false)), .ld none (.t 66)⟩,
 ⟨some 68, (some ((some 62), false)), .sh 3 (.t 1)⟩,
 ⟨some 69, (some ((some 62), false)), .ld none (.t 68)⟩,
 ⟨some 70, (some ((some 62), false)), .bin .geq false (.t 67) (.t 69) (pu (.binOp .geq 3 (.tmp 67) (.tmp 69) 3) 4)⟩,
 ⟨some 71, none, .pick (.t 62) (.k (.sc (.bool true))) (.t 70)⟩])
 (.cond (.t 71) (.seq (.reg [⟨some 2, none, .mv (.k (.sc (.int .i64 1)))⟩])
 .ret)
 .skip))
 (.reg [⟨some 72, none, .sh 2 (.t 1)⟩,
 ⟨some 73, none, .ld none (.t 72)⟩,
 ⟨some 74, none, .mv (.t 5)⟩,
 ⟨some 75, none, .ixs 1 (.t 73) (.t 74)⟩,
 ⟨some 76, none, .ld none (.t 75)⟩,
 ⟨some 4, none, .mv (.t 76)⟩])))))))
 (.reg [⟨some 77, none, .bin .add false (.t 30) (.k (.sc (.int .i64 1))) (pu (.binOp .add 3 (.tmp 30) (.const (.int .i64 1)) 3) 3)⟩,
 ⟨some 30, none, .mv (.t 77)⟩])))))))
 (.seq (.seq (.reg [⟨some 78, none, .sh 3 (.t 1)⟩,
 ⟨some 79, none, .ld none (.t 78)⟩,
 ⟨some 80, none, .bin .lss false (.t 79) (.k (.sc (.int .i64 1))) (pu (.binOp .lss 3 (.tmp 79) (.const (.int .i64 1)) 3) 4)⟩,
 ⟨some 81, none, .mv (.t 80)⟩,
 ⟨some 82, (some ((some 81), false)), .sh 3 (.t 1)⟩,
 ⟨some 83, (some ((some 81), false)), .ld none (.t 82)⟩,
 ⟨some 84, (some ((some 81), false)), .bin .gtr false (.t 83) (.k (.sc (.int .i64 4611686018427387904))) (pu (.binOp .gtr 3 (.tmp 83) (.const (.int .i64 4611686018427387904)) 3) 4)⟩,
 ⟨some 85, none, .pick (.t 81) (.k (.sc (.bool true))) (.t 84)⟩])
 (.cond (.t 85) (.seq (.reg [⟨some 2, none, .mv (.k (.sc (.int .i64 2)))⟩])
 .ret)
 .skip))
 (.seq (.reg [⟨some 2, none, .mv (.k (.sc (.int .i64 0)))⟩])
 .ret)))))))))
def k35 : List Nat := [0, 1, 2, 3, 4, 5, 6, 7, 11, 18, 22, 28, 29, 30, 31, 38, 43, 71, 85]
theorem ic35 : factsI Tryz.prog 35 = some (86, [.tmp 2], c35) := by kernel_rfl
def c36 : IC :=
 (.seq (.reg [⟨some 1, none, .bx (.t 0)⟩,
 ⟨some 2, none, .mv (.k (.sc (.int .i64 0)))⟩])
 (.seq (.seq (.reg [⟨some 7, none, .sh 5 (.t 1)⟩,
 ⟨some 8, none, .ld none (.t 7)⟩,
 ⟨some 9, none, .len (.t 8) (pu (.call ⟨.builtin .len, #[(.tmp 8)], #[26]⟩) 3)⟩,
 ⟨some 10, none, .bin .gtr false (.t 9) (.k (.sc (.int .i64 256))) (pu (.binOp .gtr 3 (.tmp 9) (.const (.int .i64 256)) 3) 4)⟩])
 (.cond (.t 10) (.seq (.reg [⟨some 2, none, .mv (.k (.sc (.int .i64 3)))⟩])
 .ret)
 .skip))
 (.seq (.reg [⟨some 11, none, .sh 5 (.t 1)⟩,
 ⟨some 12, none, .ld none (.t 11)⟩,
 ⟨some 13, none, .len (.t 12) (pu (.call ⟨.builtin .len, #[(.tmp 12)], #[26]⟩) 3)⟩,
 ⟨some 14, none, .mmk (some (.t 13))⟩,
 ⟨some 3, none, .mv (.t 14)⟩])
 (.seq (.seq (.reg [⟨some 15, none, .sh 5 (.t 1)⟩,
 ⟨some 16, none, .ld none (.t 15)⟩,
 ⟨some 17, none, .len (.t 16) (pu (.call ⟨.builtin .len, #[(.tmp 16)], #[26]⟩) 3)⟩,
 ⟨some 18, none, .mv (.k (.sc (.int .i64 0)))⟩])
 (.block 0 (.loop (.seq (.reg [⟨some 19, none, .bin .lss false (.t 18) (.t 17) (pu (.binOp .lss 3 (.tmp 18) (.tmp 17) 3) 0)⟩])
 (.seq (.cond (.t 19) .skip
 (.exit 0))
 (.seq (.block 1 (.seq (.reg [⟨some 20, none, .ixs 14 (.t 16) (.t 18)⟩,
 ⟨some 21, none, .ld (some 14) (.t 20)⟩,
 ⟨some 5, none, .al (.agg [.sc (.string ⟨#[]⟩), .sc (.string ⟨#[]⟩), .sc (.string ⟨#[]⟩), .sc (.string ⟨#[]⟩), .sc (.int .i64 0), .sc (.int .i64 0), .sc (.int .i64 0), .sc (.int .i64 0), .sc (.string ⟨#[]⟩), .sc (.string ⟨#[]⟩), .sc (.slice none 0 0), .sc (.int .i64 0), .sc (.bool false), .sc (.string ⟨#[]⟩)]) 14⟩,
 ⟨none, none, .st 14 (.t 5) (.t 21)⟩])
 (.seq (.seq (.reg [⟨some 22, none, .ld (some 14) (.t 5)⟩,
 ⟨some 23, none, .call 38 [(.t 22)]⟩,
 ⟨some 6, none, .mv (.t 23)⟩])
 (.seq (.reg [⟨some 24, none, .mv (.t 6)⟩,
 ⟨some 25, none, .bin .neq false (.t 24) (.k (.sc (.int .i64 0))) (pu (.binOp .neq 34 (.tmp 24) (.const (.int .i64 0)) 34) 4)⟩])
 (.cond (.t 25) (.seq (.reg [⟨some 26, none, .mv (.t 6)⟩,
 ⟨some 2, none, .mv (.t 26)⟩])
 .ret)
 .skip)))
 (.seq (.seq (.reg [⟨some 27, none, .sh 1 (.t 5)⟩,
 ⟨some 28, none, .ld none (.t 27)⟩,
 ⟨some 29, none, .sh 0 (.t 1)⟩,
 ⟨some 30, none, .ld none (.t 29)⟩,
 ⟨some 31, none, .bin .neq false (.t 28) (.t 30) (pu (.binOp .neq 9 (.tmp 28) (.tmp 30) 9) 4)⟩,
 ⟨some 32, none, .mv (.t 31)⟩,
 ⟨some 33, (some ((some 32), true)), .sh 2 (.t 5)⟩,
 ⟨some 34, (some ((some 32), true)), .ld none (.t 33)⟩,
 ⟨some 35, (some ((some 32), true)), .sh 0 (.t 1)⟩,
 ⟨some 36, (some ((some 32), true)), .ld none (.t 35)⟩,
 ⟨some 37, (some ((some 32), true)), .bin .neq false (.t 34) (.t 36) (pu (.binOp .neq 9 (.tmp 34) (.tmp 36) 9) 4)⟩,
 ⟨some 38, none, .pick (.t 32) (.t 37) (.k (.sc (.bool false)))⟩])
 (.cond (.t 38) (.seq (.reg [⟨some 2, none, .mv (.k (.sc (.int .i64 1)))⟩])
 .ret)
 .skip))
 (.seq (.seq (.reg [⟨some 39, none, .mv (.t 3)⟩,
 ⟨some 40, none, .sh 0 (.t 5)⟩,
 ⟨some 41, none, .ld none (.t 40)⟩,
 ⟨some 42, none, .mlk false [.s] (.sc (.bool false)) false (.t 39) (.t 41) (pu (.lookup 93 (.tmp 39) (.tmp 41) false) 4)⟩])
 (.cond (.t 42) (.seq (.reg [⟨some 2, none, .mv (.k (.sc (.int .i64 9)))⟩])
 .ret)
 .skip))
 (.reg [⟨some 43, none, .mv (.t 3)⟩,
 ⟨some 44, none, .sh 0 (.t 5)⟩,
 ⟨some 45, none, .ld none (.t 44)⟩,
 ⟨none, none, .mpt false [.s] (.t 43) (.t 45) (.k (.sc (.bool true)))⟩]))))))
 (.reg [⟨some 46, none, .bin .add false (.t 18) (.k (.sc (.int .i64 1))) (pu (.binOp .add 3 (.tmp 18) (.const (.int .i64 1)) 3) 3)⟩,
 ⟨some 18, none, .mv (.t 46)⟩])))))))
 (.seq (.reg [⟨some 2, none, .mv (.k (.sc (.int .i64 0)))⟩])
 .ret)))))
def k36 : List Nat := [0, 1, 2, 3, 5, 6, 10, 16, 17, 18, 19, 25, 38, 42]
theorem ic36 : factsI Tryz.prog 36 = some (47, [.tmp 2], c36) := by kernel_rfl
def c37 : IC :=
 (.seq (.reg [⟨some 1, none, .bx (.t 0)⟩,
 ⟨some 2, none, .mv (.k (.sc (.int .i64 0)))⟩])
 (.seq (.seq (.reg [⟨some 8, none, .sh 6 (.t 1)⟩,
 ⟨some 9, none, .ld none (.t 8)⟩,
 ⟨some 10, none, .len (.t 9) (pu (.call ⟨.builtin .len, #[(.tmp 9)], #[27]⟩) 3)⟩,
 ⟨some 11, none, .bin .gtr false (.t 10) (.k (.sc (.int .i64 256))) (pu (.binOp .gtr 3 (.tmp 10) (.const (.int .i64 256)) 3) 4)⟩])
 (.cond (.t 11) (.seq (.reg [⟨some 2, none, .mv (.k (.sc (.int .i64 3)))⟩])
 .ret)
 .skip))
 (.seq (.reg [⟨some 12, none, .sh 6 (.t 1)⟩,
 ⟨some 13, none, .ld none (.t 12)⟩,
 ⟨some 14, none, .len (.t 13) (pu (.call ⟨.builtin .len, #[(.tmp 13)], #[27]⟩) 3)⟩,
 ⟨some 15, none, .mmk (some (.t 14))⟩,
 ⟨some 3, none, .mv (.t 15)⟩])
 (.seq (.seq (.reg [⟨some 16, none, .sh 6 (.t 1)⟩,
 ⟨some 17, none, .ld none (.t 16)⟩,
 ⟨some 18, none, .len (.t 17) (pu (.call ⟨.builtin .len, #[(.tmp 17)], #[27]⟩) 3)⟩,
 ⟨some 19, none, .mv (.k (.sc (.int .i64 0)))⟩])
 (.block 0 (.loop (.seq (.reg [⟨some 20, none, .bin .lss false (.t 19) (.t 18) (pu (.binOp .lss 3 (.tmp 19) (.tmp 18) 3) 0)⟩])
 (.seq (.cond (.t 20) .skip
 (.exit 0))
 (.seq (.block 1 (.seq (.reg [⟨some 21, none, .ixs 6 (.t 17) (.t 19)⟩,
 ⟨some 22, none, .ld (some 6) (.t 21)⟩,
 ⟨some 5, none, .al (.agg [.sc (.string ⟨#[]⟩), .sc (.string ⟨#[]⟩), .sc (.int .i64 0), .sc (.int .i64 0), .sc (.int .i64 0), .sc (.int .i64 0)]) 6⟩,
 ⟨none, none, .st 6 (.t 5) (.t 22)⟩])
 (.seq (.seq (.reg [⟨some 23, none, .ld (some 6) (.t 5)⟩,
 ⟨some 24, none, .call 45 [(.t 23)]⟩,
 ⟨some 6, none, .mv (.t 24)⟩])
 (.seq (.reg [⟨some 25, none, .mv (.t 6)⟩,
 ⟨some 26, none, .bin .neq false (.t 25) (.k (.sc (.int .i64 0))) (pu (.binOp .neq 34 (.tmp 25) (.const (.int .i64 0)) 34) 4)⟩])
 (.cond (.t 26) (.seq (.reg [⟨some 27, none, .mv (.t 6)⟩,
 ⟨some 2, none, .mv (.t 27)⟩])
 .ret)
 .skip)))
 (.seq (.reg [⟨some 28, none, .ld (some 7) (.t 1)⟩,
 ⟨some 29, none, .sh 0 (.t 5)⟩,
 ⟨some 30, none, .ld none (.t 29)⟩,
 ⟨some 31, none, .call 26 [(.t 28), (.t 30)]⟩,
 ⟨some 7, none, .mv (.t 31)⟩])
 (.seq (.seq (.reg [⟨some 32, none, .mv (.t 7)⟩,
 ⟨some 33, none, .bin .lss false (.t 32) (.k (.sc (.int .i64 0))) (pu (.binOp .lss 3 (.tmp 32) (.const (.int .i64 0)) 3) 4)⟩])
 (.cond (.t 33) (.seq (.reg [⟨some 2, none, .mv (.k (.sc (.int .i64 8)))⟩])
 .ret)
 .skip))
 (.seq (.seq (.drw [0, 1, 0, 4, 0, 28, 60, 124, 255] [⟨some 34, none, .sh 1 (.t 5)⟩,
 ⟨some 35, none, .ld none (.t 34)⟩,
 ⟨some 36, none, .sh 5 (.t 1)⟩,
 ⟨some 37, none, .ld none (.t 36)⟩,
 ⟨some 38, none, .mv (.t 7)⟩,
 ⟨some 39, none, .ixs 14 (.t 37) (.t 38)⟩,
 ⟨some 40, none, .sh 2 (.t 39)⟩,
 ⟨some 41, none, .ld none (.t 40)⟩,
 ⟨some 42, none, .bin .neq false (.t 35) (.t 41) (pu (.binOp .neq 9 (.tmp 35) (.tmp 41) 9) 4)⟩])
 (.cond (.t 42) (.seq (.reg [⟨some 2, none, .mv (.k (.sc (.int .i64 1)))⟩])
 .ret)
 .skip))
 (.seq (.seq (.reg [⟨some 43, none, .mv (.t 3)⟩,
 ⟨some 44, none, .sh 0 (.t 5)⟩,
 ⟨some 45, none, .ld none (.t 44)⟩,
 ⟨some 46, none, .mlk false [.s] (.sc (.bool false)) false (.t 43) (.t 45) (pu (.lookup 93 (.tmp 43) (.tmp 45) false) 4)⟩])
 (.cond (.t 46) (.seq (.reg [⟨some 2, none, .mv (.k (.sc (.int .i64 9)))⟩])
 .ret)
 .skip))
 (.reg [⟨some 47, none, .mv (.t 3)⟩,
 ⟨some 48, none, .sh 0 (.t 5)⟩,
 ⟨some 49, none, .ld none (.t 48)⟩,
 ⟨none, none, .mpt false [.s] (.t 47) (.t 49) (.k (.sc (.bool true)))⟩]))))))))
 (.reg [⟨some 50, none, .bin .add false (.t 19) (.k (.sc (.int .i64 1))) (pu (.binOp .add 3 (.tmp 19) (.const (.int .i64 1)) 3) 3)⟩,
 ⟨some 19, none, .mv (.t 50)⟩])))))))
 (.seq (.reg [⟨some 2, none, .mv (.k (.sc (.int .i64 0)))⟩])
 .ret)))))
def k37 : List Nat := [0, 1, 2, 3, 5, 6, 7, 11, 17, 18, 19, 20, 26, 33, 42, 46]
theorem ic37 : factsI Tryz.prog 37 = some (51, [.tmp 2], c37) := by kernel_rfl
def c38 : IC :=
 (.seq (.reg [⟨some 1, none, .bx (.t 0)⟩,
 ⟨some 2, none, .mv (.k (.sc (.int .i64 0)))⟩])
 (.seq (.seq (.reg [⟨some 5, none, .sh 0 (.t 1)⟩,
 ⟨some 6, none, .ld none (.t 5)⟩,
 ⟨some 7, none, .sh 1 (.t 1)⟩,
 ⟨some 8, none, .ld none (.t 7)⟩,
 ⟨some 9, none, .sh 2 (.t 1)⟩,
 ⟨some 10, none, .ld none (.t 9)⟩,
 ⟨some 11, none, .sh 3 (.t 1)⟩,
 ⟨some 12, none, .ld none (.t 11)⟩,
 ⟨some 13, none, .sh 8 (.t 1)⟩,
 ⟨some 14, none, .ld none (.t 13)⟩,
 ⟨some 15, none, .bsl 1 5 false [.sc (.string ⟨#[]⟩), .sc (.string ⟨#[]⟩), .sc (.string ⟨#[]⟩), .sc (.string ⟨#[]⟩), .sc (.string ⟨#[]⟩)] [(0, 1, (.t 6)), (1, 1, (.t 8)), (2, 1, (.t 10)), (3, 1, (.t 12)), (4, 1, (.t 14))]⟩,
 ⟨some 16, none, .call 63 [(.t 15)]⟩,
 ⟨some 3, none, .mv (.t 16)⟩])
 (.seq (.reg [⟨some 17, none, .mv (.t 3)⟩,
 ⟨some 18, none, .bin .neq false (.t 17) (.k (.sc (.int .i64 0))) (pu (.binOp .neq 34 (.tmp 17) (.const (.int .i64 0)) 34) 4)⟩])
 (.cond (.t 18) (.seq (.reg [⟨some 19, none, .mv (.t 3)⟩,
 ⟨some 2, none, .mv (.t 19)⟩])
 .ret)
 .skip)))
 (.seq (.seq (.reg [⟨some 20, none, .sh 1 (.t 1)⟩,
 ⟨some 21, none, .ld none (.t 20)⟩,
 ⟨some 22, none, .sh 2 (.t 1)⟩,
 ⟨some 23, none, .ld none (.t 22)⟩,
 ⟨some 24, none, .bin .eql false (.t 21) (.t 23) (pu (.binOp .eql 9 (.tmp 21) (.tmp 23) 9) 4)⟩])
 (.cond (.t 24) (.seq (.reg [⟨some 2, none, .mv (.k (.sc (.int .i64 1)))⟩])
 .ret)
 .skip))
 (.seq (.seq (.reg [⟨some 25, none, .sh 4 (.t 1)⟩,
 ⟨some 26, none, .ld none (.t 25)⟩,
 ⟨some 27, none, .bsl 1 1 false [.sc (.int .i64 0)] [(0, 1, (.t 26))]⟩,
 ⟨some 28, none, .call 64 [(.k (.sc (.int .i64 1))), (.k (.sc (.int .i64 2147483647))), (.t 27)]⟩,
 ⟨some 29, none, .un .not (.t 28) (pu (.unOp .not 4 (.tmp 28)) 4)⟩,
 ⟨some 30, none, .mv (.t 29)⟩,
 ⟨some 31, (some ((some 30), false)), .sh 5 (.t 1)⟩,
 ⟨some 32, (some ((some 30), false)), .ld none (.t 31)⟩,
 ⟨some 33, (some ((some 30), false)), .sh 6 (.t 1)⟩,
 ⟨some 34, (some ((some 30), false)), .ld none (.t 33)⟩,
 ⟨some 35, (some ((some 30), false)), .bsl 1 2 false [.sc (.int .i64 0), .sc (.int .i64 0)] [(0, 1, (.t 32)), (1, 1, (.t 34))]⟩,
 ⟨some 36, (some ((some 30), false)), .call 64 [(.k (.sc (.int .i64 0))), (.k (.sc (.int .i64 268435456))), (.t 35)]⟩,
 ⟨some 37, (some ((some 30), false)), .un .not (.t 36) (pu (.unOp .not 4 (.tmp 36)) 4)⟩,
 ⟨some 38, none, .pick (.t 30) (.k (.sc (.bool true))) (.t 37)⟩,
 ⟨some 39, none, .mv (.t 38)⟩,
 ⟨some 40, (some ((some 39), false)), .sh 5 (.t 1)⟩,
 ⟨some 41, (some ((some 39), false)), .ld none (.t 40)⟩,
 ⟨some 42, (some ((some 39), false)), .sh 6 (.t 1)⟩,
 ⟨some 43, (some ((some 39), false)), .ld none (.t 42)⟩,
 ⟨some 44, (some ((some 39), false)), .bin .gtr false (.t 41) (.t 43) (pu (.binOp .gtr 3 (.tmp 41) (.tmp 43) 3) 4)⟩,
 ⟨some 45, none, .pick (.t 39) (.k (.sc (.bool true))) (.t 44)⟩,
 ⟨some 46, none, .mv (.t 45)⟩,
 ⟨some 47, (some ((some 46), false)), .sh 7 (.t 1)⟩,
 ⟨some 48, (some ((some 46), false)), .ld none (.t 47)⟩,
 ⟨some 49, (some ((some 46), false)), .bsl 1 1 false [.sc (.int .i64 0)] [(0, 1, (.t 48))]⟩,
 ⟨some 50, (some ((some 46), false)), .call 64 [(.k (.sc (.int .i64 0))), (.k (.sc (.int .i64 36028797018963968))), (.t 49)]⟩,
 ⟨some 51, (some ((some 46), false)), .un .not (.t 50) (pu (.unOp .not 4 (.tmp 50)) 4)⟩,
 ⟨some 52, none, .pick (.t 46) (.k (.sc (.bool true))) (.t 51)⟩])
 (.cond (.t 52) (.seq (.reg [⟨some 2, none, .mv (.k (.sc (.int .i64 2)))⟩])
 .ret)
 .skip))
 (.seq (.seq (.reg [⟨some 53, none, .sh 9 (.t 1)⟩,
 ⟨some 54, none, .ld none (.t 53)⟩,
 ⟨some 55, none, .call 65 [(.t 54)]⟩,
 ⟨some 56, none, .un .not (.t 55) (pu (.unOp .not 4 (.tmp 55)) 4)⟩])
 (.cond (.t 56) (.seq (.reg [⟨some 2, none, .mv (.k (.sc (.int .i64 21)))⟩])
 .ret)
 .skip))
 (.seq (.seq (.reg [⟨some 57, none, .ld (some 14) (.t 1)⟩,
 ⟨some 58, none, .call 66 [(.t 57)]⟩,
 ⟨some 4, none, .mv (.t 58)⟩])
 (.seq (.reg [⟨some 59, none, .mv (.t 4)⟩,
 ⟨some 60, none, .bin .neq false (.t 59) (.k (.sc (.int .i64 0))) (pu (.binOp .neq 34 (.tmp 59) (.const (.int .i64 0)) 34) 4)⟩])
 (.cond (.t 60) (.seq (.reg [⟨some 61, none, .mv (.t 4)⟩,
 ⟨some 2, none, .mv (.t 61)⟩])
 .ret)
 .skip)))
 (.seq (.reg [⟨some 62, none, .ld (some 14) (.t 1)⟩,
 ⟨some 63, none, .call 67 [(.t 62)]⟩,
 ⟨some 2, none, .mv (.t 63)⟩])
 .ret)))))))
def k38 : List Nat := [0, 1, 2, 3, 4, 18, 24, 52, 56, 60]
theorem ic38 : factsI Tryz.prog 38 = some (64, [.tmp 2], c38) := by kernel_rfl
end Go.Proofs.YtikmficjcbkhcaaGreat
