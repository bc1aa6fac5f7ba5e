import Derived.Test.YtikmficjcbkhcaaCodesA
import Derived.Test.YtikmficjcbkhcaaIdlM4
namespace Go.Proofs.Ytikmficjcbkhcaa
open Go.Idl
def c38 : IC :=
 (.seq (.reg [⟨some 1, none, .bx (.t 0)⟩,
 ⟨some 2, none, .al (.agg [.sc (.string ⟨#[]⟩), .sc (.string ⟨#[]⟩), .sc (.slice none 0 0), .sc (.slice none 0 0), .sc (.int .i64 0), .sc (.slice none 0 0), .sc (.slice none 0 0)]) 7⟩])
 (.seq (.reg [⟨some 8, none, .ld (some 7) (.t 1)⟩,
 ⟨some 3, none, .al (.agg [.sc (.string ⟨#[]⟩), .sc (.string ⟨#[]⟩), .sc (.slice none 0 0), .sc (.slice none 0 0), .sc (.int .i64 0), .sc (.slice none 0 0), .sc (.slice none 0 0)]) 7⟩,
 ⟨none, none, .st 7 (.t 3) (.t 8)⟩])
 (.seq (.reg [⟨some 9, none, .sh 1 (.t 1)⟩,
 ⟨some 10, none, .sh 2 (.t 9)⟩,
 ⟨some 11, none, .ld none (.t 10)⟩,
 ⟨some 12, none, .app 1 8 (.k (.sc (.slice none 0 0))) (.t 11)⟩,
 ⟨some 13, none, .sh 1 (.t 3)⟩,
 ⟨some 14, none, .sh 2 (.t 13)⟩,
 ⟨none, none, .st 1 (.t 14) (.t 12)⟩])
 (.seq (.reg [⟨some 15, none, .sh 1 (.t 1)⟩,
 ⟨some 16, none, .sh 1 (.t 15)⟩,
 ⟨some 17, none, .ld none (.t 16)⟩,
 ⟨some 18, none, .len (.t 17) (pu (.call ⟨.builtin .len, #[(.tmp 17)], #[22]⟩) 3)⟩,
 ⟨some 19, none, .mks 6 80 (.agg [.sc (.int .i64 0), .sc (.string ⟨#[]⟩), .sc (.string ⟨#[]⟩), .sc (.int .i64 0), .sc (.bool false), .sc (.slice none 0 0)]) (.k (.sc (.int .i64 0))) (.t 18)⟩,
 ⟨some 20, none, .sh 1 (.t 3)⟩,
 ⟨some 21, none, .sh 1 (.t 20)⟩,
 ⟨none, none, .st 1 (.t 21) (.t 19)⟩])
 (.seq (.seq (.reg [⟨some 22, none, .sh 1 (.t 1)⟩,
 ⟨some 23, none, .sh 1 (.t 22)⟩,
 ⟨some 24, none, .ld none (.t 23)⟩,
 ⟨some 25, none, .len (.t 24) (pu (.call ⟨.builtin .len, #[(.tmp 24)], #[22]⟩) 3)⟩,
 ⟨some 26, none, .mv (.k (.sc (.int .i64 0)))⟩])
 (.block 0 (.loop (.seq (.reg [⟨some 27, none, .bin .lss false (.t 26) (.t 25) (pu (.binOp .lss 3 (.tmp 26) (.tmp 25) 3) 0)⟩])
 (.seq (.cond (.t 27) .skip
 (.exit 0))
 (.seq (.block 1 (.seq (.reg [⟨some 28, none, .ixs 6 (.t 24) (.t 26)⟩,
 ⟨some 29, none, .ld (some 6) (.t 28)⟩,
 ⟨some 5, none, .al (.agg [.sc (.int .i64 0), .sc (.string ⟨#[]⟩), .sc (.string ⟨#[]⟩), .sc (.int .i64 0), .sc (.bool false), .sc (.slice none 0 0)]) 6⟩,
 ⟨none, none, .st 6 (.t 5) (.t 29)⟩])
 (.seq (.reg [⟨some 30, none, .sh 5 (.t 5)⟩,
 ⟨some 31, none, .ld none (.t 30)⟩,
 ⟨some 32, none, .app 1 1 (.k (.sc (.slice none 0 0))) (.t 31)⟩,
 ⟨some 33, none, .sh 5 (.t 5)⟩,
 ⟨none, none, .st 1 (.t 33) (.t 32)⟩])
 (.reg [⟨some 34, none, .sh 1 (.t 3)⟩,
 ⟨some 35, none, .sh 1 (.t 34)⟩,
 ⟨some 36, none, .ld none (.t 35)⟩,
 ⟨some 37, none, .ld (some 6) (.t 5)⟩,
 ⟨some 38, none, .bsl 6 1 true [.sc (.int .i64 0), .sc (.string ⟨#[]⟩), .sc (.string ⟨#[]⟩), .sc (.int .i64 0), .sc (.bool false), .sc (.slice none 0 0)] [(0, 6, (.t 37))]⟩,
 ⟨some 39, none, .app 6 80 (.t 36) (.t 38)⟩,
 ⟨some 40, none, .sh 1 (.t 3)⟩,
 ⟨some 41, none, .sh 1 (.t 40)⟩,
 ⟨none, none, .st 1 (.t 41) (.t 39)⟩]))))
 (.reg [⟨some 42, none, .bin .add false (.t 26) (.k (.sc (.int .i64 1))) (pu (.binOp .add 3 (.tmp 26) (.const (.int .i64 1)) 3) 3)⟩,
 ⟨some 26, none, .mv (.t 42)⟩])))))))
 (.seq (.reg [⟨some 43, none, .sh 5 (.t 1)⟩,
 ⟨some 44, none, .ld none (.t 43)⟩,
 ⟨some 45, none, .len (.t 44) (pu (.call ⟨.builtin .len, #[(.tmp 44)], #[26]⟩) 3)⟩,
 ⟨some 46, none, .bin .add false (.t 45) (.k (.sc (.int .i64 1))) (pu (.binOp .add 3 (.tmp 45) (.const (.int .i64 1)) 3) 3)⟩,
 ⟨some 47, none, .mks 14 184 (.agg [.sc (.string ⟨#[]⟩), .sc (.string ⟨#[]⟩), .sc (.string ⟨#[]⟩), .sc (.string ⟨#[]⟩), .sc (.int .i64 0), .sc (.int .i64 0), .sc (.int .i64 0), .sc (.int .i64 0), .sc (.string ⟨#[]⟩), .sc (.string ⟨#[]⟩), .sc (.slice none 0 0), .sc (.int .i64 0), .sc (.bool false), .sc (.string ⟨#[]⟩)]) (.k (.sc (.int .i64 0))) (.t 46)⟩,
 ⟨some 48, none, .sh 5 (.t 3)⟩,
 ⟨none, none, .st 1 (.t 48) (.t 47)⟩])
 (.seq (.seq (.reg [⟨some 49, none, .sh 5 (.t 1)⟩,
 ⟨some 50, none, .ld none (.t 49)⟩,
 ⟨some 51, none, .len (.t 50) (pu (.call ⟨.builtin .len, #[(.tmp 50)], #[26]⟩) 3)⟩,
 ⟨some 52, none, .mv (.k (.sc (.int .i64 0)))⟩])
 (.block 2 (.loop (.seq (.reg [⟨some 53, none, .bin .lss false (.t 52) (.t 51) (pu (.binOp .lss 3 (.tmp 52) (.tmp 51) 3) 0)⟩])
 (.seq (.cond (.t 53) .skip
 (.exit 2))
 (.seq (.block 3 (.seq (.reg [⟨some 54, none, .ixs 14 (.t 50) (.t 52)⟩,
 ⟨some 55, none, .ld (some 14) (.t 54)⟩,
 ⟨some 7, none, .al (.agg [.sc (.string ⟨#[]⟩), .sc (.string ⟨#[]⟩), .sc (.string ⟨#[]⟩), .sc (.string ⟨#[]⟩), .sc (.int .i64 0), .sc (.int .i64 0), .sc (.int .i64 0), .sc (.int .i64 0), .sc (.string ⟨#[]⟩), .sc (.string ⟨#[]⟩), .sc (.slice none 0 0), .sc (.int .i64 0), .sc (.bool false), .sc (.string ⟨#[]⟩)]) 14⟩,
 ⟨none, none, .st 14 (.t 7) (.t 55)⟩])
 (.drw [0, 1, 0, 4, 12, 31, 63, 127] [⟨some 56, none, .sh 5 (.t 3)⟩,
 ⟨some 57, none, .ld none (.t 56)⟩,
 ⟨some 58, none, .ld (some 14) (.t 7)⟩,
 ⟨some 59, none, .call 39 [(.t 58)]⟩,
 ⟨some 60, none, .bsl 14 1 true [.sc (.string ⟨#[]⟩), .sc (.string ⟨#[]⟩), .sc (.string ⟨#[]⟩), .sc (.string ⟨#[]⟩), .sc (.int .i64 0), .sc (.int .i64 0), .sc (.int .i64 0), .sc (.int .i64 0), .sc (.string ⟨#[]⟩), .sc (.string ⟨#[]⟩), .sc (.slice none 0 0), .sc (.int .i64 0), .sc (.bool false), .sc (.string ⟨#[]⟩)] [(0, 14, (.t 59))]⟩,
 ⟨some 61, none, .app 14 184 (.t 57) (.t 60)⟩,
 ⟨some 62, none, .sh 5 (.t 3)⟩,
 ⟨none, none, .st 1 (.t 62) (.t 61)⟩])))
 (.reg [⟨some 63, none, .bin .add false (.t 52) (.k (.sc (.int .i64 1))) (pu (.binOp .add 3 (.tmp 52) (.const (.int .i64 1)) 3) 3)⟩,
 ⟨some 52, none, .mv (.t 63)⟩])))))))
 (.seq (.reg [⟨some 64, none, .sh 6 (.t 1)⟩,
 ⟨some 65, none, .ld none (.t 64)⟩,
 ⟨some 66, none, .len (.t 65) (pu (.call ⟨.builtin .len, #[(.tmp 65)], #[27]⟩) 3)⟩,
 ⟨some 67, none, .sh 6 (.t 1)⟩,
 ⟨some 68, none, .ld none (.t 67)⟩,
 ⟨some 69, none, .len (.t 68) (pu (.call ⟨.builtin .len, #[(.tmp 68)], #[27]⟩) 3)⟩,
 ⟨some 70, none, .bin .add false (.t 69) (.k (.sc (.int .i64 1))) (pu (.binOp .add 3 (.tmp 69) (.const (.int .i64 1)) 3) 3)⟩,
 ⟨some 71, none, .mks 6 64 (.agg [.sc (.string ⟨#[]⟩), .sc (.string ⟨#[]⟩), .sc (.int .i64 0), .sc (.int .i64 0), .sc (.int .i64 0), .sc (.int .i64 0)]) (.t 66) (.t 70)⟩,
 ⟨some 72, none, .sh 6 (.t 3)⟩,
 ⟨none, none, .st 1 (.t 72) (.t 71)⟩])
 (.seq (.reg [⟨some 73, none, .sh 6 (.t 3)⟩,
 ⟨some 74, none, .ld none (.t 73)⟩,
 ⟨some 75, none, .sh 6 (.t 1)⟩,
 ⟨some 76, none, .ld none (.t 75)⟩,
 ⟨some 77, none, .pur (pu (.call ⟨.builtin .copy, #[(.tmp 74), (.tmp 76)], #[27, 27]⟩) 3)⟩])
 (.seq (.reg [⟨some 78, none, .ld (some 7) (.t 3)⟩,
 ⟨none, none, .st 7 (.t 2) (.t 78)⟩])
 .ret))))))))))
def k38 : List Nat := [0, 1, 2, 3, 5, 7, 24, 25, 26, 27, 50, 51, 52, 53]
theorem ic38 : factsI Try.prog 38 = some (79, [.cell 2 29], c38) := by kernel_rfl
def c39 : IC :=
 (.seq (.reg [⟨some 1, none, .bx (.t 0)⟩,
 ⟨some 2, none, .al (.agg [.sc (.string ⟨#[]⟩), .sc (.string ⟨#[]⟩), .sc (.string ⟨#[]⟩), .sc (.string ⟨#[]⟩), .sc (.int .i64 0), .sc (.int .i64 0), .sc (.int .i64 0), .sc (.int .i64 0), .sc (.string ⟨#[]⟩), .sc (.string ⟨#[]⟩), .sc (.slice none 0 0), .sc (.int .i64 0), .sc (.bool false), .sc (.string ⟨#[]⟩)]) 14⟩])
 (.seq (.reg [⟨some 3, none, .sh 10 (.t 1)⟩,
 ⟨some 4, none, .ld none (.t 3)⟩,
 ⟨some 5, none, .app 7 56 (.k (.sc (.slice none 0 0))) (.t 4)⟩,
 ⟨some 6, none, .sh 10 (.t 1)⟩,
 ⟨none, none, .st 1 (.t 6) (.t 5)⟩])
 (.seq (.reg [⟨some 7, none, .ld (some 14) (.t 1)⟩,
 ⟨none, none, .st 14 (.t 2) (.t 7)⟩])
 .ret)))
def k39 : List Nat := [0, 1, 2]
theorem ic39 : factsI Try.prog 39 = some (8, [.cell 2 40], c39) := by kernel_rfl
def c40 : IC :=
 (.seq (.reg [⟨some 2, none, .mv (.k (.sc (.int .i64 0)))⟩])
 (.seq (.reg [⟨some 8, none, .mv (.t 0)⟩,
 ⟨some 9, none, .nck (.t 8) (pu (.nilCheck (.tmp 8)) 0)⟩,
 ⟨some 10, none, .sh 7 (.t 9)⟩,
 ⟨some 11, none, .ld (some 7) (.t 10)⟩,
 ⟨some 12, none, .call 65 [(.t 11)]⟩,
 ⟨some 3, none, .mv (.t 12)⟩])
 (.seq (.seq (.reg [⟨some 13, none, .mv (.t 0)⟩,
 ⟨some 14, none, .nck (.t 13) (pu (.nilCheck (.tmp 13)) 0)⟩,
 ⟨some 15, none, .sh 0 (.t 14)⟩,
 ⟨some 16, none, .sh 5 (.t 15)⟩,
 ⟨some 17, none, .ld none (.t 16)⟩,
 ⟨some 18, none, .len (.t 17) (pu (.call ⟨.builtin .len, #[(.tmp 17)], #[26]⟩) 3)⟩,
 ⟨some 19, none, .mv (.k (.sc (.int .i64 0)))⟩])
 (.block 0 (.loop (.seq (.reg [⟨some 20, none, .bin .lss false (.t 19) (.t 18) (pu (.binOp .lss 3 (.tmp 19) (.tmp 18) 3) 0)⟩])
 (.seq (.cond (.t 20) .skip
 (.exit 0))
 (.seq (.block 1 (.seq (.reg [⟨some 21, none, .ixs 14 (.t 17) (.t 19)⟩,
 ⟨some 22, none, .ld (some 14) (.t 21)⟩,
 ⟨some 5, none, .al (.agg [.sc (.string ⟨#[]⟩), .sc (.string ⟨#[]⟩), .sc (.string ⟨#[]⟩), .sc (.string ⟨#[]⟩), .sc (.int .i64 0), .sc (.int .i64 0), .sc (.int .i64 0), .sc (.int .i64 0), .sc (.string ⟨#[]⟩), .sc (.string ⟨#[]⟩), .sc (.slice none 0 0), .sc (.int .i64 0), .sc (.bool false), .sc (.string ⟨#[]⟩)]) 14⟩,
 ⟨none, none, .st 14 (.t 5) (.t 22)⟩])
 (.seq (.reg [⟨some 24, none, .mv (.t 3)⟩,
 ⟨some 25, none, .sh 0 (.t 5)⟩,
 ⟨some 26, none, .ld none (.t 25)⟩,
 ⟨some 27, none, .mlk false [.s] (.agg [.sc (.string ⟨#[]⟩), .sc (.string ⟨#[]⟩), .sc (.string ⟨#[]⟩), .sc (.string ⟨#[]⟩), .sc (.int .i64 0), .sc (.int .i64 0), .sc (.int .i64 0), .sc (.int .i64 0), .sc (.string ⟨#[]⟩), .sc (.string ⟨#[]⟩), .sc (.slice none 0 0), .sc (.int .i64 0), .sc (.bool false), .sc (.string ⟨#[]⟩)]) true (.t 24) (.t 26) (pu (.lookup 56 (.tmp 24) (.tmp 26) true) 59)⟩,
 ⟨some 23, none, .mv (.t 27)⟩,
 ⟨some 28, none, .ext (.t 23) 0⟩,
 ⟨some 29, none, .ext (.t 23) 1⟩,
 ⟨some 6, none, .al (.agg [.sc (.string ⟨#[]⟩), .sc (.string ⟨#[]⟩), .sc (.string ⟨#[]⟩), .sc (.string ⟨#[]⟩), .sc (.int .i64 0), .sc (.int .i64 0), .sc (.int .i64 0), .sc (.int .i64 0), .sc (.string ⟨#[]⟩), .sc (.string ⟨#[]⟩), .sc (.slice none 0 0), .sc (.int .i64 0), .sc (.bool false), .sc (.string ⟨#[]⟩)]) 14⟩,
 ⟨none, none, .st 14 (.t 6) (.t 28)⟩,
 ⟨some 7, none, .mv (.t 29)⟩])
 (.seq (.reg [⟨some 30, none, .mv (.t 7)⟩,
 ⟨some 31, none, .mv (.t 30)⟩,
 ⟨some 32, (some ((some 31), true)), .ld (some 14) (.t 5)⟩,
 ⟨some 33, (some ((some 31), true)), .ld (some 14) (.t 6)⟩,
 ⟨some 34, (some ((some 31), true)), .call 32 [(.t 32), (.t 33)]⟩,
 ⟨some 35, (some ((some 31), true)), .un .not (.t 34) (pu (.unOp .not 4 (.tmp 34)) 4)⟩,
 ⟨some 36, none, .pick (.t 31) (.t 35) (.k (.sc (.bool false)))⟩])
 (.cond (.t 36) (.seq (.reg [⟨some 2, none, .mv (.k (.sc (.int .i64 23)))⟩])
 .ret)
 .skip)))))
 (.reg [⟨some 37, none, .bin .add false (.t 19) (.k (.sc (.int .i64 1))) (pu (.binOp .add 3 (.tmp 19) (.const (.int .i64 1)) 3) 3)⟩,
 ⟨some 19, none, .mv (.t 37)⟩])))))))
 (.seq (.reg [⟨some 2, none, .mv (.k (.sc (.int .i64 0)))⟩])
 .ret))))
def k40 : List Nat := [0, 2, 3, 5, 6, 7, 17, 18, 19, 20, 36]
theorem ic40 : factsI Try.prog 40 = some (38, [.tmp 2], c40) := by kernel_rfl
def c41 : IC :=
 (.seq (.reg [⟨some 2, none, .mv (.k (.sc (.int .i64 0)))⟩])
 (.seq (.reg [⟨some 8, none, .mv (.t 0)⟩,
 ⟨some 9, none, .nck (.t 8) (pu (.nilCheck (.tmp 8)) 0)⟩,
 ⟨some 10, none, .sh 0 (.t 9)⟩,
 ⟨some 11, none, .sh 1 (.t 10)⟩,
 ⟨some 12, none, .ld (some 4) (.t 11)⟩,
 ⟨some 13, none, .call 66 [(.t 12), (.k (.sc (.int .i64 0)))]⟩,
 ⟨some 7, none, .mv (.t 13)⟩,
 ⟨some 14, none, .ext (.t 7) 0⟩,
 ⟨some 15, none, .ext (.t 7) 1⟩,
 ⟨some 3, none, .mv (.t 14)⟩,
 ⟨some 4, none, .mv (.t 15)⟩])
 (.seq (.reg [⟨some 17, none, .mv (.t 0)⟩,
 ⟨some 18, none, .nck (.t 17) (pu (.nilCheck (.tmp 17)) 0)⟩,
 ⟨some 19, none, .sh 7 (.t 18)⟩,
 ⟨some 20, none, .sh 1 (.t 19)⟩,
 ⟨some 21, none, .ld (some 4) (.t 20)⟩,
 ⟨some 22, none, .call 66 [(.t 21), (.k (.sc (.int .i64 0)))]⟩,
 ⟨some 16, none, .mv (.t 22)⟩,
 ⟨some 23, none, .ext (.t 16) 0⟩,
 ⟨some 24, none, .ext (.t 16) 1⟩,
 ⟨some 5, none, .mv (.t 23)⟩,
 ⟨some 6, none, .mv (.t 24)⟩])
 (.seq (.reg [⟨some 26, none, .mv (.t 0)⟩,
 ⟨some 27, none, .mv (.t 0)⟩,
 ⟨some 28, none, .nck (.t 27) (pu (.nilCheck (.tmp 27)) 0)⟩,
 ⟨some 29, none, .sh 0 (.t 28)⟩,
 ⟨some 30, none, .sh 1 (.t 29)⟩,
 ⟨some 31, none, .ld (some 4) (.t 30)⟩,
 ⟨some 32, none, .mv (.t 5)⟩,
 ⟨some 33, none, .call 67 [(.t 31), (.t 32)]⟩,
 ⟨some 25, none, .mv (.t 33)⟩,
 ⟨some 34, none, .ext (.t 25) 0⟩,
 ⟨some 35, none, .ext (.t 25) 1⟩,
 ⟨some 36, none, .nck (.t 26) (pu (.nilCheck (.tmp 26)) 0)⟩,
 ⟨some 37, none, .sh 0 (.t 36)⟩,
 ⟨some 38, none, .sh 1 (.t 37)⟩,
 ⟨none, none, .st 4 (.t 38) (.t 34)⟩])
 (.seq (.reg [⟨some 40, none, .mv (.t 0)⟩,
 ⟨some 41, none, .mv (.t 0)⟩,
 ⟨some 42, none, .nck (.t 41) (pu (.nilCheck (.tmp 41)) 0)⟩,
 ⟨some 43, none, .sh 7 (.t 42)⟩,
 ⟨some 44, none, .sh 1 (.t 43)⟩,
 ⟨some 45, none, .ld (some 4) (.t 44)⟩,
 ⟨some 46, none, .mv (.t 3)⟩,
 ⟨some 47, none, .call 67 [(.t 45), (.t 46)]⟩,
 ⟨some 39, none, .mv (.t 47)⟩,
 ⟨some 48, none, .ext (.t 39) 0⟩,
 ⟨some 49, none, .ext (.t 39) 1⟩,
 ⟨some 50, none, .nck (.t 40) (pu (.nilCheck (.tmp 40)) 0)⟩,
 ⟨some 51, none, .sh 7 (.t 50)⟩,
 ⟨some 52, none, .sh 1 (.t 51)⟩,
 ⟨none, none, .st 4 (.t 52) (.t 48)⟩])
 (.seq (.reg [⟨some 2, none, .mv (.k (.sc (.int .i64 0)))⟩])
 .ret))))))
def k41 : List Nat := [0, 2, 3, 5]
theorem ic41 : factsI Try.prog 41 = some (53, [.tmp 2], c41) := by kernel_rfl
def c42 : IC :=
 (.seq (.reg [⟨some 2, none, .mv (.k (.sc (.int .i64 0)))⟩])
 (.seq (.any [0, 0, 2, 6, 14, 0, 32, 96, 224, 511, 0, 0, 2048, 6144, 14336, 0, 32768, 98304, 229376, 524287, 1048575, 2097151] [⟨some 5, none, .mv (.t 0)⟩,
 ⟨some 6, none, .mv (.t 0)⟩,
 ⟨some 7, none, .nck (.t 6) (pu (.nilCheck (.tmp 6)) 0)⟩,
 ⟨some 8, none, .sh 7 (.t 7)⟩,
 ⟨some 9, none, .ld (some 7) (.t 8)⟩,
 ⟨some 10, none, .mv (.t 0)⟩,
 ⟨some 11, none, .nck (.t 10) (pu (.nilCheck (.tmp 10)) 0)⟩,
 ⟨some 12, none, .sh 0 (.t 11)⟩,
 ⟨some 13, none, .ld (some 7) (.t 12)⟩,
 ⟨some 14, none, .call 68 [(.t 5), (.t 9), (.t 13)]⟩,
 ⟨some 15, none, .mv (.t 0)⟩,
 ⟨some 16, none, .mv (.t 0)⟩,
 ⟨some 17, none, .nck (.t 16) (pu (.nilCheck (.tmp 16)) 0)⟩,
 ⟨some 18, none, .sh 0 (.t 17)⟩,
 ⟨some 19, none, .ld (some 7) (.t 18)⟩,
 ⟨some 20, none, .mv (.t 0)⟩,
 ⟨some 21, none, .nck (.t 20) (pu (.nilCheck (.tmp 20)) 0)⟩,
 ⟨some 22, none, .sh 7 (.t 21)⟩,
 ⟨some 23, none, .ld (some 7) (.t 22)⟩,
 ⟨some 24, none, .call 68 [(.t 15), (.t 19), (.t 23)]⟩,
 ⟨some 3, none, .mv (.t 14)⟩,
 ⟨some 4, none, .mv (.t 24)⟩])
 (.seq (.seq (.reg [⟨some 25, none, .mv (.t 0)⟩,
 ⟨some 26, none, .nck (.t 25) (pu (.nilCheck (.tmp 25)) 0)⟩,
 ⟨some 27, none, .sh 0 (.t 26)⟩,
 ⟨some 28, none, .sh 5 (.t 27)⟩,
 ⟨some 29, none, .ld none (.t 28)⟩,
 ⟨some 30, none, .len (.t 29) (pu (.call ⟨.builtin .len, #[(.tmp 29)], #[26]⟩) 3)⟩,
 ⟨some 31, none, .mv (.t 3)⟩,
 ⟨some 32, none, .len (.t 31) (pu (.call ⟨.builtin .len, #[(.tmp 31)], #[26]⟩) 3)⟩,
 ⟨some 33, none, .bin .add false (.t 30) (.t 32) (pu (.binOp .add 3 (.tmp 30) (.tmp 32) 3) 3)⟩,
 ⟨some 34, none, .bin .gtr false (.t 33) (.k (.sc (.int .i64 256))) (pu (.binOp .gtr 3 (.tmp 33) (.const (.int .i64 256)) 3) 4)⟩,
 ⟨some 35, none, .mv (.t 34)⟩,
 ⟨some 36, (some ((some 35), false)), .mv (.t 0)⟩,
 ⟨some 37, (some ((some 35), false)), .nck (.t 36) (pu (.nilCheck (.tmp 36)) 0)⟩,
 ⟨some 38, (some ((some 35), false)), .sh 7 (.t 37)⟩,
 ⟨some 39, (some ((some 35), false)), .sh 5 (.t 38)⟩,
 ⟨some 40, (some ((some 35), false)), .ld none (.t 39)⟩,
 ⟨some 41, (some ((some 35), false)), .len (.t 40) (pu (.call ⟨.builtin .len, #[(.tmp 40)], #[26]⟩) 3)⟩,
 ⟨some 42, (some ((some 35), false)), .mv (.t 4)⟩,
 ⟨some 43, (some ((some 35), false)), .len (.t 42) (pu (.call ⟨.builtin .len, #[(.tmp 42)], #[26]⟩) 3)⟩,
 ⟨some 44, (some ((some 35), false)), .bin .add false (.t 41) (.t 43) (pu (.binOp .add 3 (.tmp 41) (.tmp 43) 3) 3)⟩,
 ⟨some 45, (some ((some 35), false)), .bin .gtr false (.t 44) (.k (.sc (.int .i64 256))) (pu (.binOp .gtr 3 (.tmp 44) (.const (.int .i64 256)) 3) 4)⟩,
 ⟨some 46, none, .pick (.t 35) (.k (.sc (.bool true))) (.t 45)⟩])
 (.cond (.t 46) (.seq (.reg [⟨some 2, none, .mv (.k (.sc (.int .i64 3)))⟩])
 .ret)
 .skip))
 (.seq (.reg [⟨some 47, none, .mv (.t 0)⟩,
 ⟨some 48, none, .mv (.t 0)⟩,
 ⟨some 49, none, .nck (.t 48) (pu (.nilCheck (.tmp 48)) 0)⟩,
 ⟨some 50, none, .sh 0 (.t 49)⟩,
 ⟨some 51, none, .sh 5 (.t 50)⟩,
 ⟨some 52, none, .ld none (.t 51)⟩,
 ⟨some 53, none, .mv (.t 3)⟩,
 ⟨some 54, none, .app 14 184 (.t 52) (.t 53)⟩,
 ⟨some 55, none, .nck (.t 47) (pu (.nilCheck (.tmp 47)) 0)⟩,
 ⟨some 56, none, .sh 0 (.t 55)⟩,
 ⟨some 57, none, .sh 5 (.t 56)⟩,
 ⟨none, none, .st 1 (.t 57) (.t 54)⟩])
 (.seq (.reg [⟨some 58, none, .mv (.t 0)⟩,
 ⟨some 59, none, .mv (.t 0)⟩,
 ⟨some 60, none, .nck (.t 59) (pu (.nilCheck (.tmp 59)) 0)⟩,
 ⟨some 61, none, .sh 7 (.t 60)⟩,
 ⟨some 62, none, .sh 5 (.t 61)⟩,
 ⟨some 63, none, .ld none (.t 62)⟩,
 ⟨some 64, none, .mv (.t 4)⟩,
 ⟨some 65, none, .app 14 184 (.t 63) (.t 64)⟩,
 ⟨some 66, none, .nck (.t 58) (pu (.nilCheck (.tmp 58)) 0)⟩,
 ⟨some 67, none, .sh 7 (.t 66)⟩,
 ⟨some 68, none, .sh 5 (.t 67)⟩,
 ⟨none, none, .st 1 (.t 68) (.t 65)⟩])
 (.seq (.reg [⟨some 2, none, .mv (.k (.sc (.int .i64 0)))⟩])
 .ret))))))
def k42 : List Nat := [0, 2, 3, 4, 46]
theorem ic42 : factsI Try.prog 42 = some (69, [.tmp 2], c42) := by kernel_rfl
def c43 : IC :=
 (.seq (.reg [⟨some 2, none, .mv (.k (.sc (.int .i64 0)))⟩])
 (.seq (.drw [0, 1, 3, 7, 0, 16, 48, 112, 240, 0, 512, 1536, 3584, 7680, 16383, 32767] [⟨some 5, none, .mv (.t 0)⟩,
 ⟨some 6, none, .nck (.t 5) (pu (.nilCheck (.tmp 5)) 0)⟩,
 ⟨some 7, none, .sh 0 (.t 6)⟩,
 ⟨some 8, none, .ld (some 7) (.t 7)⟩,
 ⟨some 9, none, .mv (.t 0)⟩,
 ⟨some 10, none, .nck (.t 9) (pu (.nilCheck (.tmp 9)) 0)⟩,
 ⟨some 11, none, .sh 0 (.t 10)⟩,
 ⟨some 12, none, .sh 0 (.t 11)⟩,
 ⟨some 13, none, .ld none (.t 12)⟩,
 ⟨some 14, none, .mv (.t 0)⟩,
 ⟨some 15, none, .nck (.t 14) (pu (.nilCheck (.tmp 14)) 0)⟩,
 ⟨some 16, none, .sh 7 (.t 15)⟩,
 ⟨some 17, none, .sh 0 (.t 16)⟩,
 ⟨some 18, none, .ld none (.t 17)⟩,
 ⟨some 19, none, .call 33 [(.t 8), (.t 13), (.t 18)]⟩,
 ⟨some 3, none, .mv (.t 19)⟩])
 (.seq (.drw [0, 1, 3, 7, 0, 16, 48, 112, 240, 0, 512, 1536, 3584, 7680, 16383, 32767] [⟨some 20, none, .mv (.t 0)⟩,
 ⟨some 21, none, .nck (.t 20) (pu (.nilCheck (.tmp 20)) 0)⟩,
 ⟨some 22, none, .sh 7 (.t 21)⟩,
 ⟨some 23, none, .ld (some 7) (.t 22)⟩,
 ⟨some 24, none, .mv (.t 0)⟩,
 ⟨some 25, none, .nck (.t 24) (pu (.nilCheck (.tmp 24)) 0)⟩,
 ⟨some 26, none, .sh 0 (.t 25)⟩,
 ⟨some 27, none, .sh 0 (.t 26)⟩,
 ⟨some 28, none, .ld none (.t 27)⟩,
 ⟨some 29, none, .mv (.t 0)⟩,
 ⟨some 30, none, .nck (.t 29) (pu (.nilCheck (.tmp 29)) 0)⟩,
 ⟨some 31, none, .sh 7 (.t 30)⟩,
 ⟨some 32, none, .sh 0 (.t 31)⟩,
 ⟨some 33, none, .ld none (.t 32)⟩,
 ⟨some 34, none, .call 33 [(.t 23), (.t 28), (.t 33)]⟩,
 ⟨some 4, none, .mv (.t 34)⟩])
 (.seq (.reg [⟨some 35, none, .mv (.t 0)⟩,
 ⟨some 36, none, .mv (.t 0)⟩,
 ⟨some 37, none, .nck (.t 36) (pu (.nilCheck (.tmp 36)) 0)⟩,
 ⟨some 38, none, .sh 0 (.t 37)⟩,
 ⟨some 39, none, .sh 6 (.t 38)⟩,
 ⟨some 40, none, .ld none (.t 39)⟩,
 ⟨some 41, none, .mv (.t 4)⟩,
 ⟨some 42, none, .call 69 [(.t 40), (.t 41)]⟩,
 ⟨some 43, none, .nck (.t 35) (pu (.nilCheck (.tmp 35)) 0)⟩,
 ⟨some 44, none, .sh 0 (.t 43)⟩,
 ⟨some 45, none, .sh 6 (.t 44)⟩,
 ⟨none, none, .st 1 (.t 45) (.t 42)⟩])
 (.seq (.reg [⟨some 46, none, .mv (.t 0)⟩,
 ⟨some 47, none, .mv (.t 0)⟩,
 ⟨some 48, none, .nck (.t 47) (pu (.nilCheck (.tmp 47)) 0)⟩,
 ⟨some 49, none, .sh 7 (.t 48)⟩,
 ⟨some 50, none, .sh 6 (.t 49)⟩,
 ⟨some 51, none, .ld none (.t 50)⟩,
 ⟨some 52, none, .mv (.t 3)⟩,
 ⟨some 53, none, .call 69 [(.t 51), (.t 52)]⟩,
 ⟨some 54, none, .nck (.t 46) (pu (.nilCheck (.tmp 46)) 0)⟩,
 ⟨some 55, none, .sh 7 (.t 54)⟩,
 ⟨some 56, none, .sh 6 (.t 55)⟩,
 ⟨none, none, .st 1 (.t 56) (.t 53)⟩])
 (.seq (.seq (.reg [⟨some 57, none, .mv (.t 0)⟩,
 ⟨some 58, none, .nck (.t 57) (pu (.nilCheck (.tmp 57)) 0)⟩,
 ⟨some 59, none, .sh 0 (.t 58)⟩,
 ⟨some 60, none, .sh 6 (.t 59)⟩,
 ⟨some 61, none, .ld none (.t 60)⟩,
 ⟨some 62, none, .len (.t 61) (pu (.call ⟨.builtin .len, #[(.tmp 61)], #[27]⟩) 3)⟩,
 ⟨some 63, none, .bin .gtr false (.t 62) (.k (.sc (.int .i64 256))) (pu (.binOp .gtr 3 (.tmp 62) (.const (.int .i64 256)) 3) 4)⟩,
 ⟨some 64, none, .mv (.t 63)⟩,
 ⟨some 65, (some ((some 64), false)), .mv (.t 0)⟩,
 ⟨some 66, (some ((some 64), false)), .nck (.t 65) (pu (.nilCheck (.tmp 65)) 0)⟩,
 ⟨some 67, (some ((some 64), false)), .sh 7 (.t 66)⟩,
 ⟨some 68, (some ((some 64), false)), .sh 6 (.t 67)⟩,
 ⟨some 69, (some ((some 64), false)), .ld none (.t 68)⟩,
 ⟨some 70, (some ((some 64), false)), .len (.t 69) (pu (.call ⟨.builtin .len, #[(.tmp 69)], #[27]⟩) 3)⟩,
 ⟨some 71, (some ((some 64), false)), .bin .gtr false (.t 70) (.k (.sc (.int .i64 256))) (pu (.binOp .gtr 3 (.tmp 70) (.const (.int .i64 256)) 3) 4)⟩,
 ⟨some 72, none, .pick (.t 64) (.k (.sc (.bool true))) (.t 71)⟩])
 (.cond (.t 72) (.seq (.reg [⟨some 2, none, .mv (.k (.sc (.int .i64 3)))⟩])
 .ret)
 .skip))
 (.seq (.reg [⟨some 2, none, .mv (.k (.sc (.int .i64 0)))⟩])
 .ret)))))))
def k43 : List Nat := [0, 2, 3, 4, 72]
theorem ic43 : factsI Try.prog 43 = some (73, [.tmp 2], c43) := by kernel_rfl
def c44 : IC :=
 (.seq (.reg [⟨some 2, none, .bx (.t 0)⟩,
 ⟨some 4, none, .mv (.k (.sc (.int .i64 0)))⟩])
 (.seq (.seq (.reg [⟨some 7, none, .sh 6 (.t 2)⟩,
 ⟨some 8, none, .ld none (.t 7)⟩,
 ⟨some 9, none, .len (.t 8) (pu (.call ⟨.builtin .len, #[(.tmp 8)], #[27]⟩) 3)⟩,
 ⟨some 10, none, .mv (.k (.sc (.int .i64 0)))⟩])
 (.block 0 (.loop (.seq (.reg [⟨some 11, none, .bin .lss false (.t 10) (.t 9) (pu (.binOp .lss 3 (.tmp 10) (.tmp 9) 3) 0)⟩])
 (.seq (.cond (.t 11) .skip
 (.exit 0))
 (.seq (.block 1 (.seq (.reg [⟨some 12, none, .mv (.t 10)⟩,
 ⟨some 13, none, .ixs 6 (.t 8) (.t 10)⟩,
 ⟨some 14, none, .ld (some 6) (.t 13)⟩,
 ⟨some 6, none, .al (.agg [.sc (.string ⟨#[]⟩), .sc (.string ⟨#[]⟩), .sc (.int .i64 0), .sc (.int .i64 0), .sc (.int .i64 0), .sc (.int .i64 0)]) 6⟩,
 ⟨some 5, none, .mv (.t 12)⟩,
 ⟨none, none, .st 6 (.t 6) (.t 14)⟩])
 (.seq (.reg [⟨some 15, none, .sh 0 (.t 6)⟩,
 ⟨some 16, none, .ld none (.t 15)⟩,
 ⟨some 17, none, .mv (.t 1)⟩,
 ⟨some 18, none, .bin .eql false (.t 16) (.t 17) (pu (.binOp .eql 9 (.tmp 16) (.tmp 17) 9) 4)⟩])
 (.cond (.t 18) (.seq (.reg [⟨some 19, none, .mv (.t 5)⟩,
 ⟨some 4, none, .mv (.t 19)⟩])
 .ret)
 .skip))))
 (.reg [⟨some 20, none, .bin .add false (.t 10) (.k (.sc (.int .i64 1))) (pu (.binOp .add 3 (.tmp 10) (.const (.int .i64 1)) 3) 3)⟩,
 ⟨some 10, none, .mv (.t 20)⟩])))))))
 (.seq (.reg [⟨some 4, none, .mv (.k (.sc (.int .i64 (-1))))⟩])
 .ret)))
def k44 : List Nat := [0, 1, 2, 4, 5, 6, 8, 9, 10, 11, 18]
theorem ic44 : factsI Try.prog 44 = some (21, [.tmp 4], c44) := by kernel_rfl
def c45 : IC :=
 (.seq (.reg [⟨some 5, none, .bx (.t 0)⟩,
 ⟨some 10, none, .al (.agg [.sc (.string ⟨#[]⟩), .sc (.string ⟨#[]⟩), .sc (.int .i64 0), .sc (.int .i64 0), .sc (.int .i64 0), .sc (.int .i64 0)]) 6⟩,
 ⟨some 11, none, .mv (.k (.sc (.int .i64 0)))⟩])
 (.seq (.seq (.reg [⟨some 16, none, .ld (some 6) (.t 5)⟩,
 ⟨some 17, none, .call 49 [(.t 16)]⟩,
 ⟨some 12, none, .mv (.t 17)⟩])
 (.seq (.reg [⟨some 18, none, .mv (.t 12)⟩,
 ⟨some 19, none, .bin .neq false (.t 18) (.k (.sc (.int .i64 0))) (pu (.binOp .neq 32 (.tmp 18) (.const (.int .i64 0)) 32) 4)⟩])
 (.cond (.t 19) (.seq (.reg [⟨some 20, none, .ld (some 6) (.t 5)⟩,
 ⟨some 21, none, .mv (.t 12)⟩,
 ⟨none, none, .st 6 (.t 10) (.t 20)⟩,
 ⟨some 11, none, .mv (.t 21)⟩])
 .ret)
 .skip)))
 (.seq (.seq (.reg [⟨some 22, none, .mv (.t 1)⟩,
 ⟨some 23, none, .call 19 [(.t 22)]⟩,
 ⟨some 24, none, .un .not (.t 23) (pu (.unOp .not 4 (.tmp 23)) 4)⟩])
 (.cond (.t 24) (.seq (.reg [⟨some 25, none, .ld (some 6) (.t 5)⟩,
 ⟨none, none, .st 6 (.t 10) (.t 25)⟩,
 ⟨some 11, none, .mv (.k (.sc (.int .i64 4)))⟩])
 .ret)
 .skip))
 (.seq (.seq (.reg [⟨some 26, none, .ld (some 6) (.t 5)⟩,
 ⟨some 27, none, .mv (.t 2)⟩,
 ⟨some 28, none, .mv (.t 3)⟩,
 ⟨some 29, none, .mv (.t 4)⟩,
 ⟨some 30, none, .call 70 [(.t 26), (.t 27), (.t 28), (.t 29)]⟩,
 ⟨some 31, none, .un .not (.t 30) (pu (.unOp .not 4 (.tmp 30)) 4)⟩])
 (.cond (.t 31) (.seq (.reg [⟨some 32, none, .ld (some 6) (.t 5)⟩,
 ⟨none, none, .st 6 (.t 10) (.t 32)⟩,
 ⟨some 11, none, .mv (.k (.sc (.int .i64 2)))⟩])
 .ret)
 .skip))
 (.seq (.seq (.reg [⟨some 33, none, .sh 2 (.t 5)⟩,
 ⟨some 34, none, .ld none (.t 33)⟩,
 ⟨some 35, none, .bin .eql false (.t 34) (.k (.sc (.int .i64 4))) (pu (.binOp .eql 3 (.tmp 34) (.const (.int .i64 4)) 3) 4)⟩,
 ⟨some 36, none, .mv (.t 35)⟩,
 ⟨some 37, (some ((some 36), false)), .sh 2 (.t 5)⟩,
 ⟨some 38, (some ((some 36), false)), .ld none (.t 37)⟩,
 ⟨some 39, (some ((some 36), false)), .bin .eql false (.t 38) (.k (.sc (.int .i64 5))) (pu (.binOp .eql 3 (.tmp 38) (.const (.int .i64 5)) 3) 4)⟩,
 ⟨some 40, none, .pick (.t 36) (.k (.sc (.bool true))) (.t 39)⟩,
 ⟨some 41, none, .mv (.t 40)⟩,
 ⟨some 42, (some ((some 41), false)), .sh 2 (.t 5)⟩,
 ⟨some 43, (some ((some 41), false)), .ld none (.t 42)⟩,
 ⟨some 44, (some ((some 41), false)), .bin .eql false (.t 43) (.k (.sc (.int .i64 6))) (pu (.binOp .eql 3 (.tmp 43) (.const (.int .i64 6)) 3) 4)⟩,
 ⟨some 45, none, .pick (.t 41) (.k (.sc (.bool true))) (.t 44)⟩])
 (.cond (.t 45) (.seq (.reg [⟨some 46, none, .ld (some 6) (.t 5)⟩,
 ⟨none, none, .st 6 (.t 10) (.t 46)⟩,
 ⟨some 11, none, .mv (.k (.sc (.int .i64 10)))⟩])
 .ret)
 .skip))
 (.seq (.seq (.reg [⟨some 47, none, .mv (.t 2)⟩,
 ⟨some 48, none, .mv (.t 1)⟩,
 ⟨some 49, none, .sh 1 (.t 5)⟩,
 ⟨some 50, none, .ld none (.t 49)⟩,
 ⟨some 51, none, .bin .eql false (.t 48) (.t 50) (pu (.binOp .eql 9 (.tmp 48) (.tmp 50) 9) 4)⟩,
 ⟨some 52, none, .call 71 [(.t 47), (.t 51)]⟩,
 ⟨some 53, none, .un .not (.t 52) (pu (.unOp .not 4 (.tmp 52)) 4)⟩])
 (.cond (.t 53) (.seq (.reg [⟨some 54, none, .ld (some 6) (.t 5)⟩,
 ⟨none, none, .st 6 (.t 10) (.t 54)⟩,
 ⟨some 11, none, .mv (.k (.sc (.int .i64 15)))⟩])
 .ret)
 .skip))
 (.seq (.reg [⟨some 55, none, .mv (.t 4)⟩,
 ⟨some 56, none, .sh 3 (.t 5)⟩,
 ⟨some 57, none, .ld none (.t 56)⟩,
 ⟨some 58, none, .bin .add false (.t 57) (.k (.sc (.int .i64 43200))) (pu (.binOp .add 3 (.tmp 57) (.const (.int .i64 43200)) 3) 3)⟩,
 ⟨some 59, none, .bin .geq false (.t 55) (.t 58) (pu (.binOp .geq 3 (.tmp 55) (.tmp 58) 3) 4)⟩,
 ⟨some 13, none, .mv (.t 59)⟩])
 (.seq (.seq (.reg [⟨some 60, none, .mv (.t 2)⟩,
 ⟨some 61, none, .bin .eql false (.t 60) (.k (.sc (.int .i64 1))) (pu (.binOp .eql 3 (.tmp 60) (.const (.int .i64 1)) 3) 4)⟩,
 ⟨some 62, none, .mv (.t 61)⟩,
 ⟨some 63, (some ((some 62), true)), .mv (.t 13)⟩,
 ⟨some 64, none, .pick (.t 62) (.t 63) (.k (.sc (.bool false)))⟩])
 (.cond (.t 64) (.seq (.reg [⟨some 65, none, .ld (some 6) (.t 5)⟩,
 ⟨none, none, .st 6 (.t 10) (.t 65)⟩,
 ⟨some 11, none, .mv (.k (.sc (.int .i64 12)))⟩])
 .ret)
 .skip))
 (.seq (.reg [⟨some 67, none, .sh 2 (.t 5)⟩,
 ⟨some 68, none, .ld none (.t 67)⟩,
 ⟨some 69, none, .mv (.t 2)⟩,
 ⟨some 70, none, .mv (.t 13)⟩,
 ⟨some 71, none, .call 72 [(.t 68), (.t 69), (.t 70)]⟩,
 ⟨some 66, none, .mv (.t 71)⟩,
 ⟨some 72, none, .ext (.t 66) 0⟩,
 ⟨some 73, none, .ext (.t 66) 1⟩,
 ⟨some 14, none, .mv (.t 72)⟩,
 ⟨some 15, none, .mv (.t 73)⟩])
 (.seq (.seq (.reg [⟨some 74, none, .mv (.t 15)⟩,
 ⟨some 75, none, .un .not (.t 74) (pu (.unOp .not 4 (.tmp 74)) 4)⟩])
 (.cond (.t 75) (.seq (.reg [⟨some 76, none, .ld (some 6) (.t 5)⟩,
 ⟨none, none, .st 6 (.t 10) (.t 76)⟩,
 ⟨some 11, none, .mv (.k (.sc (.int .i64 10)))⟩])
 .ret)
 .skip))
 (.seq (.reg [⟨some 77, none, .mv (.t 14)⟩,
 ⟨some 78, none, .sh 2 (.t 5)⟩,
 ⟨none, none, .st 1 (.t 78) (.t 77)⟩])
 (.seq (.seq (.reg [⟨some 79, none, .mv (.t 2)⟩,
 ⟨some 80, none, .bin .eql false (.t 79) (.k (.sc (.int .i64 3))) (pu (.binOp .eql 3 (.tmp 79) (.const (.int .i64 3)) 3) 4)⟩])
 (.cond (.t 80) (.reg [⟨some 81, none, .mv (.t 3)⟩,
 ⟨some 82, none, .sh 5 (.t 5)⟩,
 ⟨none, none, .st 1 (.t 82) (.t 81)⟩])
 .skip))
 (.seq (.reg [⟨some 83, none, .ld (some 6) (.t 5)⟩,
 ⟨none, none, .st 6 (.t 10) (.t 83)⟩,
 ⟨some 11, none, .mv (.k (.sc (.int .i64 0)))⟩])
 .ret)))))))))))))
def k45 : List Nat := [0, 1, 2, 3, 4, 5, 10, 11, 12, 13, 14, 15, 19, 24, 31, 45, 53, 64, 75, 80]
theorem ic45 : factsI Try.prog 45 = some (84, [.cell 10 55, .tmp 11], c45) := by kernel_rfl
def c46 : IC :=
 (.seq (.reg [⟨some 2, none, .mv (.k (.sc (.int .i64 0)))⟩])
 (.seq (.block 0 (.seq (.reg [⟨some 4, none, .mv (.t 0)⟩,
 ⟨some 5, none, .bin .geq false (.t 4) (.k (.sc (.int .i32 48))) (pu (.binOp .geq 21 (.tmp 4) (.const (.int .i32 48)) 21) 4)⟩,
 ⟨some 6, none, .mv (.t 5)⟩,
 ⟨some 7, (some ((some 6), true)), .mv (.t 0)⟩,
 ⟨some 8, (some ((some 6), true)), .bin .leq false (.t 7) (.k (.sc (.int .i32 57))) (pu (.binOp .leq 21 (.tmp 7) (.const (.int .i32 57)) 21) 4)⟩,
 ⟨some 9, none, .pick (.t 6) (.t 8) (.k (.sc (.bool false)))⟩,
 ⟨some 3, none, .mv (.t 9)⟩])
 (.cond (.t 3) (.seq (.reg [⟨some 10, none, .mv (.t 0)⟩,
 ⟨some 11, none, .bin .sub false (.t 10) (.k (.sc (.int .i32 48))) (pu (.binOp .sub 21 (.tmp 10) (.const (.int .i32 48)) 21) 21)⟩,
 ⟨some 12, none, .pur (pu (.convert 21 3 (.tmp 11)) 3)⟩,
 ⟨some 2, none, .mv (.t 12)⟩])
 .ret)
 (.seq (.reg [⟨some 14, none, .mv (.t 0)⟩,
 ⟨some 15, none, .bin .geq false (.t 14) (.k (.sc (.int .i32 65))) (pu (.binOp .geq 21 (.tmp 14) (.const (.int .i32 65)) 21) 4)⟩,
 ⟨some 16, none, .mv (.t 15)⟩,
 ⟨some 17, (some ((some 16), true)), .mv (.t 0)⟩,
 ⟨some 18, (some ((some 16), true)), .bin .leq false (.t 17) (.k (.sc (.int .i32 90))) (pu (.binOp .leq 21 (.tmp 17) (.const (.int .i32 90)) 21) 4)⟩,
 ⟨some 19, none, .pick (.t 16) (.t 18) (.k (.sc (.bool false)))⟩,
 ⟨some 13, none, .mv (.t 19)⟩])
 (.cond (.t 13) (.seq (.reg [⟨some 20, none, .mv (.t 0)⟩,
 ⟨some 21, none, .bin .sub false (.t 20) (.k (.sc (.int .i32 65))) (pu (.binOp .sub 21 (.tmp 20) (.const (.int .i32 65)) 21) 21)⟩,
 ⟨some 22, none, .pur (pu (.convert 21 3 (.tmp 21)) 3)⟩,
 ⟨some 23, none, .bin .add false (.t 22) (.k (.sc (.int .i64 10))) (pu (.binOp .add 3 (.tmp 22) (.const (.int .i64 10)) 3) 3)⟩,
 ⟨some 2, none, .mv (.t 23)⟩])
 .ret)
 (.seq (.reg [⟨some 25, none, .mv (.t 0)⟩,
 ⟨some 26, none, .bin .geq false (.t 25) (.k (.sc (.int .i32 97))) (pu (.binOp .geq 21 (.tmp 25) (.const (.int .i32 97)) 21) 4)⟩,
 ⟨some 27, none, .mv (.t 26)⟩,
 ⟨some 28, (some ((some 27), true)), .mv (.t 0)⟩,
 ⟨some 29, (some ((some 27), true)), .bin .leq false (.t 28) (.k (.sc (.int .i32 122))) (pu (.binOp .leq 21 (.tmp 28) (.const (.int .i32 122)) 21) 4)⟩,
 ⟨some 30, none, .pick (.t 27) (.t 29) (.k (.sc (.bool false)))⟩,
 ⟨some 24, none, .mv (.t 30)⟩])
 (.cond (.t 24) (.seq (.reg [⟨some 31, none, .mv (.t 0)⟩,
 ⟨some 32, none, .bin .sub false (.t 31) (.k (.sc (.int .i32 97))) (pu (.binOp .sub 21 (.tmp 31) (.const (.int .i32 97)) 21) 21)⟩,
 ⟨some 33, none, .pur (pu (.convert 21 3 (.tmp 32)) 3)⟩,
 ⟨some 34, none, .bin .add false (.t 33) (.k (.sc (.int .i64 10))) (pu (.binOp .add 3 (.tmp 33) (.const (.int .i64 10)) 3) 3)⟩,
 ⟨some 2, none, .mv (.t 34)⟩])
 .ret)
 .skip)))))))
 (.seq (.reg [⟨some 2, none, .mv (.k (.sc (.int .i64 (-1))))⟩])
 .ret)))
def k46 : List Nat := [0, 2, 3, 13, 24]
theorem ic46 : factsI Try.prog 46 = some (35, [.tmp 2], c46) := by kernel_rfl
def c47 : IC :=
 (.seq (.reg [⟨some 1, none, .bx (.t 0)⟩,
 ⟨some 2, none, .mv (.k (.sc (.int .i64 0)))⟩])
 (.seq (.seq (.reg [⟨some 3, none, .sh 0 (.t 1)⟩,
 ⟨some 4, none, .ld none (.t 3)⟩,
 ⟨some 5, none, .bin .lss false (.t 4) (.k (.sc (.int .i64 1))) (pu (.binOp .lss 3 (.tmp 4) (.const (.int .i64 1)) 3) 4)⟩,
 ⟨some 6, none, .mv (.t 5)⟩,
 ⟨some 7, (some ((some 6), false)), .sh 0 (.t 1)⟩,
 ⟨some 8, (some ((some 6), false)), .ld none (.t 7)⟩,
 ⟨some 9, (some ((some 6), false)), .bin .gtr false (.t 8) (.k (.sc (.int .i64 8))) (pu (.binOp .gtr 3 (.tmp 8) (.const (.int .i64 8)) 3) 4)⟩,
 ⟨some 10, none, .pick (.t 6) (.k (.sc (.bool true))) (.t 9)⟩])
 (.cond (.t 10) (.seq (.reg [⟨some 2, none, .mv (.k (.sc (.int .i64 2)))⟩])
 .ret)
 .skip))
 (.seq (.seq (.reg [⟨some 11, none, .sh 1 (.t 1)⟩,
 ⟨some 12, none, .ld none (.t 11)⟩,
 ⟨some 13, none, .call 19 [(.t 12)]⟩,
 ⟨some 14, none, .un .not (.t 13) (pu (.unOp .not 4 (.tmp 13)) 4)⟩,
 ⟨some 15, none, .mv (.t 14)⟩,
 ⟨some 16, (some ((some 15), false)), .sh 2 (.t 1)⟩,
 ⟨some 17, (some ((some 15), false)), .ld none (.t 16)⟩,
 ⟨some 18, (some ((some 15), false)), .call 19 [(.t 17)]⟩,
 ⟨some 19, (some ((some 15), false)), .un .not (.t 18) (pu (.unOp .not 4 (.tmp 18)) 4)⟩,
 ⟨some 20, none, .pick (.t 15) (.k (.sc (.bool true))) (.t 19)⟩])
 (.cond (.t 20) (.seq (.reg [⟨some 2, none, .mv (.k (.sc (.int .i64 4)))⟩])
 .ret)
 .skip))
 (.seq (.seq (.reg [⟨some 21, none, .sh 3 (.t 1)⟩,
 ⟨some 22, none, .ld none (.t 21)⟩,
 ⟨some 23, none, .bin .lss false (.t 22) (.k (.sc (.int .i64 1))) (pu (.binOp .lss 3 (.tmp 22) (.const (.int .i64 1)) 3) 4)⟩,
 ⟨some 24, none, .mv (.t 23)⟩,
 ⟨some 25, (some ((some 24), false)), .sh 3 (.t 1)⟩,
 ⟨some 26, (some ((some 24), false)), .ld none (.t 25)⟩,
 ⟨some 27, (some ((some 24), false)), .bin .gtr false (.t 26) (.k (.sc (.int .i64 2147483647))) (pu (.binOp .gtr 3 (.tmp 26) (.const (.int .i64 2147483647)) 3) 4)⟩,
 ⟨some 28, none, .pick (.t 24) (.k (.sc (.bool true))) (.t 27)⟩])
 (.cond (.t 28) (.seq (.reg [⟨some 2, none, .mv (.k (.sc (.int .i64 2)))⟩])
 .ret)
 .skip))
 (.seq (.seq (.reg [⟨some 29, none, .sh 5 (.t 1)⟩,
 ⟨some 30, none, .ld none (.t 29)⟩,
 ⟨some 31, none, .len (.t 30) (pu (.call ⟨.builtin .len, #[(.tmp 30)], #[41]⟩) 3)⟩,
 ⟨some 32, none, .bin .gtr false (.t 31) (.k (.sc (.int .i64 4096))) (pu (.binOp .gtr 3 (.tmp 31) (.const (.int .i64 4096)) 3) 4)⟩])
 (.cond (.t 32) (.seq (.reg [⟨some 2, none, .mv (.k (.sc (.int .i64 3)))⟩])
 .ret)
 .skip))
 (.seq (.reg [⟨some 2, none, .mv (.k (.sc (.int .i64 0)))⟩])
 .ret))))))
def k47 : List Nat := [0, 1, 2, 10, 20, 28, 32]
theorem ic47 : factsI Try.prog 47 = some (33, [.tmp 2], c47) := by kernel_rfl
def c48 : IC :=
 (.seq (.reg [⟨some 1, none, .bx (.t 0)⟩,
 ⟨some 2, none, .al (.agg [.sc (.int .i64 0), .sc (.string ⟨#[]⟩), .sc (.string ⟨#[]⟩)]) 3⟩])
 (.seq (.reg [⟨some 3, none, .sh 0 (.t 1)⟩,
 ⟨some 4, none, .ld none (.t 3)⟩,
 ⟨some 5, none, .sh 2 (.t 1)⟩,
 ⟨some 6, none, .ld none (.t 5)⟩,
 ⟨some 7, none, .sh 1 (.t 1)⟩,
 ⟨some 8, none, .ld none (.t 7)⟩,
 ⟨some 9, none, .bld [.sc (.int .i64 0), .sc (.string ⟨#[]⟩), .sc (.string ⟨#[]⟩)] [(0, 1, (.t 4)), (1, 1, (.t 6)), (2, 1, (.t 8))]⟩,
 ⟨none, none, .st 3 (.t 2) (.t 9)⟩])
 .ret))
def k48 : List Nat := [0, 1, 2]
theorem ic48 : factsI Try.prog 48 = some (10, [.cell 2 78], c48) := by kernel_rfl
def c49 : IC :=
 (.seq (.reg [⟨some 1, none, .bx (.t 0)⟩,
 ⟨some 2, none, .mv (.k (.sc (.int .i64 0)))⟩])
 (.seq (.seq (.reg [⟨some 3, none, .sh 0 (.t 1)⟩,
 ⟨some 4, none, .ld none (.t 3)⟩,
 ⟨some 5, none, .call 19 [(.t 4)]⟩,
 ⟨some 6, none, .un .not (.t 5) (pu (.unOp .not 4 (.tmp 5)) 4)⟩,
 ⟨some 7, none, .mv (.t 6)⟩,
 ⟨some 8, (some ((some 7), false)), .sh 1 (.t 1)⟩,
 ⟨some 9, (some ((some 7), false)), .ld none (.t 8)⟩,
 ⟨some 10, (some ((some 7), false)), .call 19 [(.t 9)]⟩,
 ⟨some 11, (some ((some 7), false)), .un .not (.t 10) (pu (.unOp .not 4 (.tmp 10)) 4)⟩,
 ⟨some 12, none, .pick (.t 7) (.k (.sc (.bool true))) (.t 11)⟩])
 (.cond (.t 12) (.seq (.reg [⟨some 2, none, .mv (.k (.sc (.int .i64 4)))⟩])
 .ret)
 .skip))
 (.seq (.seq (.reg [⟨some 13, none, .sh 2 (.t 1)⟩,
 ⟨some 14, none, .ld none (.t 13)⟩,
 ⟨some 15, none, .bin .lss false (.t 14) (.k (.sc (.int .i64 1))) (pu (.binOp .lss 3 (.tmp 14) (.const (.int .i64 1)) 3) 4)⟩,
 ⟨some 16, none, .mv (.t 15)⟩,
 ⟨some 17, (some ((some 16), false)), .sh 2 (.t 1)⟩,
 ⟨some 18, (some ((some 16), false)), .ld none (.t 17)⟩,
 ⟨some 19, (some ((some 16), false)), .bin .gtr false (.t 18) (.k (.sc (.int .i64 6))) (pu (.binOp .gtr 3 (.tmp 18) (.const (.int .i64 6)) 3) 4)⟩,
 ⟨some 20, none, .pick (.t 16) (.k (.sc (.bool true))) (.t 19)⟩,
 ⟨some 21, none, .mv (.t 20)⟩,
 ⟨some 22, (some ((some 21), false)), .sh 3 (.t 1)⟩,
 ⟨some 23, (some ((some 21), false)), .ld none (.t 22)⟩,
 ⟨some 24, (some ((some 21), false)), .bin .lss false (.t 23) (.k (.sc (.int .i64 0))) (pu (.binOp .lss 3 (.tmp 23) (.const (.int .i64 0)) 3) 4)⟩,
 ⟨some 25, none, .pick (.t 21) (.k (.sc (.bool true))) (.t 24)⟩,
 ⟨some 26, none, .mv (.t 25)⟩,
 ⟨some 27, (some ((some 26), false)), .sh 3 (.t 1)⟩,
 ⟨some 28, (some ((some 26), false)), .ld none (.t 27)⟩,
 ⟨some 29, (some ((some 26), false)), .bin .gtr false (.t 28) (.k (.sc (.int .i64 268435456))) (pu (.binOp .gtr 3 (.tmp 28) (.const (.int .i64 268435456)) 3) 4)⟩,
 ⟨some 30, none, .pick (.t 26) (.k (.sc (.bool true))) (.t 29)⟩])
 (.cond (.t 30) (.seq (.reg [⟨some 2, none, .mv (.k (.sc (.int .i64 2)))⟩])
 .ret)
 .skip))
 (.seq (.seq (.reg [⟨some 31, none, .sh 4 (.t 1)⟩,
 ⟨some 32, none, .ld none (.t 31)⟩,
 ⟨some 33, none, .bin .lss false (.t 32) (.k (.sc (.int .i64 1))) (pu (.binOp .lss 3 (.tmp 32) (.const (.int .i64 1)) 3) 4)⟩,
 ⟨some 34, none, .mv (.t 33)⟩,
 ⟨some 35, (some ((some 34), false)), .sh 4 (.t 1)⟩,
 ⟨some 36, (some ((some 34), false)), .ld none (.t 35)⟩,
 ⟨some 37, (some ((some 34), false)), .bin .gtr false (.t 36) (.k (.sc (.int .i64 36028797018963968))) (pu (.binOp .gtr 3 (.tmp 36) (.const (.int .i64 36028797018963968)) 3) 4)⟩,
 ⟨some 38, none, .pick (.t 34) (.k (.sc (.bool true))) (.t 37)⟩,
 ⟨some 39, none, .mv (.t 38)⟩,
 ⟨some 40, (some ((some 39), false)), .sh 5 (.t 1)⟩,
 ⟨some 41, (some ((some 39), false)), .ld none (.t 40)⟩,
 ⟨some 42, (some ((some 39), false)), .bin .lss false (.t 41) (.k (.sc (.int .i64 0))) (pu (.binOp .lss 3 (.tmp 41) (.const (.int .i64 0)) 3) 4)⟩,
 ⟨some 43, none, .pick (.t 39) (.k (.sc (.bool true))) (.t 42)⟩,
 ⟨some 44, none, .mv (.t 43)⟩,
 ⟨some 45, (some ((some 44), false)), .sh 5 (.t 1)⟩,
 ⟨some 46, (some ((some 44), false)), .ld none (.t 45)⟩,
 ⟨some 47, (some ((some 44), false)), .sh 4 (.t 1)⟩,
 ⟨some 48, (some ((some 44), false)), .ld none (.t 47)⟩,
 ⟨some 49, (some ((some 44), false)), .bin .gtr false (.t 46) (.t 48) (pu (.binOp .gtr 3 (.tmp 46) (.tmp 48) 3) 4)⟩,
 ⟨some 50, none, .pick (.t 44) (.k (.sc (.bool true))) (.t 49)⟩])
 (.cond (.t 50) (.seq (.reg [⟨some 2, none, .mv (.k (.sc (.int .i64 2)))⟩])
 .ret)
 .skip))
 (.seq (.seq (.reg [⟨some 51, none, .sh 5 (.t 1)⟩,
 ⟨some 52, none, .ld none (.t 51)⟩,
 ⟨some 53, none, .bin .eql false (.t 52) (.k (.sc (.int .i64 0))) (pu (.binOp .eql 3 (.tmp 52) (.const (.int .i64 0)) 3) 4)⟩,
 ⟨some 54, none, .sh 2 (.t 1)⟩,
 ⟨some 55, none, .ld none (.t 54)⟩,
 ⟨some 56, none, .bin .neq false (.t 55) (.k (.sc (.int .i64 4))) (pu (.binOp .neq 3 (.tmp 55) (.const (.int .i64 4)) 3) 4)⟩,
 ⟨some 57, none, .bin .neq true (.t 53) (.t 56) (pu (.binOp .neq 4 (.tmp 53) (.tmp 56) 4) 4)⟩])
 (.cond (.t 57) (.seq (.reg [⟨some 2, none, .mv (.k (.sc (.int .i64 1)))⟩])
 .ret)
 .skip))
 (.seq (.reg [⟨some 2, none, .mv (.k (.sc (.int .i64 0)))⟩])
 .ret))))))
def k49 : List Nat := [0, 1, 2, 12, 30, 50, 57]
theorem ic49 : factsI Try.prog 49 = some (58, [.tmp 2], c49) := by kernel_rfl
def c50 : IC :=
 (.seq (.reg [⟨some 2, none, .mv (.k (.sc (.int .i64 0)))⟩])
 (.seq (.seq (.reg [⟨some 3, none, .mv (.k (.sc (.int .i64 0)))⟩])
 (.block 0 (.loop (.seq (.seq (.reg [⟨some 4, none, .mv (.t 3)⟩,
 ⟨some 5, none, .bin .lss false (.t 4) (.k (.sc (.int .i64 36))) (pu (.binOp .lss 3 (.tmp 4) (.const (.int .i64 36)) 3) 4)⟩])
 (.cond (.t 5) .skip
 (.exit 0)))
 (.seq (.block 1 (.seq (.drw [0, 1, 0, 4, 15] [⟨some 8, none, .mv (.t 3)⟩,
 ⟨some 9, none, .pur (pu (.index 9 (.const (.string ⟨#[48, 49, 50, 51, 52, 53, 54, 55, 56, 57, 65, 66, 67, 68, 69, 70, 71, 72, 73, 74, 75, 76, 77, 78, 79, 80, 81, 82, 83, 84, 85, 86, 87, 88, 89, 90]⟩)) (.tmp 8)) 5)⟩,
 ⟨some 10, none, .mv (.t 0)⟩,
 ⟨some 11, none, .call 73 [(.t 10)]⟩,
 ⟨some 12, none, .bin .eql false (.t 9) (.t 11) (pu (.binOp .eql 5 (.tmp 9) (.tmp 11) 5) 4)⟩])
 (.cond (.t 12) (.seq (.reg [⟨some 13, none, .mv (.t 3)⟩,
 ⟨some 2, none, .mv (.t 13)⟩])
 .ret)
 .skip)))
 (.reg [⟨some 6, none, .mv (.t 3)⟩,
 ⟨some 7, none, .bin .add false (.t 6) (.k (.sc (.int .i64 1))) (pu (.binOp .add 3 (.tmp 6) (.const (.int .i64 1)) 3) 3)⟩,
 ⟨some 3, none, .mv (.t 7)⟩]))))))
 (.seq (.reg [⟨some 2, none, .mv (.k (.sc (.int .i64 (-1))))⟩])
 .ret)))
def k50 : List Nat := [0, 2, 3, 5, 12]
theorem ic50 : factsI Try.prog 50 = some (14, [.tmp 2], c50) := by kernel_rfl
def c51 : IC :=
 (.seq (.reg [⟨some 1, none, .bx (.t 0)⟩,
 ⟨some 2, none, .mv (.k (.sc (.int .i64 0)))⟩])
 (.seq (.seq (.reg [⟨some 3, none, .sh 0 (.t 1)⟩,
 ⟨some 4, none, .ld none (.t 3)⟩,
 ⟨some 5, none, .bin .lss false (.t 4) (.k (.sc (.int .i64 1))) (pu (.binOp .lss 3 (.tmp 4) (.const (.int .i64 1)) 3) 4)⟩,
 ⟨some 6, none, .mv (.t 5)⟩,
 ⟨some 7, (some ((some 6), false)), .sh 0 (.t 1)⟩,
 ⟨some 8, (some ((some 6), false)), .ld none (.t 7)⟩,
 ⟨some 9, (some ((some 6), false)), .bin .gtr false (.t 8) (.k (.sc (.int .i64 8))) (pu (.binOp .gtr 3 (.tmp 8) (.const (.int .i64 8)) 3) 4)⟩,
 ⟨some 10, none, .pick (.t 6) (.k (.sc (.bool true))) (.t 9)⟩])
 (.cond (.t 10) (.seq (.reg [⟨some 2, none, .mv (.k (.sc (.int .i64 2)))⟩])
 .ret)
 .skip))
 (.seq (.seq (.reg [⟨some 11, none, .sh 1 (.t 1)⟩,
 ⟨some 12, none, .ld none (.t 11)⟩,
 ⟨some 13, none, .call 23 [(.t 12)]⟩,
 ⟨some 14, none, .un .not (.t 13) (pu (.unOp .not 4 (.tmp 13)) 4)⟩,
 ⟨some 15, none, .mv (.t 14)⟩,
 ⟨some 16, (some ((some 15), false)), .sh 2 (.t 1)⟩,
 ⟨some 17, (some ((some 15), false)), .ld none (.t 16)⟩,
 ⟨some 18, (some ((some 15), false)), .call 23 [(.t 17)]⟩,
 ⟨some 19, (some ((some 15), false)), .un .not (.t 18) (pu (.unOp .not 4 (.tmp 18)) 4)⟩,
 ⟨some 20, none, .pick (.t 15) (.k (.sc (.bool true))) (.t 19)⟩])
 (.cond (.t 20) (.seq (.reg [⟨some 2, none, .mv (.k (.sc (.int .i64 4)))⟩])
 .ret)
 .skip))
 (.seq (.seq (.reg [⟨some 21, none, .sh 3 (.t 1)⟩,
 ⟨some 22, none, .ld none (.t 21)⟩,
 ⟨some 23, none, .bin .lss false (.t 22) (.k (.sc (.int .i64 1))) (pu (.binOp .lss 3 (.tmp 22) (.const (.int .i64 1)) 3) 4)⟩,
 ⟨some 24, none, .mv (.t 23)⟩,
 ⟨some 25, (some ((some 24), false)), .sh 3 (.t 1)⟩,
 ⟨some 26, (some ((some 24), false)), .ld none (.t 25)⟩,
 ⟨some 27, (some ((some 24), false)), .bin .gtr false (.t 26) (.k (.sc (.int .i64 2147483647))) (pu (.binOp .gtr 3 (.tmp 26) (.const (.int .i64 2147483647)) 3) 4)⟩,
 ⟨some 28, none, .pick (.t 24) (.k (.sc (.bool true))) (.t 27)⟩])
 (.cond (.t 28) (.seq (.reg [⟨some 2, none, .mv (.k (.sc (.int .i64 2)))⟩])
 .ret)
 .skip))
 (.seq (.seq (.reg [⟨some 29, none, .sh 5 (.t 1)⟩,
 ⟨some 30, none, .ld none (.t 29)⟩,
 ⟨some 31, none, .len (.t 30) (pu (.call ⟨.builtin .len, #[(.tmp 30)], #[41]⟩) 3)⟩,
 ⟨some 32, none, .bin .gtr false (.t 31) (.k (.sc (.int .i64 4096))) (pu (.binOp .gtr 3 (.tmp 31) (.const (.int .i64 4096)) 3) 4)⟩])
 (.cond (.t 32) (.seq (.reg [⟨some 2, none, .mv (.k (.sc (.int .i64 3)))⟩])
 .ret)
 .skip))
 (.seq (.reg [⟨some 2, none, .mv (.k (.sc (.int .i64 0)))⟩])
 .ret))))))
def k51 : List Nat := [0, 1, 2, 10, 20, 28, 32]
theorem ic51 : factsI Try.prog 51 = some (33, [.tmp 2], c51) := by kernel_rfl
def c52 : IC :=
 (.seq (.reg [⟨some 5, none, .bx (.t 0)⟩,
 ⟨some 10, none, .mv (.k (.sc (.int .i64 0)))⟩])
 (.seq (.seq (.reg [⟨some 11, none, .mv (.k (.sc (.int .i64 0)))⟩])
 (.block 0 (.loop (.seq (.seq (.reg [⟨some 13, none, .mv (.t 11)⟩,
 ⟨some 14, none, .mv (.t 1)⟩,
 ⟨some 15, none, .bin .lss false (.t 13) (.t 14) (pu (.binOp .lss 3 (.tmp 13) (.tmp 14) 3) 4)⟩])
 (.cond (.t 15) .skip
 (.exit 0)))
 (.seq (.block 1 (.seq (.reg [⟨some 18, none, .sh 1 (.t 5)⟩,
 ⟨some 19, none, .ld none (.t 18)⟩,
 ⟨some 20, none, .mv (.t 11)⟩,
 ⟨some 21, none, .ixs 6 (.t 19) (.t 20)⟩,
 ⟨some 22, none, .ld (some 6) (.t 21)⟩,
 ⟨some 12, none, .al (.agg [.sc (.int .i64 0), .sc (.string ⟨#[]⟩), .sc (.string ⟨#[]⟩), .sc (.int .i64 0), .sc (.bool false), .sc (.slice none 0 0)]) 6⟩,
 ⟨none, none, .st 6 (.t 12) (.t 22)⟩])
 (.seq (.reg [⟨some 23, none, .sh 0 (.t 12)⟩,
 ⟨some 24, none, .ld none (.t 23)⟩,
 ⟨some 25, none, .mv (.t 2)⟩,
 ⟨some 26, none, .bin .eql false (.t 24) (.t 25) (pu (.binOp .eql 3 (.tmp 24) (.tmp 25) 3) 4)⟩,
 ⟨some 27, none, .mv (.t 26)⟩,
 ⟨some 28, (some ((some 27), true)), .sh 2 (.t 12)⟩,
 ⟨some 29, (some ((some 27), true)), .ld none (.t 28)⟩,
 ⟨some 30, (some ((some 27), true)), .mv (.t 3)⟩,
 ⟨some 31, (some ((some 27), true)), .bin .eql false (.t 29) (.t 30) (pu (.binOp .eql 9 (.tmp 29) (.tmp 30) 9) 4)⟩,
 ⟨some 32, none, .pick (.t 27) (.t 31) (.k (.sc (.bool false)))⟩,
 ⟨some 33, none, .mv (.t 32)⟩,
 ⟨some 34, (some ((some 33), true)), .sh 1 (.t 12)⟩,
 ⟨some 35, (some ((some 33), true)), .ld none (.t 34)⟩,
 ⟨some 36, (some ((some 33), true)), .mv (.t 4)⟩,
 ⟨some 37, (some ((some 33), true)), .bin .eql false (.t 35) (.t 36) (pu (.binOp .eql 9 (.tmp 35) (.tmp 36) 9) 4)⟩,
 ⟨some 38, none, .pick (.t 33) (.t 37) (.k (.sc (.bool false)))⟩])
 (.cond (.t 38) (.seq (.reg [⟨some 39, none, .mv (.t 11)⟩,
 ⟨some 10, none, .mv (.t 39)⟩])
 .ret)
 .skip))))
 (.reg [⟨some 16, none, .mv (.t 11)⟩,
 ⟨some 17, none, .bin .add false (.t 16) (.k (.sc (.int .i64 1))) (pu (.binOp .add 3 (.tmp 16) (.const (.int .i64 1)) 3) 3)⟩,
 ⟨some 11, none, .mv (.t 17)⟩]))))))
 (.seq (.reg [⟨some 10, none, .mv (.k (.sc (.int .i64 (-1))))⟩])
 .ret)))
def k52 : List Nat := [0, 1, 2, 3, 4, 5, 10, 11, 12, 15, 38]
theorem ic52 : factsI Try.prog 52 = some (40, [.tmp 10], c52) := by kernel_rfl
def c53 : IC :=
 (.seq (.reg [⟨some 1, none, .bx (.t 0)⟩,
 ⟨some 2, none, .mv (.k (.sc (.int .i64 0)))⟩])
 (.seq (.seq (.reg [⟨some 5, none, .sh 0 (.t 1)⟩,
 ⟨some 6, none, .ld none (.t 5)⟩,
 ⟨some 7, none, .call 23 [(.t 6)]⟩,
 ⟨some 8, none, .un .not (.t 7) (pu (.unOp .not 4 (.tmp 7)) 4)⟩,
 ⟨some 9, none, .mv (.t 8)⟩,
 ⟨some 10, (some ((some 9), false)), .sh 1 (.t 1)⟩,
 ⟨some 11, (some ((some 9), false)), .ld none (.t 10)⟩,
 ⟨some 12, (some ((some 9), false)), .call 23 [(.t 11)]⟩,
 ⟨some 13, (some ((some 9), false)), .un .not (.t 12) (pu (.unOp .not 4 (.tmp 12)) 4)⟩,
 ⟨some 14, none, .pick (.t 9) (.k (.sc (.bool true))) (.t 13)⟩,
 ⟨some 15, none, .mv (.t 14)⟩,
 ⟨some 16, (some ((some 15), false)), .sh 2 (.t 1)⟩,
 ⟨some 17, (some ((some 15), false)), .ld none (.t 16)⟩,
 ⟨some 18, (some ((some 15), false)), .call 23 [(.t 17)]⟩,
 ⟨some 19, (some ((some 15), false)), .un .not (.t 18) (pu (.unOp .not 4 (.tmp 18)) 4)⟩,
 ⟨some 20, none, .pick (.t 15) (.k (.sc (.bool true))) (.t 19)⟩,
 ⟨some 21, none, .mv (.t 20)⟩,
 ⟨some 22, (some ((some 21), false)), .sh 3 (.t 1)⟩,
 ⟨some 23, (some ((some 21), false)), .ld none (.t 22)⟩,
 ⟨some 24, (some ((some 21), false)), .call 23 [(.t 23)]⟩,
 ⟨some 25, (some ((some 21), false)), .un .not (.t 24) (pu (.unOp .not 4 (.tmp 24)) 4)⟩,
 ⟨some 26, none, .pick (.t 21) (.k (.sc (.bool true))) (.t 25)⟩,
 ⟨some 27, none, .mv (.t 26)⟩,
 ⟨some 28, (some ((some 27), false)), .sh 8 (.t 1)⟩,
 ⟨some 29, (some ((some 27), false)), .ld none (.t 28)⟩,
 ⟨some 30, (some ((some 27), false)), .call 23 [(.t 29)]⟩,
 ⟨some 31, (some ((some 27), false)), .un .not (.t 30) (pu (.unOp .not 4 (.tmp 30)) 4)⟩,
 ⟨some 32, none, .pick (.t 27) (.k (.sc (.bool true))) (.t 31)⟩])
 (.cond (.t 32) (.seq (.reg [⟨some 2, none, .mv (.k (.sc (.int .i64 4)))⟩])
 .ret)
 .skip))
 (.seq (.seq (.reg [⟨some 33, none, .sh 1 (.t 1)⟩,
 ⟨some 34, none, .ld none (.t 33)⟩,
 ⟨some 35, none, .sh 2 (.t 1)⟩,
 ⟨some 36, none, .ld none (.t 35)⟩,
 ⟨some 37, none, .bin .eql false (.t 34) (.t 36) (pu (.binOp .eql 9 (.tmp 34) (.tmp 36) 9) 4)⟩])
 (.cond (.t 37) (.seq (.reg [⟨some 2, none, .mv (.k (.sc (.int .i64 1)))⟩])
 .ret)
 .skip))
 (.seq (.seq (.reg [⟨some 38, none, .sh 4 (.t 1)⟩,
 ⟨some 39, none, .ld none (.t 38)⟩,
 ⟨some 40, none, .call 74 [(.t 39), (.k (.sc (.int .i64 1))), (.k (.sc (.int .i64 2147483647)))]⟩,
 ⟨some 41, none, .un .not (.t 40) (pu (.unOp .not 4 (.tmp 40)) 4)⟩,
 ⟨some 42, none, .mv (.t 41)⟩,
 ⟨some 43, (some ((some 42), false)), .sh 5 (.t 1)⟩,
 ⟨some 44, (some ((some 42), false)), .ld none (.t 43)⟩,
 ⟨some 45, (some ((some 42), false)), .bin .lss false (.t 44) (.k (.sc (.int .i64 0))) (pu (.binOp .lss 3 (.tmp 44) (.const (.int .i64 0)) 3) 4)⟩,
 ⟨some 46, none, .pick (.t 42) (.k (.sc (.bool true))) (.t 45)⟩,
 ⟨some 47, none, .mv (.t 46)⟩,
 ⟨some 48, (some ((some 47), false)), .sh 5 (.t 1)⟩,
 ⟨some 49, (some ((some 47), false)), .ld none (.t 48)⟩,
 ⟨some 50, (some ((some 47), false)), .sh 6 (.t 1)⟩,
 ⟨some 51, (some ((some 47), false)), .ld none (.t 50)⟩,
 ⟨some 52, (some ((some 47), false)), .bin .gtr false (.t 49) (.t 51) (pu (.binOp .gtr 3 (.tmp 49) (.tmp 51) 3) 4)⟩,
 ⟨some 53, none, .pick (.t 47) (.k (.sc (.bool true))) (.t 52)⟩,
 ⟨some 54, none, .mv (.t 53)⟩,
 ⟨some 55, (some ((some 54), false)), .sh 6 (.t 1)⟩,
 ⟨some 56, (some ((some 54), false)), .ld none (.t 55)⟩,
 ⟨some 57, (some ((some 54), false)), .bin .gtr false (.t 56) (.k (.sc (.int .i64 268435456))) (pu (.binOp .gtr 3 (.tmp 56) (.const (.int .i64 268435456)) 3) 4)⟩,
 ⟨some 58, none, .pick (.t 54) (.k (.sc (.bool true))) (.t 57)⟩,
 ⟨some 59, none, .mv (.t 58)⟩,
 ⟨some 60, (some ((some 59), false)), .sh 7 (.t 1)⟩,
 ⟨some 61, (some ((some 59), false)), .ld none (.t 60)⟩,
 ⟨some 62, (some ((some 59), false)), .call 74 [(.t 61), (.k (.sc (.int .i64 0))), (.k (.sc (.int .i64 36028797018963968)))]⟩,
 ⟨some 63, (some ((some 59), false)), .un .not (.t 62) (pu (.unOp .not 4 (.tmp 62)) 4)⟩,
 ⟨some 64, none, .pick (.t 59) (.k (.sc (.bool true))) (.t 63)⟩])
 (.cond (.t 64) (.seq (.reg [⟨some 2, none, .mv (.k (.sc (.int .i64 2)))⟩])
 .ret)
 .skip))
 (.seq (.seq (.reg [⟨some 65, none, .sh 9 (.t 1)⟩,
 ⟨some 66, none, .ld none (.t 65)⟩,
 ⟨some 67, none, .call 75 [(.t 66)]⟩,
 ⟨some 68, none, .un .not (.t 67) (pu (.unOp .not 4 (.tmp 67)) 4)⟩])
 (.cond (.t 68) (.seq (.reg [⟨some 2, none, .mv (.k (.sc (.int .i64 21)))⟩])
 .ret)
 .skip))
 (.seq (.seq (.reg [⟨some 69, none, .sh 10 (.t 1)⟩,
 ⟨some 70, none, .ld none (.t 69)⟩,
 ⟨some 71, none, .len (.t 70) (pu (.call ⟨.builtin .len, #[(.tmp 70)], #[38]⟩) 3)⟩,
 ⟨some 72, none, .bin .gtr false (.t 71) (.k (.sc (.int .i64 32))) (pu (.binOp .gtr 3 (.tmp 71) (.const (.int .i64 32)) 3) 4)⟩])
 (.cond (.t 72) (.seq (.reg [⟨some 2, none, .mv (.k (.sc (.int .i64 3)))⟩])
 .ret)
 .skip))
 (.seq (.reg [⟨some 3, none, .mv (.k (.sc (.int .i64 0)))⟩])
 (.seq (.seq (.reg [⟨some 4, none, .mv (.k (.sc (.int .i64 0)))⟩])
 (.block 0 (.loop (.seq (.seq (.reg [⟨some 73, none, .mv (.t 4)⟩,
 ⟨some 74, none, .sh 10 (.t 1)⟩,
 ⟨some 75, none, .ld none (.t 74)⟩,
 ⟨some 76, none, .len (.t 75) (pu (.call ⟨.builtin .len, #[(.tmp 75)], #[38]⟩) 3)⟩,
 ⟨some 77, none, .bin .lss false (.t 73) (.t 76) (pu (.binOp .lss 3 (.tmp 73) (.tmp 76) 3) 4)⟩])
 (.cond (.t 77) .skip
 (.exit 0)))
 (.seq (.block 1 (.seq (.seq (.reg [⟨some 80, none, .sh 10 (.t 1)⟩,
 ⟨some 81, none, .ld none (.t 80)⟩,
 ⟨some 82, none, .mv (.t 4)⟩,
 ⟨some 83, none, .ixs 7 (.t 81) (.t 82)⟩,
 ⟨some 84, none, .ld (some 7) (.t 83)⟩,
 ⟨some 85, none, .call 76 [(.t 84)]⟩,
 ⟨some 86, none, .un .not (.t 85) (pu (.unOp .not 4 (.tmp 85)) 4)⟩])
 (.cond (.t 86) (.seq (.reg [⟨some 2, none, .mv (.k (.sc (.int .i64 1)))⟩])
 .ret)
 .skip))
 (.reg [⟨some 87, none, .mv (.t 3)⟩,
 ⟨some 88, none, .sh 10 (.t 1)⟩,
 ⟨some 89, none, .ld none (.t 88)⟩,
 ⟨some 90, none, .mv (.t 4)⟩,
 ⟨some 91, none, .ixs 7 (.t 89) (.t 90)⟩,
 ⟨some 92, none, .sh 6 (.t 91)⟩,
 ⟨some 93, none, .ld none (.t 92)⟩,
 ⟨some 94, none, .bin .add false (.t 87) (.t 93) (pu (.binOp .add 3 (.tmp 87) (.tmp 93) 3) 3)⟩,
 ⟨some 3, none, .mv (.t 94)⟩])))
 (.reg [⟨some 78, none, .mv (.t 4)⟩,
 ⟨some 79, none, .bin .add false (.t 78) (.k (.sc (.int .i64 1))) (pu (.binOp .add 3 (.tmp 78) (.const (.int .i64 1)) 3) 3)⟩,
 ⟨some 4, none, .mv (.t 79)⟩]))))))
 (.seq (.seq (.reg [⟨some 95, none, .sh 11 (.t 1)⟩,
 ⟨some 96, none, .ld none (.t 95)⟩,
 ⟨some 97, none, .mv (.t 3)⟩,
 ⟨some 98, none, .bin .neq false (.t 96) (.t 97) (pu (.binOp .neq 3 (.tmp 96) (.tmp 97) 3) 4)⟩])
 (.cond (.t 98) (.seq (.reg [⟨some 2, none, .mv (.k (.sc (.int .i64 1)))⟩])
 .ret)
 .skip))
 (.seq (.seq (.reg [⟨some 99, none, .sh 12 (.t 1)⟩,
 ⟨some 100, none, .ld none (.t 99)⟩,
 ⟨some 101, none, .mv (.t 100)⟩,
 ⟨some 102, (some ((some 101), true)), .sh 13 (.t 1)⟩,
 ⟨some 103, (some ((some 101), true)), .ld none (.t 102)⟩,
 ⟨some 104, (some ((some 101), true)), .call 23 [(.t 103)]⟩,
 ⟨some 105, (some ((some 101), true)), .un .not (.t 104) (pu (.unOp .not 4 (.tmp 104)) 4)⟩,
 ⟨some 106, none, .pick (.t 101) (.t 105) (.k (.sc (.bool false)))⟩])
 (.cond (.t 106) (.seq (.reg [⟨some 2, none, .mv (.k (.sc (.int .i64 4)))⟩])
 .ret)
 .skip))
 (.seq (.seq (.reg [⟨some 107, none, .sh 12 (.t 1)⟩,
 ⟨some 108, none, .ld none (.t 107)⟩,
 ⟨some 109, none, .mv (.t 108)⟩,
 ⟨some 110, (some ((some 109), true)), .sh 13 (.t 1)⟩,
 ⟨some 111, (some ((some 109), true)), .ld none (.t 110)⟩,
 ⟨some 112, (some ((some 109), true)), .sh 0 (.t 1)⟩,
 ⟨some 113, (some ((some 109), true)), .ld none (.t 112)⟩,
 ⟨some 114, (some ((some 109), true)), .bin .eql false (.t 111) (.t 113) (pu (.binOp .eql 9 (.tmp 111) (.tmp 113) 9) 4)⟩,
 ⟨some 115, none, .pick (.t 109) (.t 114) (.k (.sc (.bool false)))⟩,
 ⟨some 116, none, .mv (.t 115)⟩,
 ⟨some 117, (some ((some 116), false)), .sh 12 (.t 1)⟩,
 ⟨some 118, (some ((some 116), false)), .ld none (.t 117)⟩,
 ⟨some 119, (some ((some 116), false)), .un .not (.t 118) (pu (.unOp .not 4 (.tmp 118)) 4)⟩,
 ⟨some 120, (some ((some 116), false)), .mv (.t 119)⟩,
 ⟨some 121, (some ((some 120), true)), .sh 13 (.t 1)⟩,
 ⟨some 122, (some ((some 120), true)), .ld none (.t 121)⟩,
 ⟨some 123, (some ((some 120), true)), .bin .neq false (.t 122) (.k (.sc (.string ⟨#[]⟩))) (pu (.binOp .neq 9 (.tmp 122) (.const (.string ⟨#[]⟩)) 9) 4)⟩,
 ⟨some 124, (some ((some 116), false)), .pick (.t 120) (.t 123) (.k (.sc (.bool false)))⟩,
 ⟨some 125, none, .pick (.t 116) (.k (.sc (.bool true))) (.t 124)⟩])
 (.cond (.t 125) (.seq (.reg [⟨some 2, none, .mv (.k (.sc (.int .i64 1)))⟩])
 .ret)
 .skip))
 (.seq (.reg [⟨some 2, none, .mv (.k (.sc (.int .i64 0)))⟩])
 .ret))))))))))))
def k53 : List Nat := [0, 1, 2, 3, 4, 32, 37, 64, 68, 72, 77, 86, 98, 106, 125]
theorem ic53 : factsI Try.prog 53 = some (126, [.tmp 2], c53) := by kernel_rfl
def c54 : IC :=
 (.seq (.reg [⟨some 4, none, .mv (.k (.sc (.int .i64 0)))⟩])
 (.seq (.seq (.reg [⟨some 5, none, .mv (.k (.sc (.int .i64 0)))⟩])
 (.block 0 (.loop (.seq (.seq (.reg [⟨some 6, none, .mv (.t 5)⟩,
 ⟨some 7, none, .mv (.t 0)⟩,
 ⟨some 8, none, .len (.t 7) (pu (.call ⟨.builtin .len, #[(.tmp 7)], #[26]⟩) 3)⟩,
 ⟨some 9, none, .bin .lss false (.t 6) (.t 8) (pu (.binOp .lss 3 (.tmp 6) (.tmp 8) 3) 4)⟩])
 (.cond (.t 9) .skip
 (.exit 0)))
 (.seq (.block 1 (.seq (.reg [⟨some 12, none, .mv (.t 0)⟩,
 ⟨some 13, none, .mv (.t 5)⟩,
 ⟨some 14, none, .ixs 14 (.t 12) (.t 13)⟩,
 ⟨some 15, none, .sh 0 (.t 14)⟩,
 ⟨some 16, none, .ld none (.t 15)⟩,
 ⟨some 17, none, .mv (.t 1)⟩,
 ⟨some 18, none, .bin .eql false (.t 16) (.t 17) (pu (.binOp .eql 9 (.tmp 16) (.tmp 17) 9) 4)⟩])
 (.cond (.t 18) (.seq (.reg [⟨some 19, none, .mv (.t 5)⟩,
 ⟨some 4, none, .mv (.t 19)⟩])
 .ret)
 .skip)))
 (.reg [⟨some 10, none, .mv (.t 5)⟩,
 ⟨some 11, none, .bin .add false (.t 10) (.k (.sc (.int .i64 1))) (pu (.binOp .add 3 (.tmp 10) (.const (.int .i64 1)) 3) 3)⟩,
 ⟨some 5, none, .mv (.t 11)⟩]))))))
 (.seq (.reg [⟨some 4, none, .mv (.k (.sc (.int .i64 (-1))))⟩])
 .ret)))
def k54 : List Nat := [0, 1, 4, 5, 9, 18]
theorem ic54 : factsI Try.prog 54 = some (20, [.tmp 4], c54) := by kernel_rfl
def c55 : IC :=
 (.seq (.reg [⟨some 1, none, .bx (.t 0)⟩,
 ⟨some 2, none, .mv (.k (.sc (.int .i64 0)))⟩])
 (.seq (.seq (.reg [⟨some 3, none, .sh 0 (.t 1)⟩,
 ⟨some 4, none, .ld none (.t 3)⟩,
 ⟨some 5, none, .call 23 [(.t 4)]⟩,
 ⟨some 6, none, .un .not (.t 5) (pu (.unOp .not 4 (.tmp 5)) 4)⟩,
 ⟨some 7, none, .mv (.t 6)⟩,
 ⟨some 8, (some ((some 7), false)), .sh 1 (.t 1)⟩,
 ⟨some 9, (some ((some 7), false)), .ld none (.t 8)⟩,
 ⟨some 10, (some ((some 7), false)), .call 23 [(.t 9)]⟩,
 ⟨some 11, (some ((some 7), false)), .un .not (.t 10) (pu (.unOp .not 4 (.tmp 10)) 4)⟩,
 ⟨some 12, none, .pick (.t 7) (.k (.sc (.bool true))) (.t 11)⟩])
 (.cond (.t 12) (.seq (.reg [⟨some 2, none, .mv (.k (.sc (.int .i64 4)))⟩])
 .ret)
 .skip))
 (.seq (.seq (.reg [⟨some 13, none, .sh 2 (.t 1)⟩,
 ⟨some 14, none, .ld none (.t 13)⟩,
 ⟨some 15, none, .bin .lss false (.t 14) (.k (.sc (.int .i64 1))) (pu (.binOp .lss 3 (.tmp 14) (.const (.int .i64 1)) 3) 4)⟩,
 ⟨some 16, none, .mv (.t 15)⟩,
 ⟨some 17, (some ((some 16), false)), .sh 2 (.t 1)⟩,
 ⟨some 18, (some ((some 16), false)), .ld none (.t 17)⟩,
 ⟨some 19, (some ((some 16), false)), .bin .gtr false (.t 18) (.k (.sc (.int .i64 6))) (pu (.binOp .gtr 3 (.tmp 18) (.const (.int .i64 6)) 3) 4)⟩,
 ⟨some 20, none, .pick (.t 16) (.k (.sc (.bool true))) (.t 19)⟩,
 ⟨some 21, none, .mv (.t 20)⟩,
 ⟨some 22, (some ((some 21), false)), .sh 3 (.t 1)⟩,
 ⟨some 23, (some ((some 21), false)), .ld none (.t 22)⟩,
 ⟨some 24, (some ((some 21), false)), .bin .lss false (.t 23) (.k (.sc (.int .i64 0))) (pu (.binOp .lss 3 (.tmp 23) (.const (.int .i64 0)) 3) 4)⟩,
 ⟨some 25, none, .pick (.t 21) (.k (.sc (.bool true))) (.t 24)⟩,
 ⟨some 26, none, .mv (.t 25)⟩,
 ⟨some 27, (some ((some 26), false)), .sh 3 (.t 1)⟩,
 ⟨some 28, (some ((some 26), false)), .ld none (.t 27)⟩,
 ⟨some 29, (some ((some 26), false)), .bin .gtr false (.t 28) (.k (.sc (.int .i64 268435456))) (pu (.binOp .gtr 3 (.tmp 28) (.const (.int .i64 268435456)) 3) 4)⟩,
 ⟨some 30, none, .pick (.t 26) (.k (.sc (.bool true))) (.t 29)⟩,
 ⟨some 31, none, .mv (.t 30)⟩,
 ⟨some 32, (some ((some 31), false)), .sh 4 (.t 1)⟩,
 ⟨some 33, (some ((some 31), false)), .ld none (.t 32)⟩,
 ⟨some 34, (some ((some 31), false)), .bin .lss false (.t 33) (.k (.sc (.int .i64 1))) (pu (.binOp .lss 3 (.tmp 33) (.const (.int .i64 1)) 3) 4)⟩,
 ⟨some 35, none, .pick (.t 31) (.k (.sc (.bool true))) (.t 34)⟩,
 ⟨some 36, none, .mv (.t 35)⟩,
 ⟨some 37, (some ((some 36), false)), .sh 4 (.t 1)⟩,
 ⟨some 38, (some ((some 36), false)), .ld none (.t 37)⟩,
 ⟨some 39, (some ((some 36), false)), .bin .gtr false (.t 38) (.k (.sc (.int .i64 36028797018963968))) (pu (.binOp .gtr 3 (.tmp 38) (.const (.int .i64 36028797018963968)) 3) 4)⟩,
 ⟨some 40, none, .pick (.t 36) (.k (.sc (.bool true))) (.t 39)⟩,
 ⟨some 41, none, .mv (.t 40)⟩,
 ⟨some 42, (some ((some 41), false)), .sh 5 (.t 1)⟩,
 ⟨some 43, (some ((some 41), false)), .ld none (.t 42)⟩,
 ⟨some 44, (some ((some 41), false)), .bin .lss false (.t 43) (.k (.sc (.int .i64 0))) (pu (.binOp .lss 3 (.tmp 43) (.const (.int .i64 0)) 3) 4)⟩,
 ⟨some 45, none, .pick (.t 41) (.k (.sc (.bool true))) (.t 44)⟩,
 ⟨some 46, none, .mv (.t 45)⟩,
 ⟨some 47, (some ((some 46), false)), .sh 5 (.t 1)⟩,
 ⟨some 48, (some ((some 46), false)), .ld none (.t 47)⟩,
 ⟨some 49, (some ((some 46), false)), .sh 4 (.t 1)⟩,
 ⟨some 50, (some ((some 46), false)), .ld none (.t 49)⟩,
 ⟨some 51, (some ((some 46), false)), .bin .gtr false (.t 48) (.t 50) (pu (.binOp .gtr 3 (.tmp 48) (.tmp 50) 3) 4)⟩,
 ⟨some 52, none, .pick (.t 46) (.k (.sc (.bool true))) (.t 51)⟩])
 (.cond (.t 52) (.seq (.reg [⟨some 2, none, .mv (.k (.sc (.int .i64 2)))⟩])
 .ret)
 .skip))
 (.seq (.seq (.reg [⟨some 53, none, .sh 5 (.t 1)⟩,
 ⟨some 54, none, .ld none (.t 53)⟩,
 ⟨some 55, none, .bin .neq false (.t 54) (.k (.sc (.int .i64 0))) (pu (.binOp .neq 3 (.tmp 54) (.const (.int .i64 0)) 3) 4)⟩,
 ⟨some 56, none, .sh 2 (.t 1)⟩,
 ⟨some 57, none, .ld none (.t 56)⟩,
 ⟨some 58, none, .bin .eql false (.t 57) (.k (.sc (.int .i64 4))) (pu (.binOp .eql 3 (.tmp 57) (.const (.int .i64 4)) 3) 4)⟩,
 ⟨some 59, none, .bin .neq true (.t 55) (.t 58) (pu (.binOp .neq 4 (.tmp 55) (.tmp 58) 4) 4)⟩])
 (.cond (.t 59) (.seq (.reg [⟨some 2, none, .mv (.k (.sc (.int .i64 1)))⟩])
 .ret)
 .skip))
 (.seq (.reg [⟨some 2, none, .mv (.k (.sc (.int .i64 0)))⟩])
 .ret)))))
def k55 : List Nat := [0, 1, 2, 12, 52, 59]
theorem ic55 : factsI Try.prog 55 = some (60, [.tmp 2], c55) := by kernel_rfl
def c56 : IC :=
 (.seq (.reg [⟨some 4, none, .mv (.k (.sc (.int .i64 0)))⟩])
 (.seq (.seq (.reg [⟨some 5, none, .mv (.k (.sc (.int .i64 0)))⟩])
 (.block 0 (.loop (.seq (.seq (.reg [⟨some 6, none, .mv (.t 5)⟩,
 ⟨some 7, none, .mv (.t 0)⟩,
 ⟨some 8, none, .len (.t 7) (pu (.call ⟨.builtin .len, #[(.tmp 7)], #[27]⟩) 3)⟩,
 ⟨some 9, none, .bin .lss false (.t 6) (.t 8) (pu (.binOp .lss 3 (.tmp 6) (.tmp 8) 3) 4)⟩])
 (.cond (.t 9) .skip
 (.exit 0)))
 (.seq (.block 1 (.seq (.reg [⟨some 12, none, .mv (.t 0)⟩,
 ⟨some 13, none, .mv (.t 5)⟩,
 ⟨some 14, none, .ixs 6 (.t 12) (.t 13)⟩,
 ⟨some 15, none, .sh 0 (.t 14)⟩,
 ⟨some 16, none, .ld none (.t 15)⟩,
 ⟨some 17, none, .mv (.t 1)⟩,
 ⟨some 18, none, .bin .eql false (.t 16) (.t 17) (pu (.binOp .eql 9 (.tmp 16) (.tmp 17) 9) 4)⟩])
 (.cond (.t 18) (.seq (.reg [⟨some 19, none, .mv (.t 5)⟩,
 ⟨some 4, none, .mv (.t 19)⟩])
 .ret)
 .skip)))
 (.reg [⟨some 10, none, .mv (.t 5)⟩,
 ⟨some 11, none, .bin .add false (.t 10) (.k (.sc (.int .i64 1))) (pu (.binOp .add 3 (.tmp 10) (.const (.int .i64 1)) 3) 3)⟩,
 ⟨some 5, none, .mv (.t 11)⟩]))))))
 (.seq (.reg [⟨some 4, none, .mv (.k (.sc (.int .i64 (-1))))⟩])
 .ret)))
def k56 : List Nat := [0, 1, 4, 5, 9, 18]
theorem ic56 : factsI Try.prog 56 = some (20, [.tmp 4], c56) := by kernel_rfl
def c57 : IC :=
 (.seq (.reg [⟨some 3, none, .bx (.t 0)⟩,
 ⟨some 6, none, .mv (.k (.sc (.bool false)))⟩])
 (.seq (.reg [⟨some 7, none, .sh 1 (.t 3)⟩,
 ⟨some 8, none, .ld none (.t 7)⟩,
 ⟨some 9, none, .mv (.t 1)⟩,
 ⟨some 10, none, .bin .eql false (.t 8) (.t 9) (pu (.binOp .eql 9 (.tmp 8) (.tmp 9) 9) 4)⟩,
 ⟨some 11, none, .mv (.t 10)⟩,
 ⟨some 12, (some ((some 11), true)), .sh 2 (.t 3)⟩,
 ⟨some 13, (some ((some 11), true)), .ld none (.t 12)⟩,
 ⟨some 14, (some ((some 11), true)), .mv (.t 2)⟩,
 ⟨some 15, (some ((some 11), true)), .bin .eql false (.t 13) (.t 14) (pu (.binOp .eql 9 (.tmp 13) (.tmp 14) 9) 4)⟩,
 ⟨some 16, none, .pick (.t 11) (.t 15) (.k (.sc (.bool false)))⟩,
 ⟨some 17, none, .mv (.t 16)⟩,
 ⟨some 18, (some ((some 17), false)), .sh 1 (.t 3)⟩,
 ⟨some 19, (some ((some 17), false)), .ld none (.t 18)⟩,
 ⟨some 20, (some ((some 17), false)), .mv (.t 2)⟩,
 ⟨some 21, (some ((some 17), false)), .bin .eql false (.t 19) (.t 20) (pu (.binOp .eql 9 (.tmp 19) (.tmp 20) 9) 4)⟩,
 ⟨some 22, (some ((some 17), false)), .mv (.t 21)⟩,
 ⟨some 23, (some ((some 22), true)), .sh 2 (.t 3)⟩,
 ⟨some 24, (some ((some 22), true)), .ld none (.t 23)⟩,
 ⟨some 25, (some ((some 22), true)), .mv (.t 1)⟩,
 ⟨some 26, (some ((some 22), true)), .bin .eql false (.t 24) (.t 25) (pu (.binOp .eql 9 (.tmp 24) (.tmp 25) 9) 4)⟩,
 ⟨some 27, (some ((some 17), false)), .pick (.t 22) (.t 26) (.k (.sc (.bool false)))⟩,
 ⟨some 28, none, .pick (.t 17) (.k (.sc (.bool true))) (.t 27)⟩,
 ⟨some 6, none, .mv (.t 28)⟩])
 .ret))
def k57 : List Nat := [0, 1, 2, 3, 6]
theorem ic57 : factsI Try.prog 57 = some (29, [.tmp 6], c57) := by kernel_rfl
def c58 : IC :=
 (.seq (.reg [⟨some 4, none, .mv (.k (.sc (.bool false)))⟩])
 (.seq (.seq (.reg [⟨some 6, none, .mv (.t 0)⟩,
 ⟨some 7, none, .len (.t 6) (pu (.call ⟨.builtin .len, #[(.tmp 6)], #[38]⟩) 3)⟩,
 ⟨some 8, none, .mv (.t 1)⟩,
 ⟨some 9, none, .len (.t 8) (pu (.call ⟨.builtin .len, #[(.tmp 8)], #[38]⟩) 3)⟩,
 ⟨some 10, none, .bin .neq false (.t 7) (.t 9) (pu (.binOp .neq 3 (.tmp 7) (.tmp 9) 3) 4)⟩])
 (.cond (.t 10) (.seq (.reg [⟨some 4, none, .mv (.k (.sc (.bool false)))⟩])
 .ret)
 .skip))
 (.seq (.seq (.reg [⟨some 11, none, .mv (.t 0)⟩,
 ⟨some 12, none, .len (.t 11) (pu (.call ⟨.builtin .len, #[(.tmp 11)], #[38]⟩) 3)⟩,
 ⟨some 13, none, .mv (.k (.sc (.int .i64 0)))⟩])
 (.block 0 (.loop (.seq (.reg [⟨some 14, none, .bin .lss false (.t 13) (.t 12) (pu (.binOp .lss 3 (.tmp 13) (.tmp 12) 3) 0)⟩])
 (.seq (.cond (.t 14) .skip
 (.exit 0))
 (.seq (.block 1 (.seq (.reg [⟨some 15, none, .mv (.t 13)⟩,
 ⟨some 5, none, .mv (.t 15)⟩])
 (.seq (.drw [0, 0, 3, 7, 0, 0, 48, 112, 255] [⟨some 16, none, .mv (.t 0)⟩,
 ⟨some 17, none, .mv (.t 5)⟩,
 ⟨some 18, none, .ixs 7 (.t 16) (.t 17)⟩,
 ⟨some 19, none, .ld (some 7) (.t 18)⟩,
 ⟨some 20, none, .mv (.t 1)⟩,
 ⟨some 21, none, .mv (.t 5)⟩,
 ⟨some 22, none, .ixs 7 (.t 20) (.t 21)⟩,
 ⟨some 23, none, .ld (some 7) (.t 22)⟩,
 ⟨some 24, none, .bin .neq false (.t 19) (.t 23) (pu (.binOp .neq 87 (.tmp 19) (.tmp 23) 87) 4)⟩])
 (.cond (.t 24) (.seq (.reg [⟨some 4, none, .mv (.k (.sc (.bool false)))⟩])
 .ret)
 .skip))))
 (.reg [⟨some 25, none, .bin .add false (.t 13) (.k (.sc (.int .i64 1))) (pu (.binOp .add 3 (.tmp 13) (.const (.int .i64 1)) 3) 3)⟩,
 ⟨some 13, none, .mv (.t 25)⟩])))))))
 (.seq (.reg [⟨some 4, none, .mv (.k (.sc (.bool true)))⟩])
 .ret))))
def k58 : List Nat := [0, 1, 4, 5, 10, 12, 13, 14, 24]
theorem ic58 : factsI Try.prog 58 = some (26, [.tmp 4], c58) := by kernel_rfl
def c59 : IC :=
 (.seq (.reg [⟨some 3, none, .bx (.t 0)⟩,
 ⟨some 6, none, .mv (.k (.sc (.bool false)))⟩])
 (.seq (.reg [⟨some 7, none, .sh 1 (.t 3)⟩,
 ⟨some 8, none, .ld none (.t 7)⟩,
 ⟨some 9, none, .mv (.t 1)⟩,
 ⟨some 10, none, .bin .eql false (.t 8) (.t 9) (pu (.binOp .eql 9 (.tmp 8) (.tmp 9) 9) 4)⟩,
 ⟨some 11, none, .mv (.t 10)⟩,
 ⟨some 12, (some ((some 11), true)), .sh 2 (.t 3)⟩,
 ⟨some 13, (some ((some 11), true)), .ld none (.t 12)⟩,
 ⟨some 14, (some ((some 11), true)), .mv (.t 2)⟩,
 ⟨some 15, (some ((some 11), true)), .bin .eql false (.t 13) (.t 14) (pu (.binOp .eql 9 (.tmp 13) (.tmp 14) 9) 4)⟩,
 ⟨some 16, none, .pick (.t 11) (.t 15) (.k (.sc (.bool false)))⟩,
 ⟨some 17, none, .mv (.t 16)⟩,
 ⟨some 18, (some ((some 17), false)), .sh 1 (.t 3)⟩,
 ⟨some 19, (some ((some 17), false)), .ld none (.t 18)⟩,
 ⟨some 20, (some ((some 17), false)), .mv (.t 2)⟩,
 ⟨some 21, (some ((some 17), false)), .bin .eql false (.t 19) (.t 20) (pu (.binOp .eql 9 (.tmp 19) (.tmp 20) 9) 4)⟩,
 ⟨some 22, (some ((some 17), false)), .mv (.t 21)⟩,
 ⟨some 23, (some ((some 22), true)), .sh 2 (.t 3)⟩,
 ⟨some 24, (some ((some 22), true)), .ld none (.t 23)⟩,
 ⟨some 25, (some ((some 22), true)), .mv (.t 1)⟩,
 ⟨some 26, (some ((some 22), true)), .bin .eql false (.t 24) (.t 25) (pu (.binOp .eql 9 (.tmp 24) (.tmp 25) 9) 4)⟩,
 ⟨some 27, (some ((some 17), false)), .pick (.t 22) (.t 26) (.k (.sc (.bool false)))⟩,
 ⟨some 28, none, .pick (.t 17) (.k (.sc (.bool true))) (.t 27)⟩,
 ⟨some 6, none, .mv (.t 28)⟩])
 .ret))
def k59 : List Nat := [0, 1, 2, 3, 6]
theorem ic59 : factsI Try.prog 59 = some (29, [.tmp 6], c59) := by kernel_rfl
def c60 : IC :=
 (.seq (.reg [⟨some 2, none, .mv (.k (.sc (.int .i64 0)))⟩])
 (.seq (.seq (.reg [⟨some 5, none, .mv (.t 0)⟩,
 ⟨some 6, none, .len (.t 5) (pu (.call ⟨.builtin .len, #[(.tmp 5)], #[107]⟩) 3)⟩,
 ⟨some 7, none, .mv (.k (.sc (.int .i64 0)))⟩])
 (.block 0 (.loop (.seq (.reg [⟨some 8, none, .bin .lss false (.t 7) (.t 6) (pu (.binOp .lss 3 (.tmp 7) (.tmp 6) 3) 0)⟩])
 (.seq (.cond (.t 8) .skip
 (.exit 0))
 (.seq (.block 1 (.seq (.reg [⟨some 9, none, .ixs 1 (.t 5) (.t 7)⟩,
 ⟨some 10, none, .ld none (.t 9)⟩,
 ⟨some 4, none, .mv (.t 10)⟩])
 (.seq (.reg [⟨some 11, none, .mv (.t 4)⟩,
 ⟨some 12, none, .call 19 [(.t 11)]⟩,
 ⟨some 13, none, .un .not (.t 12) (pu (.unOp .not 4 (.tmp 12)) 4)⟩])
 (.cond (.t 13) (.seq (.reg [⟨some 2, none, .mv (.k (.sc (.int .i64 4)))⟩])
 .ret)
 .skip))))
 (.reg [⟨some 14, none, .bin .add false (.t 7) (.k (.sc (.int .i64 1))) (pu (.binOp .add 3 (.tmp 7) (.const (.int .i64 1)) 3) 3)⟩,
 ⟨some 7, none, .mv (.t 14)⟩])))))))
 (.seq (.reg [⟨some 2, none, .mv (.k (.sc (.int .i64 0)))⟩])
 .ret)))
def k60 : List Nat := [0, 2, 4, 5, 6, 7, 8, 13]
theorem ic60 : factsI Try.prog 60 = some (15, [.tmp 2], c60) := by kernel_rfl
def c61 : IC :=
 (.seq (.reg [⟨some 6, none, .mv (.k (.sc (.bool false)))⟩])
 (.seq (.seq (.reg [⟨some 9, none, .mv (.t 2)⟩,
 ⟨some 10, none, .len (.t 9) (pu (.call ⟨.builtin .len, #[(.tmp 9)], #[23]⟩) 3)⟩,
 ⟨some 11, none, .mv (.k (.sc (.int .i64 0)))⟩])
 (.block 0 (.loop (.seq (.reg [⟨some 12, none, .bin .lss false (.t 11) (.t 10) (pu (.binOp .lss 3 (.tmp 11) (.tmp 10) 3) 0)⟩])
 (.seq (.cond (.t 12) .skip
 (.exit 0))
 (.seq (.block 1 (.seq (.reg [⟨some 13, none, .ixs 1 (.t 9) (.t 11)⟩,
 ⟨some 14, none, .ld none (.t 13)⟩,
 ⟨some 8, none, .mv (.t 14)⟩])
 (.seq (.reg [⟨some 15, none, .mv (.t 8)⟩,
 ⟨some 16, none, .mv (.t 0)⟩,
 ⟨some 17, none, .bin .lss false (.t 15) (.t 16) (pu (.binOp .lss 3 (.tmp 15) (.tmp 16) 3) 4)⟩,
 ⟨some 18, none, .mv (.t 17)⟩,
 ⟨some 19, (some ((some 18), false)), .mv (.t 8)⟩,
 ⟨some 20, (some ((some 18), false)), .mv (.t 1)⟩,
 ⟨some 21, (some ((some 18), false)), .bin .gtr false (.t 19) (.t 20) (pu (.binOp .gtr 3 (.tmp 19) (.tmp 20) 3) 4)⟩,
 ⟨some 22, none, .pick (.t 18) (.k (.sc (.bool true))) (.t 21)⟩])
 (.cond (.t 22) (.seq (.reg [⟨some 6, none, .mv (.k (.sc (.bool false)))⟩])
 .ret)
 .skip))))
 (.reg [⟨some 23, none, .bin .add false (.t 11) (.k (.sc (.int .i64 1))) (pu (.binOp .add 3 (.tmp 11) (.const (.int .i64 1)) 3) 3)⟩,
 ⟨some 11, none, .mv (.t 23)⟩])))))))
 (.seq (.reg [⟨some 6, none, .mv (.k (.sc (.bool true)))⟩])
 .ret)))
def k61 : List Nat := [0, 1, 2, 6, 8, 9, 10, 11, 12, 22]
theorem ic61 : factsI Try.prog 61 = some (24, [.tmp 6], c61) := by kernel_rfl
def c62 : IC :=
 (.seq (.reg [⟨some 2, none, .mv (.k (.sc (.bool false)))⟩])
 (.seq (.seq (.reg [⟨some 4, none, .mv (.t 0)⟩,
 ⟨some 5, none, .lens (.t 4) (pu (.call ⟨.builtin .len, #[(.tmp 4)], #[9]⟩) 3)⟩,
 ⟨some 6, none, .bin .neq false (.t 5) (.k (.sc (.int .i64 3))) (pu (.binOp .neq 3 (.tmp 5) (.const (.int .i64 3)) 3) 4)⟩])
 (.cond (.t 6) (.seq (.reg [⟨some 2, none, .mv (.k (.sc (.bool false)))⟩])
 .ret)
 .skip))
 (.seq (.seq (.reg [⟨some 7, none, .mv (.t 0)⟩,
 ⟨some 8, none, .lens (.t 7) (pu (.call ⟨.builtin .len, #[(.tmp 7)], #[9]⟩) 3)⟩,
 ⟨some 9, none, .mv (.k (.sc (.int .i64 0)))⟩])
 (.block 0 (.loop (.seq (.reg [⟨some 10, none, .bin .lss false (.t 9) (.t 8) (pu (.binOp .lss 3 (.tmp 9) (.tmp 8) 3) 4)⟩])
 (.seq (.cond (.t 10) .skip
 (.exit 0))
 (.seq (.block 1 (.seq (.reg [⟨some 11, none, .mv (.t 9)⟩,
 ⟨some 3, none, .mv (.t 11)⟩])
 (.seq (.reg [⟨some 12, none, .mv (.t 0)⟩,
 ⟨some 13, none, .mv (.t 3)⟩,
 ⟨some 14, none, .pur (pu (.index 9 (.tmp 12) (.tmp 13)) 5)⟩,
 ⟨some 15, none, .bin .lss false (.t 14) (.k (.sc (.int .u8 65))) (pu (.binOp .lss 5 (.tmp 14) (.const (.int .u8 65)) 5) 4)⟩,
 ⟨some 16, none, .mv (.t 15)⟩,
 ⟨some 17, (some ((some 16), false)), .mv (.t 0)⟩,
 ⟨some 18, (some ((some 16), false)), .mv (.t 3)⟩,
 ⟨some 19, (some ((some 16), false)), .pur (pu (.index 9 (.tmp 17) (.tmp 18)) 5)⟩,
 ⟨some 20, (some ((some 16), false)), .bin .gtr false (.t 19) (.k (.sc (.int .u8 90))) (pu (.binOp .gtr 5 (.tmp 19) (.const (.int .u8 90)) 5) 4)⟩,
 ⟨some 21, none, .pick (.t 16) (.k (.sc (.bool true))) (.t 20)⟩])
 (.cond (.t 21) (.seq (.reg [⟨some 2, none, .mv (.k (.sc (.bool false)))⟩])
 .ret)
 .skip))))
 (.reg [⟨some 22, none, .bin .add false (.t 9) (.k (.sc (.int .i64 1))) (pu (.binOp .add 3 (.tmp 9) (.const (.int .i64 1)) 3) 3)⟩,
 ⟨some 9, none, .mv (.t 22)⟩])))))))
 (.seq (.reg [⟨some 2, none, .mv (.k (.sc (.bool true)))⟩])
 .ret))))
def k62 : List Nat := [0, 2, 3, 6, 8, 9, 10, 21]
theorem ic62 : factsI Try.prog 62 = some (23, [.tmp 2], c62) := by kernel_rfl
def c63 : IC :=
 (.seq (.reg [⟨some 1, none, .bx (.t 0)⟩,
 ⟨some 2, none, .mv (.k (.sc (.int .i64 0)))⟩])
 (.seq (.seq (.reg [⟨some 6, none, .sh 10 (.t 1)⟩,
 ⟨some 7, none, .ld none (.t 6)⟩,
 ⟨some 8, none, .len (.t 7) (pu (.call ⟨.builtin .len, #[(.tmp 7)], #[38]⟩) 3)⟩,
 ⟨some 9, none, .bin .gtr false (.t 8) (.k (.sc (.int .i64 32))) (pu (.binOp .gtr 3 (.tmp 8) (.const (.int .i64 32)) 3) 4)⟩])
 (.cond (.t 9) (.seq (.reg [⟨some 2, none, .mv (.k (.sc (.int .i64 3)))⟩])
 .ret)
 .skip))
 (.seq (.reg [⟨some 3, none, .mv (.k (.sc (.int .i64 0)))⟩])
 (.seq (.seq (.reg [⟨some 10, none, .sh 10 (.t 1)⟩,
 ⟨some 11, none, .ld none (.t 10)⟩,
 ⟨some 12, none, .len (.t 11) (pu (.call ⟨.builtin .len, #[(.tmp 11)], #[38]⟩) 3)⟩,
 ⟨some 13, none, .mv (.k (.sc (.int .i64 0)))⟩])
 (.block 0 (.loop (.seq (.reg [⟨some 14, none, .bin .lss false (.t 13) (.t 12) (pu (.binOp .lss 3 (.tmp 13) (.tmp 12) 3) 0)⟩])
 (.seq (.cond (.t 14) .skip
 (.exit 0))
 (.seq (.block 1 (.seq (.reg [⟨some 15, none, .ixs 7 (.t 11) (.t 13)⟩,
 ⟨some 16, none, .ld (some 7) (.t 15)⟩,
 ⟨some 5, none, .al (.agg [.sc (.int .i64 0), .sc (.int .i64 0), .sc (.int .i64 0), .sc (.int .i64 0), .sc (.int .i64 0), .sc (.int .i64 0), .sc (.int .i64 0)]) 7⟩,
 ⟨none, none, .st 7 (.t 5) (.t 16)⟩])
 (.seq (.seq (.reg [⟨some 17, none, .ld (some 7) (.t 5)⟩,
 ⟨some 18, none, .call 77 [(.t 17)]⟩,
 ⟨some 19, none, .un .not (.t 18) (pu (.unOp .not 4 (.tmp 18)) 4)⟩])
 (.cond (.t 19) (.seq (.reg [⟨some 2, none, .mv (.k (.sc (.int .i64 1)))⟩])
 .ret)
 .skip))
 (.reg [⟨some 20, none, .mv (.t 3)⟩,
 ⟨some 21, none, .sh 6 (.t 5)⟩,
 ⟨some 22, none, .ld none (.t 21)⟩,
 ⟨some 23, none, .bin .add false (.t 20) (.t 22) (pu (.binOp .add 3 (.tmp 20) (.tmp 22) 3) 3)⟩,
 ⟨some 3, none, .mv (.t 23)⟩]))))
 (.reg [⟨some 24, none, .bin .add false (.t 13) (.k (.sc (.int .i64 1))) (pu (.binOp .add 3 (.tmp 13) (.const (.int .i64 1)) 3) 3)⟩,
 ⟨some 13, none, .mv (.t 24)⟩])))))))
 (.seq (.seq (.reg [⟨some 25, none, .sh 11 (.t 1)⟩,
 ⟨some 26, none, .ld none (.t 25)⟩,
 ⟨some 27, none, .mv (.t 3)⟩,
 ⟨some 28, none, .bin .neq false (.t 26) (.t 27) (pu (.binOp .neq 3 (.tmp 26) (.tmp 27) 3) 4)⟩])
 (.cond (.t 28) (.seq (.reg [⟨some 2, none, .mv (.k (.sc (.int .i64 1)))⟩])
 .ret)
 .skip))
 (.seq (.reg [⟨some 2, none, .mv (.k (.sc (.int .i64 0)))⟩])
 .ret))))))
def k63 : List Nat := [0, 1, 2, 3, 5, 9, 11, 12, 13, 14, 19, 28]
theorem ic63 : factsI Try.prog 63 = some (29, [.tmp 2], c63) := by kernel_rfl
def c64 : IC :=
 (.seq (.reg [⟨some 1, none, .bx (.t 0)⟩,
 ⟨some 2, none, .mv (.k (.sc (.int .i64 0)))⟩])
 (.seq (.seq (.reg [⟨some 3, none, .sh 12 (.t 1)⟩,
 ⟨some 4, none, .ld none (.t 3)⟩,
 ⟨some 5, none, .un .not (.t 4) (pu (.unOp .not 4 (.tmp 4)) 4)⟩])
 (.cond (.t 5) (.seq (.seq (.reg [⟨some 6, none, .sh 13 (.t 1)⟩,
 ⟨some 7, none, .ld none (.t 6)⟩,
 ⟨some 8, none, .bin .neq false (.t 7) (.k (.sc (.string ⟨#[]⟩))) (pu (.binOp .neq 9 (.tmp 7) (.const (.string ⟨#[]⟩)) 9) 4)⟩])
 (.cond (.t 8) (.seq (.reg [⟨some 2, none, .mv (.k (.sc (.int .i64 1)))⟩])
 .ret)
 .skip))
 (.seq (.reg [⟨some 2, none, .mv (.k (.sc (.int .i64 0)))⟩])
 .ret))
 .skip))
 (.seq (.seq (.reg [⟨some 9, none, .sh 13 (.t 1)⟩,
 ⟨some 10, none, .ld none (.t 9)⟩,
 ⟨some 11, none, .call 19 [(.t 10)]⟩,
 ⟨some 12, none, .un .not (.t 11) (pu (.unOp .not 4 (.tmp 11)) 4)⟩])
 (.cond (.t 12) (.seq (.reg [⟨some 2, none, .mv (.k (.sc (.int .i64 4)))⟩])
 .ret)
 .skip))
 (.seq (.seq (.reg [⟨some 13, none, .sh 13 (.t 1)⟩,
 ⟨some 14, none, .ld none (.t 13)⟩,
 ⟨some 15, none, .sh 0 (.t 1)⟩,
 ⟨some 16, none, .ld none (.t 15)⟩,
 ⟨some 17, none, .bin .eql false (.t 14) (.t 16) (pu (.binOp .eql 9 (.tmp 14) (.tmp 16) 9) 4)⟩])
 (.cond (.t 17) (.seq (.reg [⟨some 2, none, .mv (.k (.sc (.int .i64 1)))⟩])
 .ret)
 .skip))
 (.seq (.reg [⟨some 2, none, .mv (.k (.sc (.int .i64 0)))⟩])
 .ret)))))
def k64 : List Nat := [0, 1, 2, 5, 8, 12, 17]
theorem ic64 : factsI Try.prog 64 = some (18, [.tmp 2], c64) := by kernel_rfl
def c65 : IC :=
 (.seq (.reg [⟨some 1, none, .bx (.t 0)⟩,
 ⟨some 2, none, .mv (.k (.sc (.map none)))⟩])
 (.seq (.reg [⟨some 6, none, .sh 5 (.t 1)⟩,
 ⟨some 7, none, .ld none (.t 6)⟩,
 ⟨some 8, none, .len (.t 7) (pu (.call ⟨.builtin .len, #[(.tmp 7)], #[26]⟩) 3)⟩,
 ⟨some 9, none, .mmk (some (.t 8))⟩,
 ⟨some 3, none, .mv (.t 9)⟩])
 (.seq (.seq (.reg [⟨some 10, none, .sh 5 (.t 1)⟩,
 ⟨some 11, none, .ld none (.t 10)⟩,
 ⟨some 12, none, .len (.t 11) (pu (.call ⟨.builtin .len, #[(.tmp 11)], #[26]⟩) 3)⟩,
 ⟨some 13, none, .mv (.k (.sc (.int .i64 0)))⟩])
 (.block 0 (.loop (.seq (.reg [⟨some 14, none, .bin .lss false (.t 13) (.t 12) (pu (.binOp .lss 3 (.tmp 13) (.tmp 12) 3) 0)⟩])
 (.seq (.cond (.t 14) .skip
 (.exit 0))
 (.seq (.block 1 (.seq (.reg [⟨some 15, none, .ixs 14 (.t 11) (.t 13)⟩,
 ⟨some 16, none, .ld (some 14) (.t 15)⟩,
 ⟨some 5, none, .al (.agg [.sc (.string ⟨#[]⟩), .sc (.string ⟨#[]⟩), .sc (.string ⟨#[]⟩), .sc (.string ⟨#[]⟩), .sc (.int .i64 0), .sc (.int .i64 0), .sc (.int .i64 0), .sc (.int .i64 0), .sc (.string ⟨#[]⟩), .sc (.string ⟨#[]⟩), .sc (.slice none 0 0), .sc (.int .i64 0), .sc (.bool false), .sc (.string ⟨#[]⟩)]) 14⟩,
 ⟨none, none, .st 14 (.t 5) (.t 16)⟩])
 (.reg [⟨some 17, none, .mv (.t 3)⟩,
 ⟨some 18, none, .sh 0 (.t 5)⟩,
 ⟨some 19, none, .ld none (.t 18)⟩,
 ⟨some 20, none, .ld (some 14) (.t 5)⟩,
 ⟨none, none, .mpt false [.s] (.t 17) (.t 19) (.t 20)⟩])))
 (.reg [⟨some 21, none, .bin .add false (.t 13) (.k (.sc (.int .i64 1))) (pu (.binOp .add 3 (.tmp 13) (.const (.int .i64 1)) 3) 3)⟩,
 ⟨some 13, none, .mv (.t 21)⟩])))))))
 (.seq (.reg [⟨some 22, none, .mv (.t 3)⟩,
 ⟨some 2, none, .mv (.t 22)⟩])
 .ret))))
def k65 : List Nat := [0, 1, 2, 3, 5, 11, 12, 13, 14]
theorem ic65 : factsI Try.prog 65 = some (23, [.tmp 2], c65) := by kernel_rfl
def c66 : IC :=
 (.seq (.reg [⟨some 2, none, .bx (.t 0)⟩,
 ⟨some 4, none, .mv (.k (.sc (.slice none 0 0)))⟩,
 ⟨some 5, none, .mv (.k (.sc (.int .i64 0)))⟩])
 (.seq (.reg [⟨some 6, none, .mv (.k (.sc (.slice none 0 0)))⟩])
 (.seq (.seq (.reg [⟨some 9, none, .sh 1 (.t 2)⟩,
 ⟨some 10, none, .ld none (.t 9)⟩,
 ⟨some 11, none, .len (.t 10) (pu (.call ⟨.builtin .len, #[(.tmp 10)], #[22]⟩) 3)⟩,
 ⟨some 12, none, .mv (.k (.sc (.int .i64 0)))⟩])
 (.block 0 (.loop (.seq (.reg [⟨some 13, none, .bin .lss false (.t 12) (.t 11) (pu (.binOp .lss 3 (.tmp 12) (.tmp 11) 3) 0)⟩])
 (.seq (.cond (.t 13) .skip
 (.exit 0))
 (.seq (.block 1 (.seq (.reg [⟨some 14, none, .mv (.t 12)⟩,
 ⟨some 15, none, .ixs 6 (.t 10) (.t 12)⟩,
 ⟨some 16, none, .ld (some 6) (.t 15)⟩,
 ⟨some 8, none, .al (.agg [.sc (.int .i64 0), .sc (.string ⟨#[]⟩), .sc (.string ⟨#[]⟩), .sc (.int .i64 0), .sc (.bool false), .sc (.slice none 0 0)]) 6⟩,
 ⟨some 7, none, .mv (.t 14)⟩,
 ⟨none, none, .st 6 (.t 8) (.t 16)⟩])
 (.seq (.reg [⟨some 17, none, .mv (.t 7)⟩,
 ⟨some 18, none, .sh 2 (.t 2)⟩,
 ⟨some 19, none, .ld none (.t 18)⟩,
 ⟨some 20, none, .len (.t 19) (pu (.call ⟨.builtin .len, #[(.tmp 19)], #[23]⟩) 3)⟩,
 ⟨some 21, none, .bin .lss false (.t 17) (.t 20) (pu (.binOp .lss 3 (.tmp 17) (.tmp 20) 3) 4)⟩,
 ⟨some 22, none, .mv (.t 21)⟩,
 ⟨some 23, (some ((some 22), true)), .sh 2 (.t 2)⟩,
 ⟨some 24, (some ((some 22), true)), .ld none (.t 23)⟩,
 ⟨some 25, (some ((some 22), true)), .mv (.t 7)⟩,
 ⟨some 26, (some ((some 22), true)), .ixs 1 (.t 24) (.t 25)⟩,
 ⟨some 27, (some ((some 22), true)), .ld none (.t 26)⟩,
 ⟨some 28, (some ((some 22), true)), .mv (.t 1)⟩,
 ⟨some 29, (some ((some 22), true)), .bin .gtr false (.t 27) (.t 28) (pu (.binOp .gtr 3 (.tmp 27) (.tmp 28) 3) 4)⟩,
 ⟨some 30, none, .pick (.t 22) (.t 29) (.k (.sc (.bool false)))⟩])
 (.cond (.t 30) (.reg [⟨some 31, none, .mv (.t 6)⟩,
 ⟨some 32, none, .ld (some 6) (.t 8)⟩,
 ⟨some 33, none, .call 78 [(.t 32)]⟩,
 ⟨some 34, none, .bsl 6 1 true [.sc (.int .i64 0), .sc (.string ⟨#[]⟩), .sc (.string ⟨#[]⟩), .sc (.int .i64 0), .sc (.bool false), .sc (.slice none 0 0)] [(0, 6, (.t 33))]⟩,
 ⟨some 35, none, .app 6 80 (.t 31) (.t 34)⟩,
 ⟨some 6, none, .mv (.t 35)⟩])
 .skip))))
 (.reg [⟨some 36, none, .bin .add false (.t 12) (.k (.sc (.int .i64 1))) (pu (.binOp .add 3 (.tmp 12) (.const (.int .i64 1)) 3) 3)⟩,
 ⟨some 12, none, .mv (.t 36)⟩])))))))
 (.seq (.drw [0, 0, 2, 6, 1, 31] [⟨some 37, none, .mv (.t 6)⟩,
 ⟨some 38, none, .sh 3 (.t 2)⟩,
 ⟨some 39, none, .ld none (.t 38)⟩,
 ⟨some 40, none, .bin .sub false (.t 39) (.k (.sc (.int .i64 1))) (pu (.binOp .sub 3 (.tmp 39) (.const (.int .i64 1)) 3) 3)⟩,
 ⟨some 4, none, .mv (.t 37)⟩,
 ⟨some 5, none, .mv (.t 40)⟩])
 .ret))))
def k66 : List Nat := [0, 1, 2, 4, 5, 6, 7, 8, 10, 11, 12, 13, 30]
theorem ic66 : factsI Try.prog 66 = some (41, [.tmp 4, .tmp 5], c66) := by kernel_rfl
def c67 : IC :=
 (.seq (.reg [⟨some 2, none, .bx (.t 0)⟩,
 ⟨some 4, none, .al (.agg [.sc (.string ⟨#[]⟩), .sc (.slice none 0 0), .sc (.slice none 0 0), .sc (.int .i64 0)]) 4⟩,
 ⟨some 5, none, .mv (.k (.sc (.int .i64 0)))⟩])
 (.seq (.reg [⟨some 12, none, .ld (some 4) (.t 2)⟩,
 ⟨some 13, none, .call 79 [(.t 12)]⟩,
 ⟨some 6, none, .al (.agg [(.sc (.map none)), .sc (.int .i64 0)]) 2⟩,
 ⟨none, none, .st 2 (.t 6) (.t 13)⟩])
 (.seq (.reg [⟨some 7, none, .mv (.k (.sc (.int .i64 0)))⟩])
 (.seq (.seq (.reg [⟨some 14, none, .mv (.t 1)⟩,
 ⟨some 15, none, .len (.t 14) (pu (.call ⟨.builtin .len, #[(.tmp 14)], #[22]⟩) 3)⟩,
 ⟨some 16, none, .mv (.k (.sc (.int .i64 0)))⟩])
 (.block 0 (.loop (.seq (.reg [⟨some 17, none, .bin .lss false (.t 16) (.t 15) (pu (.binOp .lss 3 (.tmp 16) (.tmp 15) 3) 0)⟩])
 (.seq (.cond (.t 17) .skip
 (.exit 0))
 (.seq (.block 1 (.seq (.reg [⟨some 18, none, .ixs 6 (.t 14) (.t 16)⟩,
 ⟨some 19, none, .ld (some 6) (.t 18)⟩,
 ⟨some 9, none, .al (.agg [.sc (.int .i64 0), .sc (.string ⟨#[]⟩), .sc (.string ⟨#[]⟩), .sc (.int .i64 0), .sc (.bool false), .sc (.slice none 0 0)]) 6⟩,
 ⟨none, none, .st 6 (.t 9) (.t 19)⟩])
 (.seq (.seq (.reg [⟨some 20, none, .ld (some 6) (.t 9)⟩,
 ⟨some 21, none, .call 47 [(.t 20)]⟩,
 ⟨some 22, none, .bin .neq false (.t 21) (.k (.sc (.int .i64 0))) (pu (.binOp .neq 32 (.tmp 21) (.const (.int .i64 0)) 32) 4)⟩,
 ⟨some 23, none, .mv (.t 22)⟩,
 ⟨some 24, (some ((some 23), false)), .sh 2 (.t 9)⟩,
 ⟨some 25, (some ((some 23), false)), .ld none (.t 24)⟩,
 ⟨some 26, (some ((some 23), false)), .sh 0 (.t 2)⟩,
 ⟨some 27, (some ((some 23), false)), .ld none (.t 26)⟩,
 ⟨some 28, (some ((some 23), false)), .bin .eql false (.t 25) (.t 27) (pu (.binOp .eql 9 (.tmp 25) (.tmp 27) 9) 4)⟩,
 ⟨some 29, none, .pick (.t 23) (.k (.sc (.bool true))) (.t 28)⟩])
 (.cond (.t 29) (.exit 1)
 .skip))
 (.seq (.drw [0, 1, 0, 4, 15, 31, 63, 63, 0, 383, 1023] [⟨some 31, none, .sh 0 (.t 6)⟩,
 ⟨some 32, none, .ld none (.t 31)⟩,
 ⟨some 33, none, .ld (some 6) (.t 9)⟩,
 ⟨some 34, none, .call 48 [(.t 33)]⟩,
 ⟨some 35, none, .mlk true [(.i .i64), .s, .s] (.agg [.sc (.int .i64 0), .sc (.string ⟨#[]⟩), .sc (.string ⟨#[]⟩), .sc (.int .i64 0), .sc (.bool false), .sc (.slice none 0 0), .sc (.int .i64 0)]) true (.t 32) (.t 34) (pu (.lookup 109 (.tmp 32) (.tmp 34) true) 115)⟩,
 ⟨some 30, none, .mv (.t 35)⟩,
 ⟨some 36, none, .ext (.t 30) 0⟩,
 ⟨some 37, none, .ext (.t 30) 1⟩,
 ⟨some 10, none, .al (.agg [.sc (.int .i64 0), .sc (.string ⟨#[]⟩), .sc (.string ⟨#[]⟩), .sc (.int .i64 0), .sc (.bool false), .sc (.slice none 0 0), .sc (.int .i64 0)]) 7⟩,
 ⟨none, none, .st 7 (.t 10) (.t 36)⟩,
 ⟨some 11, none, .mv (.t 37)⟩])
 (.seq (.seq (.reg [⟨some 38, none, .mv (.t 11)⟩,
 ⟨some 39, none, .mv (.t 38)⟩,
 ⟨some 40, (some ((some 39), true)), .sh 0 (.t 10)⟩,
 ⟨some 41, (some ((some 39), true)), .sh 3 (.t 40)⟩,
 ⟨some 42, (some ((some 39), true)), .ld none (.t 41)⟩,
 ⟨some 43, (some ((some 39), true)), .sh 3 (.t 9)⟩,
 ⟨some 44, (some ((some 39), true)), .ld none (.t 43)⟩,
 ⟨some 45, (some ((some 39), true)), .bin .geq false (.t 42) (.t 44) (pu (.binOp .geq 3 (.tmp 42) (.tmp 44) 3) 4)⟩,
 ⟨some 46, none, .pick (.t 39) (.t 45) (.k (.sc (.bool false)))⟩,
 ⟨some 47, none, .mv (.t 46)⟩,
 ⟨some 48, (some ((some 47), false)), .mv (.t 11)⟩,
 ⟨some 49, (some ((some 47), false)), .un .not (.t 48) (pu (.unOp .not 4 (.tmp 48)) 4)⟩,
 ⟨some 50, (some ((some 47), false)), .mv (.t 49)⟩,
 ⟨some 51, (some ((some 50), true)), .sh 0 (.t 6)⟩,
 ⟨some 52, (some ((some 50), true)), .ld none (.t 51)⟩,
 ⟨some 53, (some ((some 50), true)), .mln (.t 52) (pu (.call ⟨.builtin .len, #[(.tmp 52)], #[109]⟩) 3)⟩,
 ⟨some 54, (some ((some 50), true)), .bin .geq false (.t 53) (.k (.sc (.int .i64 256))) (pu (.binOp .geq 3 (.tmp 53) (.const (.int .i64 256)) 3) 4)⟩,
 ⟨some 55, (some ((some 47), false)), .pick (.t 50) (.t 54) (.k (.sc (.bool false)))⟩,
 ⟨some 56, none, .pick (.t 47) (.k (.sc (.bool true))) (.t 55)⟩])
 (.cond (.t 56) (.exit 1)
 .skip))
 (.seq (.reg [⟨some 57, none, .ld (some 6) (.t 9)⟩,
 ⟨some 58, none, .call 80 [(.t 6), (.t 57)]⟩])
 (.reg [⟨some 59, none, .mv (.t 7)⟩,
 ⟨some 60, none, .bin .add false (.t 59) (.k (.sc (.int .i64 1))) (pu (.binOp .add 3 (.tmp 59) (.const (.int .i64 1)) 3) 3)⟩,
 ⟨some 7, none, .mv (.t 60)⟩])))))))
 (.reg [⟨some 61, none, .bin .add false (.t 16) (.k (.sc (.int .i64 1))) (pu (.binOp .add 3 (.tmp 16) (.const (.int .i64 1)) 3) 3)⟩,
 ⟨some 16, none, .mv (.t 61)⟩])))))))
 (.seq (.reg [⟨some 62, none, .sh 0 (.t 2)⟩,
 ⟨some 63, none, .ld none (.t 62)⟩,
 ⟨some 64, none, .call 81 [(.t 6), (.t 63)]⟩,
 ⟨some 65, none, .mv (.t 7)⟩,
 ⟨none, none, .st 4 (.t 4) (.t 64)⟩,
 ⟨some 5, none, .mv (.t 65)⟩])
 .ret)))))
def k67 : List Nat := [0, 1, 2, 4, 5, 6, 7, 9, 10, 11, 14, 15, 16, 17, 29, 56]
theorem ic67 : factsI Try.prog 67 = some (66, [.cell 4 25, .tmp 5], c67) := by kernel_rfl
def c68 : IC :=
 (.seq (.reg [⟨some 4, none, .bx (.t 1)⟩,
 ⟨some 5, none, .bx (.t 2)⟩,
 ⟨some 6, none, .mv (.k (.sc (.slice none 0 0)))⟩])
 (.seq (.reg [⟨some 13, none, .ld (some 7) (.t 5)⟩,
 ⟨some 14, none, .call 65 [(.t 13)]⟩,
 ⟨some 7, none, .mv (.t 14)⟩])
 (.seq (.reg [⟨some 8, none, .mv (.k (.sc (.slice none 0 0)))⟩])
 (.seq (.seq (.reg [⟨some 15, none, .sh 5 (.t 4)⟩,
 ⟨some 16, none, .ld none (.t 15)⟩,
 ⟨some 17, none, .len (.t 16) (pu (.call ⟨.builtin .len, #[(.tmp 16)], #[26]⟩) 3)⟩,
 ⟨some 18, none, .mv (.k (.sc (.int .i64 0)))⟩])
 (.block 0 (.loop (.seq (.reg [⟨some 19, none, .bin .lss false (.t 18) (.t 17) (pu (.binOp .lss 3 (.tmp 18) (.tmp 17) 3) 0)⟩])
 (.seq (.cond (.t 19) .skip
 (.exit 0))
 (.seq (.block 1 (.seq (.reg [⟨some 20, none, .ixs 14 (.t 16) (.t 18)⟩,
 ⟨some 21, none, .ld (some 14) (.t 20)⟩,
 ⟨some 10, none, .al (.agg [.sc (.string ⟨#[]⟩), .sc (.string ⟨#[]⟩), .sc (.string ⟨#[]⟩), .sc (.string ⟨#[]⟩), .sc (.int .i64 0), .sc (.int .i64 0), .sc (.int .i64 0), .sc (.int .i64 0), .sc (.string ⟨#[]⟩), .sc (.string ⟨#[]⟩), .sc (.slice none 0 0), .sc (.int .i64 0), .sc (.bool false), .sc (.string ⟨#[]⟩)]) 14⟩,
 ⟨none, none, .st 14 (.t 10) (.t 21)⟩])
 (.seq (.reg [⟨some 23, none, .mv (.t 7)⟩,
 ⟨some 24, none, .sh 0 (.t 10)⟩,
 ⟨some 25, none, .ld none (.t 24)⟩,
 ⟨some 26, none, .mlk false [.s] (.agg [.sc (.string ⟨#[]⟩), .sc (.string ⟨#[]⟩), .sc (.string ⟨#[]⟩), .sc (.string ⟨#[]⟩), .sc (.int .i64 0), .sc (.int .i64 0), .sc (.int .i64 0), .sc (.int .i64 0), .sc (.string ⟨#[]⟩), .sc (.string ⟨#[]⟩), .sc (.slice none 0 0), .sc (.int .i64 0), .sc (.bool false), .sc (.string ⟨#[]⟩)]) true (.t 23) (.t 25) (pu (.lookup 56 (.tmp 23) (.tmp 25) true) 59)⟩,
 ⟨some 22, none, .mv (.t 26)⟩,
 ⟨some 27, none, .ext (.t 22) 0⟩,
 ⟨some 28, none, .ext (.t 22) 1⟩,
 ⟨some 11, none, .al (.agg [.sc (.string ⟨#[]⟩), .sc (.string ⟨#[]⟩), .sc (.string ⟨#[]⟩), .sc (.string ⟨#[]⟩), .sc (.int .i64 0), .sc (.int .i64 0), .sc (.int .i64 0), .sc (.int .i64 0), .sc (.string ⟨#[]⟩), .sc (.string ⟨#[]⟩), .sc (.slice none 0 0), .sc (.int .i64 0), .sc (.bool false), .sc (.string ⟨#[]⟩)]) 14⟩,
 ⟨none, none, .st 14 (.t 11) (.t 27)⟩,
 ⟨some 12, none, .mv (.t 28)⟩])
 (.seq (.reg [⟨some 29, none, .mv (.t 12)⟩,
 ⟨some 30, none, .un .not (.t 29) (pu (.unOp .not 4 (.tmp 29)) 4)⟩,
 ⟨some 31, none, .mv (.t 30)⟩,
 ⟨some 32, (some ((some 31), true)), .ld (some 14) (.t 10)⟩,
 ⟨some 33, (some ((some 31), true)), .sh 0 (.t 4)⟩,
 ⟨some 34, (some ((some 31), true)), .ld none (.t 33)⟩,
 ⟨some 35, (some ((some 31), true)), .sh 0 (.t 5)⟩,
 ⟨some 36, (some ((some 31), true)), .ld none (.t 35)⟩,
 ⟨some 37, (some ((some 31), true)), .call 57 [(.t 32), (.t 34), (.t 36)]⟩,
 ⟨some 38, none, .pick (.t 31) (.t 37) (.k (.sc (.bool false)))⟩])
 (.cond (.t 38) (.reg [⟨some 39, none, .mv (.t 8)⟩,
 ⟨some 40, none, .ld (some 14) (.t 10)⟩,
 ⟨some 41, none, .call 39 [(.t 40)]⟩,
 ⟨some 42, none, .bsl 14 1 true [.sc (.string ⟨#[]⟩), .sc (.string ⟨#[]⟩), .sc (.string ⟨#[]⟩), .sc (.string ⟨#[]⟩), .sc (.int .i64 0), .sc (.int .i64 0), .sc (.int .i64 0), .sc (.int .i64 0), .sc (.string ⟨#[]⟩), .sc (.string ⟨#[]⟩), .sc (.slice none 0 0), .sc (.int .i64 0), .sc (.bool false), .sc (.string ⟨#[]⟩)] [(0, 14, (.t 41))]⟩,
 ⟨some 43, none, .app 14 184 (.t 39) (.t 42)⟩,
 ⟨some 8, none, .mv (.t 43)⟩])
 .skip)))))
 (.reg [⟨some 44, none, .bin .add false (.t 18) (.k (.sc (.int .i64 1))) (pu (.binOp .add 3 (.tmp 18) (.const (.int .i64 1)) 3) 3)⟩,
 ⟨some 18, none, .mv (.t 44)⟩])))))))
 (.seq (.reg [⟨some 45, none, .mv (.t 8)⟩,
 ⟨some 6, none, .mv (.t 45)⟩])
 .ret)))))
def k68 : List Nat := [1, 2, 4, 5, 6, 7, 8, 10, 12, 16, 17, 18, 19, 38]
theorem ic68 : factsI Try.prog 68 = some (46, [.tmp 6], c68) := by kernel_rfl
def c69 : IC :=
 (.seq (.reg [⟨some 4, none, .mv (.k (.sc (.slice none 0 0)))⟩])
 (.seq (.reg [⟨some 13, none, .mv (.t 0)⟩,
 ⟨some 14, none, .len (.t 13) (pu (.call ⟨.builtin .len, #[(.tmp 13)], #[27]⟩) 3)⟩,
 ⟨some 15, none, .mmk (some (.t 14))⟩,
 ⟨some 5, none, .mv (.t 15)⟩])
 (.seq (.seq (.reg [⟨some 16, none, .mv (.t 0)⟩,
 ⟨some 17, none, .len (.t 16) (pu (.call ⟨.builtin .len, #[(.tmp 16)], #[27]⟩) 3)⟩,
 ⟨some 18, none, .mv (.k (.sc (.int .i64 0)))⟩])
 (.block 0 (.loop (.seq (.reg [⟨some 19, none, .bin .lss false (.t 18) (.t 17) (pu (.binOp .lss 3 (.tmp 18) (.tmp 17) 3) 0)⟩])
 (.seq (.cond (.t 19) .skip
 (.exit 0))
 (.seq (.block 1 (.seq (.reg [⟨some 20, none, .mv (.t 18)⟩,
 ⟨some 21, none, .ixs 6 (.t 16) (.t 18)⟩,
 ⟨some 22, none, .ld (some 6) (.t 21)⟩,
 ⟨some 7, none, .al (.agg [.sc (.string ⟨#[]⟩), .sc (.string ⟨#[]⟩), .sc (.int .i64 0), .sc (.int .i64 0), .sc (.int .i64 0), .sc (.int .i64 0)]) 6⟩,
 ⟨some 6, none, .mv (.t 20)⟩,
 ⟨none, none, .st 6 (.t 7) (.t 22)⟩])
 (.reg [⟨some 23, none, .mv (.t 5)⟩,
 ⟨some 24, none, .sh 0 (.t 7)⟩,
 ⟨some 25, none, .ld none (.t 24)⟩,
 ⟨some 26, none, .mv (.t 6)⟩,
 ⟨none, none, .mpt false [.s] (.t 23) (.t 25) (.t 26)⟩])))
 (.reg [⟨some 27, none, .bin .add false (.t 18) (.k (.sc (.int .i64 1))) (pu (.binOp .add 3 (.tmp 18) (.const (.int .i64 1)) 3) 3)⟩,
 ⟨some 18, none, .mv (.t 27)⟩])))))))
 (.seq (.reg [⟨some 28, none, .mv (.t 0)⟩,
 ⟨some 29, none, .app 6 64 (.k (.sc (.slice none 0 0))) (.t 28)⟩,
 ⟨some 8, none, .mv (.t 29)⟩])
 (.seq (.seq (.reg [⟨some 30, none, .mv (.t 1)⟩,
 ⟨some 31, none, .len (.t 30) (pu (.call ⟨.builtin .len, #[(.tmp 30)], #[27]⟩) 3)⟩,
 ⟨some 32, none, .mv (.k (.sc (.int .i64 0)))⟩])
 (.block 2 (.loop (.seq (.reg [⟨some 33, none, .bin .lss false (.t 32) (.t 31) (pu (.binOp .lss 3 (.tmp 32) (.tmp 31) 3) 0)⟩])
 (.seq (.cond (.t 33) .skip
 (.exit 2))
 (.seq (.block 3 (.seq (.reg [⟨some 34, none, .ixs 6 (.t 30) (.t 32)⟩,
 ⟨some 35, none, .ld (some 6) (.t 34)⟩,
 ⟨some 10, none, .al (.agg [.sc (.string ⟨#[]⟩), .sc (.string ⟨#[]⟩), .sc (.int .i64 0), .sc (.int .i64 0), .sc (.int .i64 0), .sc (.int .i64 0)]) 6⟩,
 ⟨none, none, .st 6 (.t 10) (.t 35)⟩])
 (.seq (.reg [⟨some 37, none, .mv (.t 5)⟩,
 ⟨some 38, none, .sh 0 (.t 10)⟩,
 ⟨some 39, none, .ld none (.t 38)⟩,
 ⟨some 40, none, .mlk false [.s] (.sc (.int .i64 0)) true (.t 37) (.t 39) (pu (.lookup 118 (.tmp 37) (.tmp 39) true) 102)⟩,
 ⟨some 36, none, .mv (.t 40)⟩,
 ⟨some 41, none, .ext (.t 36) 0⟩,
 ⟨some 42, none, .ext (.t 36) 1⟩,
 ⟨some 11, none, .mv (.t 41)⟩,
 ⟨some 12, none, .mv (.t 42)⟩])
 (.seq (.reg [⟨some 43, none, .mv (.t 12)⟩])
 (.cond (.t 43) (.drw [0, 0, 0, 0, 12, 28, 0, 124, 255, 511] [⟨some 44, none, .mv (.t 8)⟩,
 ⟨some 45, none, .mv (.t 11)⟩,
 ⟨some 46, none, .mv (.t 8)⟩,
 ⟨some 47, none, .mv (.t 11)⟩,
 ⟨some 48, none, .ixs 6 (.t 46) (.t 47)⟩,
 ⟨some 49, none, .ld (some 6) (.t 48)⟩,
 ⟨some 50, none, .ld (some 6) (.t 10)⟩,
 ⟨some 51, none, .call 82 [(.t 49), (.t 50)]⟩,
 ⟨some 52, none, .ixs 6 (.t 44) (.t 45)⟩,
 ⟨none, none, .st 6 (.t 52) (.t 51)⟩])
 (.reg [⟨some 53, none, .mv (.t 8)⟩,
 ⟨some 54, none, .ld (some 6) (.t 10)⟩,
 ⟨some 55, none, .bsl 6 1 true [.sc (.string ⟨#[]⟩), .sc (.string ⟨#[]⟩), .sc (.int .i64 0), .sc (.int .i64 0), .sc (.int .i64 0), .sc (.int .i64 0)] [(0, 6, (.t 54))]⟩,
 ⟨some 56, none, .app 6 64 (.t 53) (.t 55)⟩,
 ⟨some 8, none, .mv (.t 56)⟩]))))))
 (.reg [⟨some 57, none, .bin .add false (.t 32) (.k (.sc (.int .i64 1))) (pu (.binOp .add 3 (.tmp 32) (.const (.int .i64 1)) 3) 3)⟩,
 ⟨some 32, none, .mv (.t 57)⟩])))))))
 (.seq (.reg [⟨some 58, none, .mv (.t 8)⟩,
 ⟨some 4, none, .mv (.t 58)⟩])
 .ret))))))
def k69 : List Nat := [0, 1, 4, 5, 6, 7, 8, 10, 11, 12, 16, 17, 18, 19, 30, 31, 32, 33, 43]
theorem ic69 : factsI Try.prog 69 = some (59, [.tmp 4], c69) := by kernel_rfl
def c70 : IC :=
 (.seq (.reg [⟨some 4, none, .bx (.t 0)⟩,
 ⟨some 8, none, .mv (.k (.sc (.bool false)))⟩])
 (.seq (.seq (.reg [⟨some 9, none, .mv (.t 1)⟩,
 ⟨some 10, none, .bin .lss false (.t 9) (.k (.sc (.int .i64 1))) (pu (.binOp .lss 3 (.tmp 9) (.const (.int .i64 1)) 3) 4)⟩,
 ⟨some 11, none, .mv (.t 10)⟩,
 ⟨some 12, (some ((some 11), false)), .mv (.t 1)⟩,
 ⟨some 13, (some ((some 11), false)), .bin .gtr false (.t 12) (.k (.sc (.int .i64 5))) (pu (.binOp .gtr 3 (.tmp 12) (.const (.int .i64 5)) 3) 4)⟩,
 ⟨some 14, none, .pick (.t 11) (.k (.sc (.bool true))) (.t 13)⟩])
 (.cond (.t 14) (.seq (.reg [⟨some 8, none, .mv (.k (.sc (.bool false)))⟩])
 .ret)
 .skip))
 (.seq (.seq (.reg [⟨some 15, none, .mv (.t 1)⟩,
 ⟨some 16, none, .bin .eql false (.t 15) (.k (.sc (.int .i64 3))) (pu (.binOp .eql 3 (.tmp 15) (.const (.int .i64 3)) 3) 4)⟩,
 ⟨some 17, none, .mv (.t 16)⟩,
 ⟨some 18, (some ((some 17), true)), .mv (.t 2)⟩,
 ⟨some 19, (some ((some 17), true)), .bin .lss false (.t 18) (.k (.sc (.int .i64 1))) (pu (.binOp .lss 3 (.tmp 18) (.const (.int .i64 1)) 3) 4)⟩,
 ⟨some 20, (some ((some 17), true)), .mv (.t 19)⟩,
 ⟨some 21, (some ((some 20), false)), .mv (.t 2)⟩,
 ⟨some 22, (some ((some 20), false)), .sh 4 (.t 4)⟩,
 ⟨some 23, (some ((some 20), false)), .ld none (.t 22)⟩,
 ⟨some 24, (some ((some 20), false)), .bin .gtr false (.t 21) (.t 23) (pu (.binOp .gtr 3 (.tmp 21) (.tmp 23) 3) 4)⟩,
 ⟨some 25, (some ((some 17), true)), .pick (.t 20) (.k (.sc (.bool true))) (.t 24)⟩,
 ⟨some 26, none, .pick (.t 17) (.t 25) (.k (.sc (.bool false)))⟩,
 ⟨some 27, none, .mv (.t 26)⟩,
 ⟨some 28, (some ((some 27), false)), .mv (.t 1)⟩,
 ⟨some 29, (some ((some 27), false)), .bin .neq false (.t 28) (.k (.sc (.int .i64 3))) (pu (.binOp .neq 3 (.tmp 28) (.const (.int .i64 3)) 3) 4)⟩,
 ⟨some 30, (some ((some 27), false)), .mv (.t 29)⟩,
 ⟨some 31, (some ((some 30), true)), .mv (.t 2)⟩,
 ⟨some 32, (some ((some 30), true)), .bin .neq false (.t 31) (.k (.sc (.int .i64 0))) (pu (.binOp .neq 3 (.tmp 31) (.const (.int .i64 0)) 3) 4)⟩,
 ⟨some 33, (some ((some 27), false)), .pick (.t 30) (.t 32) (.k (.sc (.bool false)))⟩,
 ⟨some 34, none, .pick (.t 27) (.k (.sc (.bool true))) (.t 33)⟩])
 (.cond (.t 34) (.seq (.reg [⟨some 8, none, .mv (.k (.sc (.bool false)))⟩])
 .ret)
 .skip))
 (.seq (.reg [⟨some 35, none, .mv (.t 3)⟩,
 ⟨some 36, none, .sh 3 (.t 4)⟩,
 ⟨some 37, none, .ld none (.t 36)⟩,
 ⟨some 38, none, .bin .geq false (.t 35) (.t 37) (pu (.binOp .geq 3 (.tmp 35) (.tmp 37) 3) 4)⟩,
 ⟨some 39, none, .mv (.t 38)⟩,
 ⟨some 40, (some ((some 39), true)), .mv (.t 3)⟩,
 ⟨some 41, (some ((some 39), true)), .bin .leq false (.t 40) (.k (.sc (.int .i64 268435456))) (pu (.binOp .leq 3 (.tmp 40) (.const (.int .i64 268435456)) 3) 4)⟩,
 ⟨some 42, none, .pick (.t 39) (.t 41) (.k (.sc (.bool false)))⟩,
 ⟨some 8, none, .mv (.t 42)⟩])
 .ret))))
def k70 : List Nat := [0, 1, 2, 3, 4, 8, 14, 34]
theorem ic70 : factsI Try.prog 70 = some (43, [.tmp 8], c70) := by kernel_rfl
def c71 : IC :=
 (.seq (.reg [⟨some 4, none, .mv (.k (.sc (.bool false)))⟩])
 (.seq (.seq (.reg [⟨some 5, none, .mv (.t 0)⟩])
 (.block 0 (.seq (.seq (.reg [⟨some 7, none, .bin .eql false (.t 5) (.k (.sc (.int .i64 2))) (pu (.binOp .eql 3 (.tmp 5) (.const (.int .i64 2)) 3) 4)⟩,
 ⟨some 6, none, .mv (.t 7)⟩])
 (.cond (.t 6) .skip
 (.reg [⟨some 8, none, .bin .eql false (.t 5) (.k (.sc (.int .i64 5))) (pu (.binOp .eql 3 (.tmp 5) (.const (.int .i64 5)) 3) 4)⟩,
 ⟨some 6, none, .mv (.t 8)⟩])))
 (.cond (.t 6) (.seq (.reg [⟨some 9, none, .mv (.t 1)⟩,
 ⟨some 4, none, .mv (.t 9)⟩])
 .ret)
 .skip))))
 (.seq (.reg [⟨some 10, none, .mv (.t 1)⟩,
 ⟨some 11, none, .un .not (.t 10) (pu (.unOp .not 4 (.tmp 10)) 4)⟩,
 ⟨some 4, none, .mv (.t 11)⟩])
 .ret)))
def k71 : List Nat := [0, 1, 4, 5, 6]
theorem ic71 : factsI Try.prog 71 = some (12, [.tmp 4], c71) := by kernel_rfl
def c72 : IC :=
 (.seq (.reg [⟨some 6, none, .mv (.k (.sc (.int .i64 0)))⟩,
 ⟨some 7, none, .mv (.k (.sc (.bool false)))⟩])
 (.seq (.seq (.reg [⟨some 8, none, .mv (.t 1)⟩])
 (.block 0 (.seq (.reg [⟨some 10, none, .bin .eql false (.t 8) (.k (.sc (.int .i64 1))) (pu (.binOp .eql 3 (.tmp 8) (.const (.int .i64 1)) 3) 4)⟩,
 ⟨some 9, none, .mv (.t 10)⟩])
 (.cond (.t 9) (.seq (.reg [⟨some 11, none, .mv (.t 0)⟩,
 ⟨some 12, none, .bin .eql false (.t 11) (.k (.sc (.int .i64 1))) (pu (.binOp .eql 3 (.tmp 11) (.const (.int .i64 1)) 3) 4)⟩,
 ⟨some 6, none, .mv (.k (.sc (.int .i64 2)))⟩,
 ⟨some 7, none, .mv (.t 12)⟩])
 .ret)
 (.seq (.reg [⟨some 14, none, .bin .eql false (.t 8) (.k (.sc (.int .i64 2))) (pu (.binOp .eql 3 (.tmp 8) (.const (.int .i64 2)) 3) 4)⟩,
 ⟨some 13, none, .mv (.t 14)⟩])
 (.cond (.t 13) (.seq (.reg [⟨some 15, none, .mv (.t 0)⟩,
 ⟨some 16, none, .bin .eql false (.t 15) (.k (.sc (.int .i64 2))) (pu (.binOp .eql 3 (.tmp 15) (.const (.int .i64 2)) 3) 4)⟩,
 ⟨some 17, none, .mv (.t 16)⟩,
 ⟨some 18, (some ((some 17), false)), .mv (.t 0)⟩,
 ⟨some 19, (some ((some 17), false)), .bin .eql false (.t 18) (.k (.sc (.int .i64 1))) (pu (.binOp .eql 3 (.tmp 18) (.const (.int .i64 1)) 3) 4)⟩,
 ⟨some 20, (some ((some 17), false)), .mv (.t 19)⟩,
 ⟨some 21, (some ((some 20), true)), .mv (.t 2)⟩,
 ⟨some 22, (some ((some 17), false)), .pick (.t 20) (.t 21) (.k (.sc (.bool false)))⟩,
 ⟨some 23, none, .pick (.t 17) (.k (.sc (.bool true))) (.t 22)⟩,
 ⟨some 6, none, .mv (.k (.sc (.int .i64 3)))⟩,
 ⟨some 7, none, .mv (.t 23)⟩])
 .ret)
 (.seq (.reg [⟨some 25, none, .bin .eql false (.t 8) (.k (.sc (.int .i64 3))) (pu (.binOp .eql 3 (.tmp 8) (.const (.int .i64 3)) 3) 4)⟩,
 ⟨some 24, none, .mv (.t 25)⟩])
 (.cond (.t 24) (.seq (.reg [⟨some 26, none, .mv (.t 0)⟩,
 ⟨some 27, none, .bin .eql false (.t 26) (.k (.sc (.int .i64 1))) (pu (.binOp .eql 3 (.tmp 26) (.const (.int .i64 1)) 3) 4)⟩,
 ⟨some 28, none, .mv (.t 27)⟩,
 ⟨some 29, (some ((some 28), false)), .mv (.t 0)⟩,
 ⟨some 30, (some ((some 28), false)), .bin .eql false (.t 29) (.k (.sc (.int .i64 2))) (pu (.binOp .eql 3 (.tmp 29) (.const (.int .i64 2)) 3) 4)⟩,
 ⟨some 31, none, .pick (.t 28) (.k (.sc (.bool true))) (.t 30)⟩,
 ⟨some 32, none, .mv (.t 31)⟩,
 ⟨some 33, (some ((some 32), false)), .mv (.t 0)⟩,
 ⟨some 34, (some ((some 32), false)), .bin .eql false (.t 33) (.k (.sc (.int .i64 3))) (pu (.binOp .eql 3 (.tmp 33) (.const (.int .i64 3)) 3) 4)⟩,
 ⟨some 35, none, .pick (.t 32) (.k (.sc (.bool true))) (.t 34)⟩,
 ⟨some 6, none, .mv (.k (.sc (.int .i64 4)))⟩,
 ⟨some 7, none, .mv (.t 35)⟩])
 .ret)
 (.seq (.reg [⟨some 37, none, .bin .eql false (.t 8) (.k (.sc (.int .i64 4))) (pu (.binOp .eql 3 (.tmp 8) (.const (.int .i64 4)) 3) 4)⟩,
 ⟨some 36, none, .mv (.t 37)⟩])
 (.cond (.t 36) (.seq (.reg [⟨some 38, none, .mv (.t 0)⟩,
 ⟨some 39, none, .bin .eql false (.t 38) (.k (.sc (.int .i64 2))) (pu (.binOp .eql 3 (.tmp 38) (.const (.int .i64 2)) 3) 4)⟩,
 ⟨some 40, none, .mv (.t 39)⟩,
 ⟨some 41, (some ((some 40), false)), .mv (.t 0)⟩,
 ⟨some 42, (some ((some 40), false)), .bin .eql false (.t 41) (.k (.sc (.int .i64 3))) (pu (.binOp .eql 3 (.tmp 41) (.const (.int .i64 3)) 3) 4)⟩,
 ⟨some 43, none, .pick (.t 40) (.k (.sc (.bool true))) (.t 42)⟩,
 ⟨some 6, none, .mv (.k (.sc (.int .i64 5)))⟩,
 ⟨some 7, none, .mv (.t 43)⟩])
 .ret)
 (.seq (.reg [⟨some 45, none, .bin .eql false (.t 8) (.k (.sc (.int .i64 5))) (pu (.binOp .eql 3 (.tmp 8) (.const (.int .i64 5)) 3) 4)⟩,
 ⟨some 44, none, .mv (.t 45)⟩])
 (.cond (.t 44) (.seq (.reg [⟨some 46, none, .mv (.t 0)⟩,
 ⟨some 47, none, .bin .eql false (.t 46) (.k (.sc (.int .i64 1))) (pu (.binOp .eql 3 (.tmp 46) (.const (.int .i64 1)) 3) 4)⟩,
 ⟨some 48, none, .mv (.t 47)⟩,
 ⟨some 49, (some ((some 48), false)), .mv (.t 0)⟩,
 ⟨some 50, (some ((some 48), false)), .bin .eql false (.t 49) (.k (.sc (.int .i64 2))) (pu (.binOp .eql 3 (.tmp 49) (.const (.int .i64 2)) 3) 4)⟩,
 ⟨some 51, none, .pick (.t 48) (.k (.sc (.bool true))) (.t 50)⟩,
 ⟨some 52, none, .mv (.t 51)⟩,
 ⟨some 53, (some ((some 52), false)), .mv (.t 0)⟩,
 ⟨some 54, (some ((some 52), false)), .bin .eql false (.t 53) (.k (.sc (.int .i64 3))) (pu (.binOp .eql 3 (.tmp 53) (.const (.int .i64 3)) 3) 4)⟩,
 ⟨some 55, none, .pick (.t 52) (.k (.sc (.bool true))) (.t 54)⟩,
 ⟨some 6, none, .mv (.k (.sc (.int .i64 6)))⟩,
 ⟨some 7, none, .mv (.t 55)⟩])
 .ret)
 .skip))))))))))))
 (.seq (.reg [⟨some 6, none, .mv (.k (.sc (.int .i64 0)))⟩,
 ⟨some 7, none, .mv (.k (.sc (.bool false)))⟩])
 .ret)))
def k72 : List Nat := [0, 1, 2, 6, 7, 8, 9, 13, 24, 36, 44]
theorem ic72 : factsI Try.prog 72 = some (56, [.tmp 6, .tmp 7], c72) := by kernel_rfl
def c73 : IC :=
 (.seq (.reg [⟨some 2, none, .mv (.k (.sc (.int .u8 0)))⟩])
 (.seq (.seq (.reg [⟨some 3, none, .mv (.t 0)⟩,
 ⟨some 4, none, .bin .geq false (.t 3) (.k (.sc (.int .u8 97))) (pu (.binOp .geq 5 (.tmp 3) (.const (.int .u8 97)) 5) 4)⟩,
 ⟨some 5, none, .mv (.t 4)⟩,
 ⟨some 6, (some ((some 5), true)), .mv (.t 0)⟩,
 ⟨some 7, (some ((some 5), true)), .bin .leq false (.t 6) (.k (.sc (.int .u8 122))) (pu (.binOp .leq 5 (.tmp 6) (.const (.int .u8 122)) 5) 4)⟩,
 ⟨some 8, none, .pick (.t 5) (.t 7) (.k (.sc (.bool false)))⟩])
 (.cond (.t 8) (.seq (.reg [⟨some 9, none, .mv (.t 0)⟩,
 ⟨some 10, none, .bin .sub false (.t 9) (.k (.sc (.int .u8 32))) (pu (.binOp .sub 5 (.tmp 9) (.const (.int .u8 32)) 5) 5)⟩,
 ⟨some 2, none, .mv (.t 10)⟩])
 .ret)
 .skip))
 (.seq (.reg [⟨some 11, none, .mv (.t 0)⟩,
 ⟨some 2, none, .mv (.t 11)⟩])
 .ret)))
def k73 : List Nat := [0, 2, 8]
theorem ic73 : factsI Try.prog 73 = some (12, [.tmp 2], c73) := by kernel_rfl
def c74 : IC :=
 (.seq (.reg [⟨some 6, none, .mv (.k (.sc (.bool false)))⟩])
 (.seq (.reg [⟨some 7, none, .mv (.t 0)⟩,
 ⟨some 8, none, .mv (.t 1)⟩,
 ⟨some 9, none, .bin .geq false (.t 7) (.t 8) (pu (.binOp .geq 3 (.tmp 7) (.tmp 8) 3) 4)⟩,
 ⟨some 10, none, .mv (.t 9)⟩,
 ⟨some 11, (some ((some 10), true)), .mv (.t 0)⟩,
 ⟨some 12, (some ((some 10), true)), .mv (.t 2)⟩,
 ⟨some 13, (some ((some 10), true)), .bin .leq false (.t 11) (.t 12) (pu (.binOp .leq 3 (.tmp 11) (.tmp 12) 3) 4)⟩,
 ⟨some 14, none, .pick (.t 10) (.t 13) (.k (.sc (.bool false)))⟩,
 ⟨some 6, none, .mv (.t 14)⟩])
 .ret))
def k74 : List Nat := [0, 1, 2, 6]
theorem ic74 : factsI Try.prog 74 = some (15, [.tmp 6], c74) := by kernel_rfl
def c75 : IC :=
 (.seq (.reg [⟨some 2, none, .mv (.k (.sc (.bool false)))⟩])
 (.seq (.seq (.reg [⟨some 3, none, .mv (.k (.sc (.int .i64 0)))⟩])
 (.block 0 (.loop (.seq (.seq (.reg [⟨some 4, none, .mv (.t 3)⟩,
 ⟨some 5, none, .mv (.t 0)⟩,
 ⟨some 6, none, .lens (.t 5) (pu (.call ⟨.builtin .len, #[(.tmp 5)], #[9]⟩) 3)⟩,
 ⟨some 7, none, .bin .lss false (.t 4) (.t 6) (pu (.binOp .lss 3 (.tmp 4) (.tmp 6) 3) 4)⟩])
 (.cond (.t 7) .skip
 (.exit 0)))
 (.seq (.block 1 (.seq (.reg [⟨some 10, none, .mv (.t 0)⟩,
 ⟨some 11, none, .mv (.t 3)⟩,
 ⟨some 12, none, .pur (pu (.index 9 (.tmp 10) (.tmp 11)) 5)⟩,
 ⟨some 13, none, .bin .lss false (.t 12) (.k (.sc (.int .u8 65))) (pu (.binOp .lss 5 (.tmp 12) (.const (.int .u8 65)) 5) 4)⟩,
 ⟨some 14, none, .mv (.t 13)⟩,
 ⟨some 15, (some ((some 14), false)), .mv (.t 0)⟩,
 ⟨some 16, (some ((some 14), false)), .mv (.t 3)⟩,
 ⟨some 17, (some ((some 14), false)), .pur (pu (.index 9 (.tmp 15) (.tmp 16)) 5)⟩,
 ⟨some 18, (some ((some 14), false)), .bin .gtr false (.t 17) (.k (.sc (.int .u8 90))) (pu (.binOp .gtr 5 (.tmp 17) (.const (.int .u8 90)) 5) 4)⟩,
 ⟨some 19, none, .pick (.t 14) (.k (.sc (.bool true))) (.t 18)⟩])
 (.cond (.t 19) (.seq (.reg [⟨some 2, none, .mv (.k (.sc (.bool false)))⟩])
 .ret)
 .skip)))
 (.reg [⟨some 8, none, .mv (.t 3)⟩,
 ⟨some 9, none, .bin .add false (.t 8) (.k (.sc (.int .i64 1))) (pu (.binOp .add 3 (.tmp 8) (.const (.int .i64 1)) 3) 3)⟩,
 ⟨some 3, none, .mv (.t 9)⟩]))))))
 (.seq (.reg [⟨some 20, none, .mv (.t 0)⟩,
 ⟨some 21, none, .lens (.t 20) (pu (.call ⟨.builtin .len, #[(.tmp 20)], #[9]⟩) 3)⟩,
 ⟨some 22, none, .bin .eql false (.t 21) (.k (.sc (.int .i64 3))) (pu (.binOp .eql 3 (.tmp 21) (.const (.int .i64 3)) 3) 4)⟩,
 ⟨some 2, none, .mv (.t 22)⟩])
 .ret)))
def k75 : List Nat := [0, 2, 3, 7, 19]
theorem ic75 : factsI Try.prog 75 = some (23, [.tmp 2], c75) := by kernel_rfl
def c76 : IC :=
 (.seq (.reg [⟨some 1, none, .bx (.t 0)⟩,
 ⟨some 2, none, .mv (.k (.sc (.bool false)))⟩])
 (.seq (.reg [⟨some 3, none, .sh 0 (.t 1)⟩,
 ⟨some 4, none, .ld none (.t 3)⟩,
 ⟨some 5, none, .call 74 [(.t 4), (.k (.sc (.int .i64 1))), (.k (.sc (.int .i64 4)))]⟩,
 ⟨some 6, none, .mv (.t 5)⟩,
 ⟨some 7, (some ((some 6), true)), .sh 2 (.t 1)⟩,
 ⟨some 8, (some ((some 6), true)), .ld none (.t 7)⟩,
 ⟨some 9, (some ((some 6), true)), .call 74 [(.t 8), (.k (.sc (.int .i64 0))), (.k (.sc (.int .i64 10000)))]⟩,
 ⟨some 10, none, .pick (.t 6) (.t 9) (.k (.sc (.bool false)))⟩,
 ⟨some 11, none, .mv (.t 10)⟩,
 ⟨some 12, (some ((some 11), true)), .sh 4 (.t 1)⟩,
 ⟨some 13, (some ((some 11), true)), .ld none (.t 12)⟩,
 ⟨some 14, (some ((some 11), true)), .call 74 [(.t 13), (.k (.sc (.int .i64 (-36028797018963968)))), (.k (.sc (.int .i64 36028797018963968)))]⟩,
 ⟨some 15, none, .pick (.t 11) (.t 14) (.k (.sc (.bool false)))⟩,
 ⟨some 16, none, .mv (.t 15)⟩,
 ⟨some 17, (some ((some 16), true)), .sh 5 (.t 1)⟩,
 ⟨some 18, (some ((some 16), true)), .ld none (.t 17)⟩,
 ⟨some 19, (some ((some 16), true)), .call 74 [(.t 18), (.k (.sc (.int .i64 (-36028797018963968)))), (.k (.sc (.int .i64 36028797018963968)))]⟩,
 ⟨some 20, none, .pick (.t 16) (.t 19) (.k (.sc (.bool false)))⟩,
 ⟨some 21, none, .mv (.t 20)⟩,
 ⟨some 22, (some ((some 21), true)), .sh 1 (.t 1)⟩,
 ⟨some 23, (some ((some 21), true)), .ld none (.t 22)⟩,
 ⟨some 24, (some ((some 21), true)), .call 74 [(.t 23), (.k (.sc (.int .i64 (-36028797018963968)))), (.k (.sc (.int .i64 36028797018963968)))]⟩,
 ⟨some 25, none, .pick (.t 21) (.t 24) (.k (.sc (.bool false)))⟩,
 ⟨some 26, none, .mv (.t 25)⟩,
 ⟨some 27, (some ((some 26), true)), .sh 3 (.t 1)⟩,
 ⟨some 28, (some ((some 26), true)), .ld none (.t 27)⟩,
 ⟨some 29, (some ((some 26), true)), .call 74 [(.t 28), (.k (.sc (.int .i64 0))), (.k (.sc (.int .i64 36028797018963968)))]⟩,
 ⟨some 30, none, .pick (.t 26) (.t 29) (.k (.sc (.bool false)))⟩,
 ⟨some 31, none, .mv (.t 30)⟩,
 ⟨some 32, (some ((some 31), true)), .sh 6 (.t 1)⟩,
 ⟨some 33, (some ((some 31), true)), .ld none (.t 32)⟩,
 ⟨some 34, (some ((some 31), true)), .sh 4 (.t 1)⟩,
 ⟨some 35, (some ((some 31), true)), .ld none (.t 34)⟩,
 ⟨some 36, (some ((some 31), true)), .sh 5 (.t 1)⟩,
 ⟨some 37, (some ((some 31), true)), .ld none (.t 36)⟩,
 ⟨some 38, (some ((some 31), true)), .bin .add false (.t 35) (.t 37) (pu (.binOp .add 3 (.tmp 35) (.tmp 37) 3) 3)⟩,
 ⟨some 39, (some ((some 31), true)), .bin .eql false (.t 33) (.t 38) (pu (.binOp .eql 3 (.tmp 33) (.tmp 38) 3) 4)⟩,
 ⟨some 40, none, .pick (.t 31) (.t 39) (.k (.sc (.bool false)))⟩,
 ⟨some 2, none, .mv (.t 40)⟩])
 .ret))
def k76 : List Nat := [0, 1, 2]
theorem ic76 : factsI Try.prog 76 = some (41, [.tmp 2], c76) := by kernel_rfl
def c77 : IC :=
 (.seq (.reg [⟨some 1, none, .bx (.t 0)⟩,
 ⟨some 2, none, .mv (.k (.sc (.bool false)))⟩])
 (.seq (.reg [⟨some 3, none, .sh 0 (.t 1)⟩,
 ⟨some 4, none, .ld none (.t 3)⟩,
 ⟨some 5, none, .bsl 1 1 false [.sc (.int .i64 0)] [(0, 1, (.t 4))]⟩,
 ⟨some 6, none, .call 61 [(.k (.sc (.int .i64 1))), (.k (.sc (.int .i64 4))), (.t 5)]⟩,
 ⟨some 7, none, .mv (.t 6)⟩,
 ⟨some 8, (some ((some 7), true)), .sh 2 (.t 1)⟩,
 ⟨some 9, (some ((some 7), true)), .ld none (.t 8)⟩,
 ⟨some 10, (some ((some 7), true)), .bsl 1 1 false [.sc (.int .i64 0)] [(0, 1, (.t 9))]⟩,
 ⟨some 11, (some ((some 7), true)), .call 61 [(.k (.sc (.int .i64 0))), (.k (.sc (.int .i64 10000))), (.t 10)]⟩,
 ⟨some 12, none, .pick (.t 7) (.t 11) (.k (.sc (.bool false)))⟩,
 ⟨some 13, none, .mv (.t 12)⟩,
 ⟨some 14, (some ((some 13), true)), .sh 4 (.t 1)⟩,
 ⟨some 15, (some ((some 13), true)), .ld none (.t 14)⟩,
 ⟨some 16, (some ((some 13), true)), .sh 5 (.t 1)⟩,
 ⟨some 17, (some ((some 13), true)), .ld none (.t 16)⟩,
 ⟨some 18, (some ((some 13), true)), .sh 1 (.t 1)⟩,
 ⟨some 19, (some ((some 13), true)), .ld none (.t 18)⟩,
 ⟨some 20, (some ((some 13), true)), .bsl 1 3 false [.sc (.int .i64 0), .sc (.int .i64 0), .sc (.int .i64 0)] [(0, 1, (.t 15)), (1, 1, (.t 17)), (2, 1, (.t 19))]⟩,
 ⟨some 21, (some ((some 13), true)), .call 61 [(.k (.sc (.int .i64 (-36028797018963968)))), (.k (.sc (.int .i64 36028797018963968))), (.t 20)]⟩,
 ⟨some 22, none, .pick (.t 13) (.t 21) (.k (.sc (.bool false)))⟩,
 ⟨some 23, none, .mv (.t 22)⟩,
 ⟨some 24, (some ((some 23), true)), .sh 3 (.t 1)⟩,
 ⟨some 25, (some ((some 23), true)), .ld none (.t 24)⟩,
 ⟨some 26, (some ((some 23), true)), .bsl 1 1 false [.sc (.int .i64 0)] [(0, 1, (.t 25))]⟩,
 ⟨some 27, (some ((some 23), true)), .call 61 [(.k (.sc (.int .i64 0))), (.k (.sc (.int .i64 36028797018963968))), (.t 26)]⟩,
 ⟨some 28, none, .pick (.t 23) (.t 27) (.k (.sc (.bool false)))⟩,
 ⟨some 29, none, .mv (.t 28)⟩,
 ⟨some 30, (some ((some 29), true)), .sh 6 (.t 1)⟩,
 ⟨some 31, (some ((some 29), true)), .ld none (.t 30)⟩,
 ⟨some 32, (some ((some 29), true)), .sh 4 (.t 1)⟩,
 ⟨some 33, (some ((some 29), true)), .ld none (.t 32)⟩,
 ⟨some 34, (some ((some 29), true)), .sh 5 (.t 1)⟩,
 ⟨some 35, (some ((some 29), true)), .ld none (.t 34)⟩,
 ⟨some 36, (some ((some 29), true)), .bin .add false (.t 33) (.t 35) (pu (.binOp .add 3 (.tmp 33) (.tmp 35) 3) 3)⟩,
 ⟨some 37, (some ((some 29), true)), .bin .eql false (.t 31) (.t 36) (pu (.binOp .eql 3 (.tmp 31) (.tmp 36) 3) 4)⟩,
 ⟨some 38, none, .pick (.t 29) (.t 37) (.k (.sc (.bool false)))⟩,
 ⟨some 2, none, .mv (.t 38)⟩])
 .ret))
def k77 : List Nat := [0, 1, 2]
theorem ic77 : factsI Try.prog 77 = some (39, [.tmp 2], c77) := by kernel_rfl
def c78 : IC :=
 (.seq (.reg [⟨some 1, none, .bx (.t 0)⟩,
 ⟨some 2, none, .al (.agg [.sc (.int .i64 0), .sc (.string ⟨#[]⟩), .sc (.string ⟨#[]⟩), .sc (.int .i64 0), .sc (.bool false), .sc (.slice none 0 0)]) 6⟩])
 (.seq (.reg [⟨some 3, none, .sh 5 (.t 1)⟩,
 ⟨some 4, none, .ld none (.t 3)⟩,
 ⟨some 5, none, .app 1 1 (.k (.sc (.slice none 0 0))) (.t 4)⟩,
 ⟨some 6, none, .sh 5 (.t 1)⟩,
 ⟨none, none, .st 1 (.t 6) (.t 5)⟩])
 (.seq (.reg [⟨some 7, none, .ld (some 6) (.t 1)⟩,
 ⟨none, none, .st 6 (.t 2) (.t 7)⟩])
 .ret)))
def k78 : List Nat := [0, 1, 2]
theorem ic78 : factsI Try.prog 78 = some (8, [.cell 2 43], c78) := by kernel_rfl
def c79 : IC :=
 (.seq (.reg [⟨some 1, none, .bx (.t 0)⟩,
 ⟨some 2, none, .al (.agg [(.sc (.map none)), .sc (.int .i64 0)]) 2⟩])
 (.seq (.drw [0, 1, 3, 7, 0, 16, 63, 0, 255] [⟨some 6, none, .sh 1 (.t 1)⟩,
 ⟨some 7, none, .ld none (.t 6)⟩,
 ⟨some 8, none, .len (.t 7) (pu (.call ⟨.builtin .len, #[(.tmp 7)], #[22]⟩) 3)⟩,
 ⟨some 9, none, .mmk (some (.t 8))⟩,
 ⟨some 10, none, .sh 3 (.t 1)⟩,
 ⟨some 11, none, .ld none (.t 10)⟩,
 ⟨some 12, none, .bld [(.sc (.map none)), .sc (.int .i64 0)] [(0, 1, (.t 9)), (1, 1, (.t 11))]⟩,
 ⟨some 3, none, .al (.agg [(.sc (.map none)), .sc (.int .i64 0)]) 2⟩,
 ⟨none, none, .st 2 (.t 3) (.t 12)⟩])
 (.seq (.seq (.reg [⟨some 13, none, .sh 1 (.t 1)⟩,
 ⟨some 14, none, .ld none (.t 13)⟩,
 ⟨some 15, none, .len (.t 14) (pu (.call ⟨.builtin .len, #[(.tmp 14)], #[22]⟩) 3)⟩,
 ⟨some 16, none, .mv (.k (.sc (.int .i64 0)))⟩])
 (.block 0 (.loop (.seq (.reg [⟨some 17, none, .bin .lss false (.t 16) (.t 15) (pu (.binOp .lss 3 (.tmp 16) (.tmp 15) 3) 0)⟩])
 (.seq (.cond (.t 17) .skip
 (.exit 0))
 (.seq (.block 1 (.seq (.reg [⟨some 18, none, .mv (.t 16)⟩,
 ⟨some 19, none, .ixs 6 (.t 14) (.t 16)⟩,
 ⟨some 20, none, .ld (some 6) (.t 19)⟩,
 ⟨some 5, none, .al (.agg [.sc (.int .i64 0), .sc (.string ⟨#[]⟩), .sc (.string ⟨#[]⟩), .sc (.int .i64 0), .sc (.bool false), .sc (.slice none 0 0)]) 6⟩,
 ⟨some 4, none, .mv (.t 18)⟩,
 ⟨none, none, .st 6 (.t 5) (.t 20)⟩])
 (.seq (.seq (.reg [⟨some 21, none, .mv (.t 4)⟩,
 ⟨some 22, none, .sh 2 (.t 1)⟩,
 ⟨some 23, none, .ld none (.t 22)⟩,
 ⟨some 24, none, .len (.t 23) (pu (.call ⟨.builtin .len, #[(.tmp 23)], #[23]⟩) 3)⟩,
 ⟨some 25, none, .bin .geq false (.t 21) (.t 24) (pu (.binOp .geq 3 (.tmp 21) (.tmp 24) 3) 4)⟩])
 (.cond (.t 25) (.exit 0)
 .skip))
 (.drw [0, 1, 0, 4, 0, 0, 32, 0, 224, 480, 1008, 2047] [⟨some 26, none, .sh 0 (.t 3)⟩,
 ⟨some 27, none, .ld none (.t 26)⟩,
 ⟨some 28, none, .ld (some 6) (.t 5)⟩,
 ⟨some 29, none, .call 48 [(.t 28)]⟩,
 ⟨some 30, none, .ld (some 6) (.t 5)⟩,
 ⟨some 31, none, .sh 2 (.t 1)⟩,
 ⟨some 32, none, .ld none (.t 31)⟩,
 ⟨some 33, none, .mv (.t 4)⟩,
 ⟨some 34, none, .ixs 1 (.t 32) (.t 33)⟩,
 ⟨some 35, none, .ld none (.t 34)⟩,
 ⟨some 36, none, .bld [.sc (.int .i64 0), .sc (.string ⟨#[]⟩), .sc (.string ⟨#[]⟩), .sc (.int .i64 0), .sc (.bool false), .sc (.slice none 0 0), .sc (.int .i64 0)] [(0, 6, (.t 30)), (6, 1, (.t 35))]⟩,
 ⟨none, none, .mpt true [(.i .i64), .s, .s] (.t 27) (.t 29) (.t 36)⟩]))))
 (.reg [⟨some 37, none, .bin .add false (.t 16) (.k (.sc (.int .i64 1))) (pu (.binOp .add 3 (.tmp 16) (.const (.int .i64 1)) 3) 3)⟩,
 ⟨some 16, none, .mv (.t 37)⟩])))))))
 (.seq (.reg [⟨some 38, none, .ld (some 2) (.t 3)⟩,
 ⟨none, none, .st 2 (.t 2) (.t 38)⟩])
 .ret))))
def k79 : List Nat := [0, 1, 2, 3, 4, 5, 14, 15, 16, 17, 25]
theorem ic79 : factsI Try.prog 79 = some (39, [.cell 2 111], c79) := by kernel_rfl
def c80 : IC :=
 (.seq (.reg [⟨some 3, none, .bx (.t 1)⟩])
 (.seq (.drw [0, 1, 3, 7, 0, 16, 0, 0, 128, 384, 896, 1984, 4095] [⟨some 4, none, .mv (.t 0)⟩,
 ⟨some 5, none, .nck (.t 4) (pu (.nilCheck (.tmp 4)) 0)⟩,
 ⟨some 6, none, .sh 0 (.t 5)⟩,
 ⟨some 7, none, .ld none (.t 6)⟩,
 ⟨some 8, none, .ld (some 6) (.t 3)⟩,
 ⟨some 9, none, .call 48 [(.t 8)]⟩,
 ⟨some 10, none, .ld (some 6) (.t 3)⟩,
 ⟨some 11, none, .mv (.t 0)⟩,
 ⟨some 12, none, .nck (.t 11) (pu (.nilCheck (.tmp 11)) 0)⟩,
 ⟨some 13, none, .sh 1 (.t 12)⟩,
 ⟨some 14, none, .ld none (.t 13)⟩,
 ⟨some 15, none, .bld [.sc (.int .i64 0), .sc (.string ⟨#[]⟩), .sc (.string ⟨#[]⟩), .sc (.int .i64 0), .sc (.bool false), .sc (.slice none 0 0), .sc (.int .i64 0)] [(0, 6, (.t 10)), (6, 1, (.t 14))]⟩,
 ⟨none, none, .mpt true [(.i .i64), .s, .s] (.t 7) (.t 9) (.t 15)⟩])
 (.reg [⟨some 16, none, .mv (.t 0)⟩,
 ⟨some 17, none, .nck (.t 16) (pu (.nilCheck (.tmp 16)) 0)⟩,
 ⟨some 18, none, .sh 1 (.t 17)⟩,
 ⟨some 19, none, .ld none (.t 18)⟩,
 ⟨some 20, none, .bin .add false (.t 19) (.k (.sc (.int .i64 1))) (pu (.binOp .add 3 (.tmp 19) (.const (.int .i64 1)) 3) 3)⟩,
 ⟨some 21, none, .nck (.t 16) (pu (.nilCheck (.tmp 16)) 0)⟩,
 ⟨some 22, none, .sh 1 (.t 21)⟩,
 ⟨none, none, .st 1 (.t 22) (.t 20)⟩])))
def k80 : List Nat := [0, 1, 3]
theorem ic80 : factsI Try.prog 80 = some (23, [], c80) := by kernel_rfl
def c81 : IC :=
 (.seq (.reg [⟨some 4, none, .al (.agg [.sc (.string ⟨#[]⟩), .sc (.slice none 0 0), .sc (.slice none 0 0), .sc (.int .i64 0)]) 4⟩])
 (.seq (.reg [⟨some 11, none, .mv (.t 0)⟩,
 ⟨some 12, none, .nck (.t 11) (pu (.nilCheck (.tmp 11)) 0)⟩,
 ⟨some 13, none, .sh 0 (.t 12)⟩,
 ⟨some 14, none, .ld none (.t 13)⟩,
 ⟨some 15, none, .mln (.t 14) (pu (.call ⟨.builtin .len, #[(.tmp 14)], #[109]⟩) 3)⟩,
 ⟨some 16, none, .mks 7 88 (.agg [.sc (.int .i64 0), .sc (.string ⟨#[]⟩), .sc (.string ⟨#[]⟩), .sc (.int .i64 0), .sc (.bool false), .sc (.slice none 0 0), .sc (.int .i64 0)]) (.k (.sc (.int .i64 0))) (.t 15)⟩,
 ⟨some 5, none, .mv (.t 16)⟩])
 (.seq (.seq (.reg [⟨some 17, none, .mv (.t 0)⟩,
 ⟨some 18, none, .nck (.t 17) (pu (.nilCheck (.tmp 17)) 0)⟩,
 ⟨some 19, none, .sh 0 (.t 18)⟩,
 ⟨some 20, none, .ld none (.t 19)⟩,
 ⟨some 21, none, .opx (pu (.range 109 (.tmp 20)) 0)⟩])
 (.block 0 (.loop (.seq (.reg [⟨some 22, none, .opx (pu (.next (.tmp 21) false) 0)⟩,
 ⟨some 23, none, .ext (.t 22) 0⟩])
 (.seq (.cond (.t 23) .skip
 (.exit 0))
 (.block 1 (.seq (.reg [⟨some 24, none, .pur (pu (.entry (.tmp 21)) 0)⟩,
 ⟨some 25, none, .ext (.t 24) 1⟩,
 ⟨some 7, none, .al (.agg [.sc (.int .i64 0), .sc (.string ⟨#[]⟩), .sc (.string ⟨#[]⟩), .sc (.int .i64 0), .sc (.bool false), .sc (.slice none 0 0), .sc (.int .i64 0)]) 7⟩,
 ⟨none, none, .st 7 (.t 7) (.t 25)⟩])
 (.reg [⟨some 26, none, .mv (.t 5)⟩,
 ⟨some 27, none, .ld (some 7) (.t 7)⟩,
 ⟨some 28, none, .bsl 7 1 true [.sc (.int .i64 0), .sc (.string ⟨#[]⟩), .sc (.string ⟨#[]⟩), .sc (.int .i64 0), .sc (.bool false), .sc (.slice none 0 0), .sc (.int .i64 0)] [(0, 7, (.t 27))]⟩,
 ⟨some 29, none, .app 7 88 (.t 26) (.t 28)⟩,
 ⟨some 5, none, .mv (.t 29)⟩]))))))))
 (.seq (.reg [⟨some 30, none, .mv (.t 5)⟩,
 ⟨some 31, none, .call 83 [(.t 30), (.k (.sc (.func (.func 84) #[] #[])))]⟩])
 (.seq (.reg [⟨some 32, none, .mv (.t 1)⟩,
 ⟨some 33, none, .mv (.t 0)⟩,
 ⟨some 34, none, .nck (.t 33) (pu (.nilCheck (.tmp 33)) 0)⟩,
 ⟨some 35, none, .sh 1 (.t 34)⟩,
 ⟨some 36, none, .ld none (.t 35)⟩,
 ⟨some 37, none, .bld [.sc (.string ⟨#[]⟩), .sc (.slice none 0 0), .sc (.slice none 0 0), .sc (.int .i64 0)] [(0, 1, (.t 32)), (3, 1, (.t 36))]⟩,
 ⟨some 8, none, .al (.agg [.sc (.string ⟨#[]⟩), .sc (.slice none 0 0), .sc (.slice none 0 0), .sc (.int .i64 0)]) 4⟩,
 ⟨none, none, .st 4 (.t 8) (.t 37)⟩])
 (.seq (.seq (.reg [⟨some 38, none, .mv (.t 5)⟩,
 ⟨some 39, none, .len (.t 38) (pu (.call ⟨.builtin .len, #[(.tmp 38)], #[121]⟩) 3)⟩,
 ⟨some 40, none, .mv (.k (.sc (.int .i64 0)))⟩])
 (.block 2 (.loop (.seq (.reg [⟨some 41, none, .bin .lss false (.t 40) (.t 39) (pu (.binOp .lss 3 (.tmp 40) (.tmp 39) 3) 0)⟩])
 (.seq (.cond (.t 41) .skip
 (.exit 2))
 (.seq (.block 3 (.seq (.reg [⟨some 42, none, .ixs 7 (.t 38) (.t 40)⟩,
 ⟨some 43, none, .ld (some 7) (.t 42)⟩,
 ⟨some 10, none, .al (.agg [.sc (.int .i64 0), .sc (.string ⟨#[]⟩), .sc (.string ⟨#[]⟩), .sc (.int .i64 0), .sc (.bool false), .sc (.slice none 0 0), .sc (.int .i64 0)]) 7⟩,
 ⟨none, none, .st 7 (.t 10) (.t 43)⟩])
 (.seq (.drw [0, 1, 0, 4, 12, 28, 63, 127, 255] [⟨some 44, none, .sh 1 (.t 8)⟩,
 ⟨some 45, none, .ld none (.t 44)⟩,
 ⟨some 46, none, .sh 0 (.t 10)⟩,
 ⟨some 47, none, .ld (some 6) (.t 46)⟩,
 ⟨some 48, none, .call 78 [(.t 47)]⟩,
 ⟨some 49, none, .bsl 6 1 true [.sc (.int .i64 0), .sc (.string ⟨#[]⟩), .sc (.string ⟨#[]⟩), .sc (.int .i64 0), .sc (.bool false), .sc (.slice none 0 0)] [(0, 6, (.t 48))]⟩,
 ⟨some 50, none, .app 6 80 (.t 45) (.t 49)⟩,
 ⟨some 51, none, .sh 1 (.t 8)⟩,
 ⟨none, none, .st 1 (.t 51) (.t 50)⟩])
 (.reg [⟨some 52, none, .sh 2 (.t 8)⟩,
 ⟨some 53, none, .ld none (.t 52)⟩,
 ⟨some 54, none, .sh 6 (.t 10)⟩,
 ⟨some 55, none, .ld none (.t 54)⟩,
 ⟨some 56, none, .bsl 1 1 false [.sc (.int .i64 0)] [(0, 1, (.t 55))]⟩,
 ⟨some 57, none, .app 1 8 (.t 53) (.t 56)⟩,
 ⟨some 58, none, .sh 2 (.t 8)⟩,
 ⟨none, none, .st 1 (.t 58) (.t 57)⟩]))))
 (.reg [⟨some 59, none, .bin .add false (.t 40) (.k (.sc (.int .i64 1))) (pu (.binOp .add 3 (.tmp 40) (.const (.int .i64 1)) 3) 3)⟩,
 ⟨some 40, none, .mv (.t 59)⟩])))))))
 (.seq (.reg [⟨some 60, none, .ld (some 4) (.t 8)⟩,
 ⟨none, none, .st 4 (.t 4) (.t 60)⟩])
 .ret)))))))
def k81 : List Nat := [0, 1, 4, 5, 7, 8, 10, 21, 23, 38, 39, 40, 41]
theorem ic81 : factsI Try.prog 81 = some (61, [.cell 4 25], c81) := by kernel_rfl
def c84 : IC :=
 (.seq (.reg [⟨some 2, none, .bx (.t 0)⟩,
 ⟨some 3, none, .bx (.t 1)⟩,
 ⟨some 4, none, .mv (.k (.sc (.int .i64 0)))⟩])
 (.seq (.drw [0, 1, 0, 4, 15, 0, 32, 96, 0, 256, 768, 2047, 0, 4096, 12288, 0, 32768, 98304, 262143, 0, 524288, 1572864, 0, 4194304, 12582912, 33554431, 67108863, 134217727, 268435455] [⟨some 5, none, .sh 6 (.t 2)⟩,
 ⟨some 6, none, .ld none (.t 5)⟩,
 ⟨some 7, none, .sh 6 (.t 3)⟩,
 ⟨some 8, none, .ld none (.t 7)⟩,
 ⟨some 9, none, .call 86 [(.t 6), (.t 8)]⟩,
 ⟨some 10, none, .sh 0 (.t 2)⟩,
 ⟨some 11, none, .sh 0 (.t 10)⟩,
 ⟨some 12, none, .ld none (.t 11)⟩,
 ⟨some 13, none, .sh 0 (.t 3)⟩,
 ⟨some 14, none, .sh 0 (.t 13)⟩,
 ⟨some 15, none, .ld none (.t 14)⟩,
 ⟨some 16, none, .call 86 [(.t 12), (.t 15)]⟩,
 ⟨some 17, none, .sh 0 (.t 2)⟩,
 ⟨some 18, none, .sh 2 (.t 17)⟩,
 ⟨some 19, none, .ld none (.t 18)⟩,
 ⟨some 20, none, .sh 0 (.t 3)⟩,
 ⟨some 21, none, .sh 2 (.t 20)⟩,
 ⟨some 22, none, .ld none (.t 21)⟩,
 ⟨some 23, none, .call 87 [(.t 19), (.t 22)]⟩,
 ⟨some 24, none, .sh 0 (.t 2)⟩,
 ⟨some 25, none, .sh 1 (.t 24)⟩,
 ⟨some 26, none, .ld none (.t 25)⟩,
 ⟨some 27, none, .sh 0 (.t 3)⟩,
 ⟨some 28, none, .sh 1 (.t 27)⟩,
 ⟨some 29, none, .ld none (.t 28)⟩,
 ⟨some 30, none, .call 87 [(.t 26), (.t 29)]⟩,
 ⟨some 31, none, .bsl 1 4 false [.sc (.int .i64 0), .sc (.int .i64 0), .sc (.int .i64 0), .sc (.int .i64 0)] [(0, 1, (.t 9)), (1, 1, (.t 16)), (2, 1, (.t 23)), (3, 1, (.t 30))]⟩,
 ⟨some 32, none, .call 85 [(.t 31)]⟩,
 ⟨some 4, none, .mv (.t 32)⟩])
 .ret))
def k84 : List Nat := [0, 1, 2, 3, 4]
theorem ic84 : factsI Try.prog 84 = some (33, [.tmp 4], c84) := by kernel_rfl
def c85 : IC :=
 (.seq (.reg [⟨some 2, none, .mv (.k (.sc (.int .i64 0)))⟩])
 (.seq (.reg [⟨some 3, none, .mv (.k (.sc (.int .i64 0)))⟩])
 (.seq (.seq (.reg [⟨some 6, none, .mv (.t 0)⟩,
 ⟨some 7, none, .len (.t 6) (pu (.call ⟨.builtin .len, #[(.tmp 6)], #[23]⟩) 3)⟩,
 ⟨some 8, none, .mv (.k (.sc (.int .i64 0)))⟩])
 (.block 0 (.loop (.seq (.reg [⟨some 9, none, .bin .lss false (.t 8) (.t 7) (pu (.binOp .lss 3 (.tmp 8) (.tmp 7) 3) 0)⟩])
 (.seq (.cond (.t 9) .skip
 (.exit 0))
 (.seq (.block 1 (.seq (.reg [⟨some 10, none, .ixs 1 (.t 6) (.t 8)⟩,
 ⟨some 11, none, .ld none (.t 10)⟩,
 ⟨some 5, none, .mv (.t 11)⟩])
 (.seq (.reg [⟨some 12, none, .mv (.t 5)⟩,
 ⟨some 13, none, .mv (.t 3)⟩,
 ⟨some 14, none, .bin .neq false (.t 12) (.t 13) (pu (.binOp .neq 3 (.tmp 12) (.tmp 13) 3) 4)⟩])
 (.cond (.t 14) (.seq (.reg [⟨some 15, none, .mv (.t 5)⟩,
 ⟨some 2, none, .mv (.t 15)⟩])
 .ret)
 .skip))))
 (.reg [⟨some 16, none, .bin .add false (.t 8) (.k (.sc (.int .i64 1))) (pu (.binOp .add 3 (.tmp 8) (.const (.int .i64 1)) 3) 3)⟩,
 ⟨some 8, none, .mv (.t 16)⟩])))))))
 (.seq (.reg [⟨some 17, none, .mv (.t 3)⟩,
 ⟨some 2, none, .mv (.t 17)⟩])
 .ret))))
def k85 : List Nat := [0, 2, 3, 5, 6, 7, 8, 9, 14]
theorem ic85 : factsI Try.prog 85 = some (18, [.tmp 2], c85) := by kernel_rfl
def c86 : IC :=
 (.seq (.reg [⟨some 4, none, .mv (.k (.sc (.int .i64 0)))⟩])
 (.seq (.reg [⟨some 7, none, .mv (.t 0)⟩,
 ⟨some 8, none, .call 91 [(.t 7)]⟩,
 ⟨some 5, none, .mv (.t 8)⟩])
 (.seq (.reg [⟨some 9, none, .mv (.t 1)⟩,
 ⟨some 10, none, .call 91 [(.t 9)]⟩,
 ⟨some 6, none, .mv (.t 10)⟩])
 (.seq (.seq (.reg [⟨some 11, none, .mv (.t 5)⟩])
 (.cond (.t 11) (.seq (.seq (.reg [⟨some 12, none, .mv (.t 6)⟩])
 (.cond (.t 12) (.seq (.reg [⟨some 4, none, .mv (.k (.sc (.int .i64 0)))⟩])
 .ret)
 .skip))
 (.seq (.reg [⟨some 4, none, .mv (.k (.sc (.int .i64 (-1))))⟩])
 .ret))
 .skip))
 (.seq (.seq (.reg [⟨some 13, none, .mv (.t 6)⟩])
 (.cond (.t 13) (.seq (.reg [⟨some 4, none, .mv (.k (.sc (.int .i64 1)))⟩])
 .ret)
 .skip))
 (.seq (.seq (.reg [⟨some 14, none, .mv (.t 0)⟩,
 ⟨some 15, none, .mv (.t 1)⟩,
 ⟨some 16, none, .bin .lss false (.t 14) (.t 15) (pu (.binOp .lss 3 (.tmp 14) (.tmp 15) 3) 4)⟩])
 (.cond (.t 16) (.seq (.reg [⟨some 4, none, .mv (.k (.sc (.int .i64 (-1))))⟩])
 .ret)
 .skip))
 (.seq (.seq (.reg [⟨some 17, none, .mv (.t 0)⟩,
 ⟨some 18, none, .mv (.t 1)⟩,
 ⟨some 19, none, .bin .gtr false (.t 17) (.t 18) (pu (.binOp .gtr 3 (.tmp 17) (.tmp 18) 3) 4)⟩])
 (.cond (.t 19) (.seq (.reg [⟨some 4, none, .mv (.k (.sc (.int .i64 1)))⟩])
 .ret)
 .skip))
 (.seq (.reg [⟨some 4, none, .mv (.k (.sc (.int .i64 0)))⟩])
 .ret))))))))
def k86 : List Nat := [0, 1, 4, 5, 6, 11, 12, 13, 16, 19]
theorem ic86 : factsI Try.prog 86 = some (20, [.tmp 4], c86) := by kernel_rfl
def c87 : IC :=
 (.seq (.reg [⟨some 4, none, .mv (.k (.sc (.int .i64 0)))⟩])
 (.seq (.reg [⟨some 7, none, .mv (.t 0)⟩,
 ⟨some 8, none, .call 92 [(.t 7)]⟩,
 ⟨some 5, none, .mv (.t 8)⟩])
 (.seq (.reg [⟨some 9, none, .mv (.t 1)⟩,
 ⟨some 10, none, .call 92 [(.t 9)]⟩,
 ⟨some 6, none, .mv (.t 10)⟩])
 (.seq (.seq (.reg [⟨some 11, none, .mv (.t 5)⟩])
 (.cond (.t 11) (.seq (.seq (.reg [⟨some 12, none, .mv (.t 6)⟩])
 (.cond (.t 12) (.seq (.reg [⟨some 4, none, .mv (.k (.sc (.int .i64 0)))⟩])
 .ret)
 .skip))
 (.seq (.reg [⟨some 4, none, .mv (.k (.sc (.int .i64 (-1))))⟩])
 .ret))
 .skip))
 (.seq (.seq (.reg [⟨some 13, none, .mv (.t 6)⟩])
 (.cond (.t 13) (.seq (.reg [⟨some 4, none, .mv (.k (.sc (.int .i64 1)))⟩])
 .ret)
 .skip))
 (.seq (.seq (.reg [⟨some 14, none, .mv (.t 0)⟩,
 ⟨some 15, none, .mv (.t 1)⟩,
 ⟨some 16, none, .bin .lss false (.t 14) (.t 15) (pu (.binOp .lss 9 (.tmp 14) (.tmp 15) 9) 4)⟩])
 (.cond (.t 16) (.seq (.reg [⟨some 4, none, .mv (.k (.sc (.int .i64 (-1))))⟩])
 .ret)
 .skip))
 (.seq (.seq (.reg [⟨some 17, none, .mv (.t 0)⟩,
 ⟨some 18, none, .mv (.t 1)⟩,
 ⟨some 19, none, .bin .gtr false (.t 17) (.t 18) (pu (.binOp .gtr 9 (.tmp 17) (.tmp 18) 9) 4)⟩])
 (.cond (.t 19) (.seq (.reg [⟨some 4, none, .mv (.k (.sc (.int .i64 1)))⟩])
 .ret)
 .skip))
 (.seq (.reg [⟨some 4, none, .mv (.k (.sc (.int .i64 0)))⟩])
 .ret))))))))
def k87 : List Nat := [0, 1, 4, 5, 6, 11, 12, 13, 16, 19]
theorem ic87 : factsI Try.prog 87 = some (20, [.tmp 4], c87) := by kernel_rfl
def c91 : IC :=
 (.seq (.reg [⟨some 2, none, .mv (.k (.sc (.bool false)))⟩])
 (.seq (.reg [⟨some 3, none, .mv (.t 0)⟩,
 ⟨some 4, none, .mv (.t 0)⟩,
 ⟨some 5, none, .bin .neq false (.t 3) (.t 4) (pu (.binOp .neq 3 (.tmp 3) (.tmp 4) 3) 4)⟩,
 ⟨some 2, none, .mv (.t 5)⟩])
 .ret))
def k91 : List Nat := [0, 2]
theorem ic91 : factsI Try.prog 91 = some (6, [.tmp 2], c91) := by kernel_rfl
def c92 : IC :=
 (.seq (.reg [⟨some 2, none, .mv (.k (.sc (.bool false)))⟩])
 (.seq (.reg [⟨some 3, none, .mv (.t 0)⟩,
 ⟨some 4, none, .mv (.t 0)⟩,
 ⟨some 5, none, .bin .neq false (.t 3) (.t 4) (pu (.binOp .neq 9 (.tmp 3) (.tmp 4) 9) 4)⟩,
 ⟨some 2, none, .mv (.t 5)⟩])
 .ret))
def k92 : List Nat := [0, 2]
theorem ic92 : factsI Try.prog 92 = some (6, [.tmp 2], c92) := by kernel_rfl
end Go.Proofs.Ytikmficjcbkhcaa
