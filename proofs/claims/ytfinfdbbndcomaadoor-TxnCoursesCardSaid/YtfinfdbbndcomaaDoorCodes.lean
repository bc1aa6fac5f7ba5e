import Derived.Test.YtfinfdbbndcomaaDoorRows
import Derived.Test.YtfinfdbbndcomaaDoorLay
namespace Go.Proofs.YtfinfdbbndcomaaDoor
open Go.Idl
-- chargenet/chargenetlaw34.TxnValids (15 slots)
def c3 : IC :=
 (.seq (.reg [⟨(some 1), none, .bx (.t 0)⟩, 
 ⟨(some 2), none, .mv (.k (.sc (.bool false)))⟩])
 (.seq (.seq (.reg [⟨(some 3), none, .ld (some 9) (.t 1)⟩, 
 ⟨(some 4), none, .call 8 [(.t 3)]⟩, 
 ⟨(some 5), none, .un .not (.t 4) (pu (.unOp .not 4 (.tmp 4)) 4)⟩])
 (.cond (.t 5) (.seq (.reg [⟨(some 6), none, .call 9 []⟩, 
  ⟨(some 2), none, .mv (.t 6)⟩])
  .ret)
 .skip))
 (.seq (.drw [0, 1, 0, 7, 15, 31, 63, 127, 255] [⟨(some 7), none, .ld (some 9) (.t 1)⟩, 
 ⟨(some 8), none, .call 10 [(.t 7)]⟩, 
 ⟨(some 9), none, .ld (some 9) (.t 1)⟩, 
 ⟨(some 10), none, .call 11 [(.t 9)]⟩, 
 ⟨(some 11), none, .bin .eql false (.t 8) (.t 10) (pu (.binOp .eql 28 (.tmp 8) (.tmp 10) 28) 4)⟩, 
 ⟨(some 12), none, .mv (.t 11)⟩, 
 ⟨(some 13), (some ((some 12), true)), .call 9 []⟩, 
 ⟨(some 14), none, .pick (.t 12) (.t 13) (.k (.sc (.bool false)))⟩, 
 ⟨(some 2), none, .mv (.t 14)⟩])
 .ret)))
def k3 : List Nat := [0, 1, 2, 5]
theorem ic3 : factsI Tryd.prog 3 = some (15, [.tmp 2], c3) := by kernel_rfl

-- chargenet/chargenetlaw34.TxnBegins (98 slots)
def c4 : IC :=
 (.seq (.reg [⟨(some 1), none, .bx (.t 0)⟩, 
 ⟨(some 2), none, .mv (.k (.sc (.bool false)))⟩])
 (.seq (.seq (.reg [⟨(some 9), none, .sh 0 (.t 1)⟩, 
 ⟨(some 10), none, .ld none (.t 9)⟩, 
 ⟨(some 11), none, .lens (.t 10) (pu (.call ⟨.builtin .len, #[(.tmp 10)], #[9]⟩) 3)⟩, 
 ⟨(some 12), none, .bin .gtr false (.t 11) (.k (.sc (.int .i64 50))) (pu (.binOp .gtr 3 (.tmp 11) (.const (.int .i64 50)) 3) 4)⟩, 
 ⟨(some 13), none, .mv (.t 12)⟩, 
 ⟨(some 14), (some ((some 13), false)), .sh 3 (.t 1)⟩, 
 ⟨(some 15), (some ((some 13), false)), .sh 0 (.t 14)⟩, 
 ⟨(some 16), (some ((some 13), false)), .ld none (.t 15)⟩, 
 ⟨(some 17), (some ((some 13), false)), .lens (.t 16) (pu (.call ⟨.builtin .len, #[(.tmp 16)], #[9]⟩) 3)⟩, 
 ⟨(some 18), (some ((some 13), false)), .bin .gtr false (.t 17) (.k (.sc (.int .i64 50))) (pu (.binOp .gtr 3 (.tmp 17) (.const (.int .i64 50)) 3) 4)⟩, 
 ⟨(some 19), none, .pick (.t 13) (.k (.sc (.bool true))) (.t 18)⟩, 
 ⟨(some 20), none, .mv (.t 19)⟩, 
 ⟨(some 21), (some ((some 20), false)), .sh 3 (.t 1)⟩, 
 ⟨(some 22), (some ((some 20), false)), .sh 1 (.t 21)⟩, 
 ⟨(some 23), (some ((some 20), false)), .ld none (.t 22)⟩, 
 ⟨(some 24), (some ((some 20), false)), .lens (.t 23) (pu (.call ⟨.builtin .len, #[(.tmp 23)], #[9]⟩) 3)⟩, 
 ⟨(some 25), (some ((some 20), false)), .bin .gtr false (.t 24) (.k (.sc (.int .i64 50))) (pu (.binOp .gtr 3 (.tmp 24) (.const (.int .i64 50)) 3) 4)⟩, 
 ⟨(some 26), none, .pick (.t 20) (.k (.sc (.bool true))) (.t 25)⟩, 
 ⟨(some 27), none, .mv (.t 26)⟩, 
 ⟨(some 28), (some ((some 27), false)), .sh 3 (.t 1)⟩, 
 ⟨(some 29), (some ((some 27), false)), .sh 2 (.t 28)⟩, 
 ⟨(some 30), (some ((some 27), false)), .ld none (.t 29)⟩, 
 ⟨(some 31), (some ((some 27), false)), .lens (.t 30) (pu (.call ⟨.builtin .len, #[(.tmp 30)], #[9]⟩) 3)⟩, 
 ⟨(some 32), (some ((some 27), false)), .bin .gtr false (.t 31) (.k (.sc (.int .i64 50))) (pu (.binOp .gtr 3 (.tmp 31) (.const (.int .i64 50)) 3) 4)⟩, 
 ⟨(some 33), none, .pick (.t 27) (.k (.sc (.bool true))) (.t 32)⟩])
 (.cond (.t 33) (.seq (.reg [⟨(some 34), none, .call 9 []⟩, 
  ⟨(some 2), none, .mv (.t 34)⟩])
  .ret)
 .skip))
 (.seq (.reg [⟨(some 36), none, .sh 0 (.t 1)⟩, 
 ⟨(some 37), none, .ld none (.t 36)⟩, 
 ⟨(some 38), none, .sh 1 (.t 1)⟩, 
 ⟨(some 39), none, .ld none (.t 38)⟩, 
 ⟨(some 40), none, .sh 2 (.t 1)⟩, 
 ⟨(some 41), none, .ld none (.t 40)⟩, 
 ⟨(some 42), none, .sh 3 (.t 1)⟩, 
 ⟨(some 43), none, .ld (some 6) (.t 42)⟩, 
 ⟨(some 44), none, .sh 9 (.t 1)⟩, 
 ⟨(some 45), none, .ld (some 2) (.t 44)⟩, 
 ⟨(some 46), none, .sh 11 (.t 1)⟩, 
 ⟨(some 47), none, .ld none (.t 46)⟩, 
 ⟨(some 48), none, .call 12 [(.t 37), (.t 39), (.t 41), (.t 43), (.t 45), (.t 47)]⟩, 
 ⟨(some 35), none, .mv (.t 48)⟩, 
 ⟨(some 49), none, .ext (.t 35) 0⟩, 
 ⟨(some 50), none, .ext (.t 35) 1⟩, 
 ⟨(some 51), none, .ext (.t 35) 2⟩, 
 ⟨(some 3), none, .al (.agg [(.sc (.string ⟨#[]⟩)), (.sc (.int .i64 0)), (.sc (.string ⟨#[]⟩)), (.sc (.string ⟨#[]⟩)), (.sc (.int .i64 0)), (.sc (.int .i64 0)), (.sc (.bool false)), (.sc (.int .i64 0)), (.sc (.int .i64 0))]) 9⟩, 
 ⟨(some 4), none, .al (.agg [(.sc (.string ⟨#[]⟩)), (.sc (.string ⟨#[]⟩)), (.sc (.int .i64 0)), (.sc (.int .i64 0)), (.sc (.int .i64 0)), (.sc (.int .i64 0)), (.sc (.string ⟨#[]⟩)), (.sc (.bool false)), (.sc (.int .i64 0)), (.sc (.slice none 0 0))]) 10⟩, 
 ⟨none, none, .st 9 (.t 3) (.t 49)⟩, 
 ⟨none, none, .st 10 (.t 4) (.t 50)⟩, 
 ⟨(some 5), none, .mv (.t 51)⟩])
 (.seq (.reg [⟨(some 53), none, .sh 0 (.t 1)⟩, 
 ⟨(some 54), none, .ld none (.t 53)⟩, 
 ⟨(some 55), none, .sh 1 (.t 1)⟩, 
 ⟨(some 56), none, .ld none (.t 55)⟩, 
 ⟨(some 57), none, .sh 2 (.t 1)⟩, 
 ⟨(some 58), none, .ld none (.t 57)⟩, 
 ⟨(some 59), none, .sh 3 (.t 1)⟩, 
 ⟨(some 60), none, .ld (some 6) (.t 59)⟩, 
 ⟨(some 61), none, .sh 9 (.t 1)⟩, 
 ⟨(some 62), none, .ld (some 2) (.t 61)⟩, 
 ⟨(some 63), none, .sh 11 (.t 1)⟩, 
 ⟨(some 64), none, .ld none (.t 63)⟩, 
 ⟨(some 65), none, .call 13 [(.t 54), (.t 56), (.t 58), (.t 60), (.t 62), (.t 64)]⟩, 
 ⟨(some 52), none, .mv (.t 65)⟩, 
 ⟨(some 66), none, .ext (.t 52) 0⟩, 
 ⟨(some 67), none, .ext (.t 52) 1⟩, 
 ⟨(some 68), none, .ext (.t 52) 2⟩, 
 ⟨(some 6), none, .al (.agg [(.sc (.string ⟨#[]⟩)), (.sc (.int .i64 0)), (.sc (.string ⟨#[]⟩)), (.sc (.string ⟨#[]⟩)), (.sc (.int .i64 0)), (.sc (.int .i64 0)), (.sc (.bool false)), (.sc (.int .i64 0)), (.sc (.int .i64 0))]) 9⟩, 
 ⟨(some 7), none, .al (.agg [(.sc (.string ⟨#[]⟩)), (.sc (.string ⟨#[]⟩)), (.sc (.int .i64 0)), (.sc (.int .i64 0)), (.sc (.int .i64 0)), (.sc (.int .i64 0)), (.sc (.string ⟨#[]⟩)), (.sc (.bool false)), (.sc (.int .i64 0)), (.sc (.slice none 0 0))]) 10⟩, 
 ⟨none, none, .st 9 (.t 6) (.t 66)⟩, 
 ⟨none, none, .st 10 (.t 7) (.t 67)⟩, 
 ⟨(some 8), none, .mv (.t 68)⟩])
 (.seq (.seq (.reg [⟨(some 69), none, .ld (some 9) (.t 3)⟩, 
 ⟨(some 70), none, .ld (some 9) (.t 6)⟩, 
 ⟨(some 71), none, .bin .neq false (.t 69) (.t 70) (pu (.binOp .neq 25 (.tmp 69) (.tmp 70) 25) 4)⟩, 
 ⟨(some 72), none, .mv (.t 71)⟩, 
 ⟨(some 73), (some ((some 72), false)), .ld (some 10) (.t 4)⟩, 
 ⟨(some 74), (some ((some 72), false)), .ld (some 10) (.t 7)⟩, 
 ⟨(some 75), (some ((some 72), false)), .call 14 [(.t 73), (.t 74)]⟩, 
 ⟨(some 76), (some ((some 72), false)), .un .not (.t 75) (pu (.unOp .not 4 (.tmp 75)) 4)⟩, 
 ⟨(some 77), none, .pick (.t 72) (.k (.sc (.bool true))) (.t 76)⟩, 
 ⟨(some 78), none, .mv (.t 77)⟩, 
 ⟨(some 79), (some ((some 78), false)), .mv (.t 5)⟩, 
 ⟨(some 80), (some ((some 78), false)), .mv (.t 8)⟩, 
 ⟨(some 81), (some ((some 78), false)), .bin .neq false (.t 79) (.t 80) (pu (.binOp .neq 28 (.tmp 79) (.tmp 80) 28) 4)⟩, 
 ⟨(some 82), none, .pick (.t 78) (.k (.sc (.bool true))) (.t 81)⟩])
 (.cond (.t 82) (.seq (.reg [⟨(some 2), none, .mv (.k (.sc (.bool false)))⟩])
  .ret)
 .skip))
 (.seq (.reg [⟨(some 83), none, .mv (.t 5)⟩, 
 ⟨(some 84), none, .bin .neq false (.t 83) (.k (.sc (.int .i64 0))) (pu (.binOp .neq 28 (.tmp 83) (.const (.int .i64 0)) 28) 4)⟩, 
 ⟨(some 85), none, .mv (.t 84)⟩, 
 ⟨(some 86), (some ((some 85), false)), .ld (some 9) (.t 3)⟩, 
 ⟨(some 87), (some ((some 85), false)), .call 10 [(.t 86)]⟩, 
 ⟨(some 88), (some ((some 85), false)), .bin .eql false (.t 87) (.k (.sc (.int .i64 0))) (pu (.binOp .eql 28 (.tmp 87) (.const (.int .i64 0)) 28) 4)⟩, 
 ⟨(some 89), (some ((some 85), false)), .mv (.t 88)⟩, 
 ⟨(some 90), (some ((some 89), true)), .ld (some 10) (.t 4)⟩, 
 ⟨(some 91), (some ((some 89), true)), .call 15 [(.t 90)]⟩, 
 ⟨(some 92), (some ((some 89), true)), .bin .eql false (.t 91) (.k (.sc (.int .i64 0))) (pu (.binOp .eql 28 (.tmp 91) (.const (.int .i64 0)) 28) 4)⟩, 
 ⟨(some 93), (some ((some 85), false)), .pick (.t 89) (.t 92) (.k (.sc (.bool false)))⟩, 
 ⟨(some 94), none, .pick (.t 85) (.k (.sc (.bool true))) (.t 93)⟩, 
 ⟨(some 95), none, .mv (.t 94)⟩, 
 ⟨(some 96), (some ((some 95), true)), .call 9 []⟩, 
 ⟨(some 97), none, .pick (.t 95) (.t 96) (.k (.sc (.bool false)))⟩, 
 ⟨(some 2), none, .mv (.t 97)⟩])
 .ret))))))
def k4 : List Nat := [0, 1, 2, 3, 4, 5, 6, 7, 8, 33, 82]
theorem ic4 : factsI Tryd.prog 4 = some (98, [.tmp 2], c4) := by kernel_rfl

-- chargenet/chargenetlaw34.TxnUpdates (75 slots)
def c5 : IC :=
 (.seq (.reg [⟨(some 1), none, .bx (.t 0)⟩, 
 ⟨(some 2), none, .mv (.k (.sc (.bool false)))⟩])
 (.seq (.seq (.reg [⟨(some 9), none, .sh 0 (.t 1)⟩, 
 ⟨(some 10), none, .ld (some 9) (.t 9)⟩, 
 ⟨(some 11), none, .call 8 [(.t 10)]⟩, 
 ⟨(some 12), none, .un .not (.t 11) (pu (.unOp .not 4 (.tmp 11)) 4)⟩, 
 ⟨(some 13), none, .mv (.t 12)⟩, 
 ⟨(some 14), (some ((some 13), false)), .sh 9 (.t 1)⟩, 
 ⟨(some 15), (some ((some 13), false)), .ld none (.t 14)⟩, 
 ⟨(some 16), (some ((some 13), false)), .lens (.t 15) (pu (.call ⟨.builtin .len, #[(.tmp 15)], #[9]⟩) 3)⟩, 
 ⟨(some 17), (some ((some 13), false)), .bin .gtr false (.t 16) (.k (.sc (.int .i64 50))) (pu (.binOp .gtr 3 (.tmp 16) (.const (.int .i64 50)) 3) 4)⟩, 
 ⟨(some 18), none, .pick (.t 13) (.k (.sc (.bool true))) (.t 17)⟩])
 (.cond (.t 18) (.seq (.reg [⟨(some 19), none, .call 9 []⟩, 
  ⟨(some 2), none, .mv (.t 19)⟩])
  .ret)
 .skip))
 (.seq (.reg [⟨(some 21), none, .sh 0 (.t 1)⟩, 
 ⟨(some 22), none, .ld (some 9) (.t 21)⟩, 
 ⟨(some 23), none, .sh 9 (.t 1)⟩, 
 ⟨(some 24), none, .ld none (.t 23)⟩, 
 ⟨(some 25), none, .sh 10 (.t 1)⟩, 
 ⟨(some 26), none, .ld (some 2) (.t 25)⟩, 
 ⟨(some 27), none, .sh 13 (.t 1)⟩, 
 ⟨(some 28), none, .ld none (.t 27)⟩, 
 ⟨(some 29), none, .call 16 [(.t 22), (.t 24), (.t 26), (.t 28)]⟩, 
 ⟨(some 20), none, .mv (.t 29)⟩, 
 ⟨(some 30), none, .ext (.t 20) 0⟩, 
 ⟨(some 31), none, .ext (.t 20) 1⟩, 
 ⟨(some 32), none, .ext (.t 20) 2⟩, 
 ⟨(some 3), none, .al (.agg [(.sc (.string ⟨#[]⟩)), (.sc (.int .i64 0)), (.sc (.string ⟨#[]⟩)), (.sc (.string ⟨#[]⟩)), (.sc (.int .i64 0)), (.sc (.int .i64 0)), (.sc (.bool false)), (.sc (.int .i64 0)), (.sc (.int .i64 0))]) 9⟩, 
 ⟨(some 4), none, .al (.agg [(.sc (.string ⟨#[]⟩)), (.sc (.string ⟨#[]⟩)), (.sc (.int .i64 0)), (.sc (.int .i64 0)), (.sc (.int .i64 0)), (.sc (.int .i64 0)), (.sc (.string ⟨#[]⟩)), (.sc (.bool false)), (.sc (.int .i64 0)), (.sc (.slice none 0 0))]) 10⟩, 
 ⟨none, none, .st 9 (.t 3) (.t 30)⟩, 
 ⟨none, none, .st 10 (.t 4) (.t 31)⟩, 
 ⟨(some 5), none, .mv (.t 32)⟩])
 (.seq (.reg [⟨(some 34), none, .sh 0 (.t 1)⟩, 
 ⟨(some 35), none, .ld (some 9) (.t 34)⟩, 
 ⟨(some 36), none, .sh 9 (.t 1)⟩, 
 ⟨(some 37), none, .ld none (.t 36)⟩, 
 ⟨(some 38), none, .sh 10 (.t 1)⟩, 
 ⟨(some 39), none, .ld (some 2) (.t 38)⟩, 
 ⟨(some 40), none, .sh 13 (.t 1)⟩, 
 ⟨(some 41), none, .ld none (.t 40)⟩, 
 ⟨(some 42), none, .call 17 [(.t 35), (.t 37), (.t 39), (.t 41)]⟩, 
 ⟨(some 33), none, .mv (.t 42)⟩, 
 ⟨(some 43), none, .ext (.t 33) 0⟩, 
 ⟨(some 44), none, .ext (.t 33) 1⟩, 
 ⟨(some 45), none, .ext (.t 33) 2⟩, 
 ⟨(some 6), none, .al (.agg [(.sc (.string ⟨#[]⟩)), (.sc (.int .i64 0)), (.sc (.string ⟨#[]⟩)), (.sc (.string ⟨#[]⟩)), (.sc (.int .i64 0)), (.sc (.int .i64 0)), (.sc (.bool false)), (.sc (.int .i64 0)), (.sc (.int .i64 0))]) 9⟩, 
 ⟨(some 7), none, .al (.agg [(.sc (.string ⟨#[]⟩)), (.sc (.string ⟨#[]⟩)), (.sc (.int .i64 0)), (.sc (.int .i64 0)), (.sc (.int .i64 0)), (.sc (.int .i64 0)), (.sc (.string ⟨#[]⟩)), (.sc (.bool false)), (.sc (.int .i64 0)), (.sc (.slice none 0 0))]) 10⟩, 
 ⟨none, none, .st 9 (.t 6) (.t 43)⟩, 
 ⟨none, none, .st 10 (.t 7) (.t 44)⟩, 
 ⟨(some 8), none, .mv (.t 45)⟩])
 (.seq (.seq (.reg [⟨(some 46), none, .ld (some 9) (.t 3)⟩, 
 ⟨(some 47), none, .ld (some 9) (.t 6)⟩, 
 ⟨(some 48), none, .bin .neq false (.t 46) (.t 47) (pu (.binOp .neq 25 (.tmp 46) (.tmp 47) 25) 4)⟩, 
 ⟨(some 49), none, .mv (.t 48)⟩, 
 ⟨(some 50), (some ((some 49), false)), .ld (some 10) (.t 4)⟩, 
 ⟨(some 51), (some ((some 49), false)), .ld (some 10) (.t 7)⟩, 
 ⟨(some 52), (some ((some 49), false)), .call 14 [(.t 50), (.t 51)]⟩, 
 ⟨(some 53), (some ((some 49), false)), .un .not (.t 52) (pu (.unOp .not 4 (.tmp 52)) 4)⟩, 
 ⟨(some 54), none, .pick (.t 49) (.k (.sc (.bool true))) (.t 53)⟩, 
 ⟨(some 55), none, .mv (.t 54)⟩, 
 ⟨(some 56), (some ((some 55), false)), .mv (.t 5)⟩, 
 ⟨(some 57), (some ((some 55), false)), .mv (.t 8)⟩, 
 ⟨(some 58), (some ((some 55), false)), .bin .neq false (.t 56) (.t 57) (pu (.binOp .neq 28 (.tmp 56) (.tmp 57) 28) 4)⟩, 
 ⟨(some 59), none, .pick (.t 55) (.k (.sc (.bool true))) (.t 58)⟩])
 (.cond (.t 59) (.seq (.reg [⟨(some 2), none, .mv (.k (.sc (.bool false)))⟩])
  .ret)
 .skip))
 (.seq (.reg [⟨(some 60), none, .mv (.t 5)⟩, 
 ⟨(some 61), none, .bin .neq false (.t 60) (.k (.sc (.int .i64 0))) (pu (.binOp .neq 28 (.tmp 60) (.const (.int .i64 0)) 28) 4)⟩, 
 ⟨(some 62), none, .mv (.t 61)⟩, 
 ⟨(some 63), (some ((some 62), false)), .ld (some 9) (.t 3)⟩, 
 ⟨(some 64), (some ((some 62), false)), .call 10 [(.t 63)]⟩, 
 ⟨(some 65), (some ((some 62), false)), .bin .eql false (.t 64) (.k (.sc (.int .i64 0))) (pu (.binOp .eql 28 (.tmp 64) (.const (.int .i64 0)) 28) 4)⟩, 
 ⟨(some 66), (some ((some 62), false)), .mv (.t 65)⟩, 
 ⟨(some 67), (some ((some 66), true)), .ld (some 10) (.t 4)⟩, 
 ⟨(some 68), (some ((some 66), true)), .call 15 [(.t 67)]⟩, 
 ⟨(some 69), (some ((some 66), true)), .bin .eql false (.t 68) (.k (.sc (.int .i64 0))) (pu (.binOp .eql 28 (.tmp 68) (.const (.int .i64 0)) 28) 4)⟩, 
 ⟨(some 70), (some ((some 62), false)), .pick (.t 66) (.t 69) (.k (.sc (.bool false)))⟩, 
 ⟨(some 71), none, .pick (.t 62) (.k (.sc (.bool true))) (.t 70)⟩, 
 ⟨(some 72), none, .mv (.t 71)⟩, 
 ⟨(some 73), (some ((some 72), true)), .call 9 []⟩, 
 ⟨(some 74), none, .pick (.t 72) (.t 73) (.k (.sc (.bool false)))⟩, 
 ⟨(some 2), none, .mv (.t 74)⟩])
 .ret))))))
def k5 : List Nat := [0, 1, 2, 3, 4, 5, 6, 7, 8, 18, 59]
theorem ic5 : factsI Tryd.prog 5 = some (75, [.tmp 2], c5) := by kernel_rfl

-- chargenet/chargenetlaw34.TxnEnds (79 slots)
def c6 : IC :=
 (.seq (.reg [⟨(some 1), none, .bx (.t 0)⟩, 
 ⟨(some 2), none, .mv (.k (.sc (.bool false)))⟩])
 (.seq (.seq (.reg [⟨(some 9), none, .sh 0 (.t 1)⟩, 
 ⟨(some 10), none, .ld (some 9) (.t 9)⟩, 
 ⟨(some 11), none, .call 8 [(.t 10)]⟩, 
 ⟨(some 12), none, .un .not (.t 11) (pu (.unOp .not 4 (.tmp 11)) 4)⟩, 
 ⟨(some 13), none, .mv (.t 12)⟩, 
 ⟨(some 14), (some ((some 13), false)), .sh 9 (.t 1)⟩, 
 ⟨(some 15), (some ((some 13), false)), .ld none (.t 14)⟩, 
 ⟨(some 16), (some ((some 13), false)), .lens (.t 15) (pu (.call ⟨.builtin .len, #[(.tmp 15)], #[9]⟩) 3)⟩, 
 ⟨(some 17), (some ((some 13), false)), .bin .gtr false (.t 16) (.k (.sc (.int .i64 50))) (pu (.binOp .gtr 3 (.tmp 16) (.const (.int .i64 50)) 3) 4)⟩, 
 ⟨(some 18), none, .pick (.t 13) (.k (.sc (.bool true))) (.t 17)⟩])
 (.cond (.t 18) (.seq (.reg [⟨(some 19), none, .call 9 []⟩, 
  ⟨(some 2), none, .mv (.t 19)⟩])
  .ret)
 .skip))
 (.seq (.reg [⟨(some 21), none, .sh 0 (.t 1)⟩, 
 ⟨(some 22), none, .ld (some 9) (.t 21)⟩, 
 ⟨(some 23), none, .sh 9 (.t 1)⟩, 
 ⟨(some 24), none, .ld none (.t 23)⟩, 
 ⟨(some 25), none, .sh 10 (.t 1)⟩, 
 ⟨(some 26), none, .ld (some 2) (.t 25)⟩, 
 ⟨(some 27), none, .sh 12 (.t 1)⟩, 
 ⟨(some 28), none, .ld none (.t 27)⟩, 
 ⟨(some 29), none, .sh 13 (.t 1)⟩, 
 ⟨(some 30), none, .ld none (.t 29)⟩, 
 ⟨(some 31), none, .call 18 [(.t 22), (.t 24), (.t 26), (.t 28), (.t 30)]⟩, 
 ⟨(some 20), none, .mv (.t 31)⟩, 
 ⟨(some 32), none, .ext (.t 20) 0⟩, 
 ⟨(some 33), none, .ext (.t 20) 1⟩, 
 ⟨(some 34), none, .ext (.t 20) 2⟩, 
 ⟨(some 3), none, .al (.agg [(.sc (.string ⟨#[]⟩)), (.sc (.int .i64 0)), (.sc (.string ⟨#[]⟩)), (.sc (.string ⟨#[]⟩)), (.sc (.int .i64 0)), (.sc (.int .i64 0)), (.sc (.bool false)), (.sc (.int .i64 0)), (.sc (.int .i64 0))]) 9⟩, 
 ⟨(some 4), none, .al (.agg [(.sc (.string ⟨#[]⟩)), (.sc (.string ⟨#[]⟩)), (.sc (.int .i64 0)), (.sc (.int .i64 0)), (.sc (.int .i64 0)), (.sc (.int .i64 0)), (.sc (.string ⟨#[]⟩)), (.sc (.bool false)), (.sc (.int .i64 0)), (.sc (.slice none 0 0))]) 10⟩, 
 ⟨none, none, .st 9 (.t 3) (.t 32)⟩, 
 ⟨none, none, .st 10 (.t 4) (.t 33)⟩, 
 ⟨(some 5), none, .mv (.t 34)⟩])
 (.seq (.reg [⟨(some 36), none, .sh 0 (.t 1)⟩, 
 ⟨(some 37), none, .ld (some 9) (.t 36)⟩, 
 ⟨(some 38), none, .sh 9 (.t 1)⟩, 
 ⟨(some 39), none, .ld none (.t 38)⟩, 
 ⟨(some 40), none, .sh 10 (.t 1)⟩, 
 ⟨(some 41), none, .ld (some 2) (.t 40)⟩, 
 ⟨(some 42), none, .sh 12 (.t 1)⟩, 
 ⟨(some 43), none, .ld none (.t 42)⟩, 
 ⟨(some 44), none, .sh 13 (.t 1)⟩, 
 ⟨(some 45), none, .ld none (.t 44)⟩, 
 ⟨(some 46), none, .call 19 [(.t 37), (.t 39), (.t 41), (.t 43), (.t 45)]⟩, 
 ⟨(some 35), none, .mv (.t 46)⟩, 
 ⟨(some 47), none, .ext (.t 35) 0⟩, 
 ⟨(some 48), none, .ext (.t 35) 1⟩, 
 ⟨(some 49), none, .ext (.t 35) 2⟩, 
 ⟨(some 6), none, .al (.agg [(.sc (.string ⟨#[]⟩)), (.sc (.int .i64 0)), (.sc (.string ⟨#[]⟩)), (.sc (.string ⟨#[]⟩)), (.sc (.int .i64 0)), (.sc (.int .i64 0)), (.sc (.bool false)), (.sc (.int .i64 0)), (.sc (.int .i64 0))]) 9⟩, 
 ⟨(some 7), none, .al (.agg [(.sc (.string ⟨#[]⟩)), (.sc (.string ⟨#[]⟩)), (.sc (.int .i64 0)), (.sc (.int .i64 0)), (.sc (.int .i64 0)), (.sc (.int .i64 0)), (.sc (.string ⟨#[]⟩)), (.sc (.bool false)), (.sc (.int .i64 0)), (.sc (.slice none 0 0))]) 10⟩, 
 ⟨none, none, .st 9 (.t 6) (.t 47)⟩, 
 ⟨none, none, .st 10 (.t 7) (.t 48)⟩, 
 ⟨(some 8), none, .mv (.t 49)⟩])
 (.seq (.seq (.reg [⟨(some 50), none, .ld (some 9) (.t 3)⟩, 
 ⟨(some 51), none, .ld (some 9) (.t 6)⟩, 
 ⟨(some 52), none, .bin .neq false (.t 50) (.t 51) (pu (.binOp .neq 25 (.tmp 50) (.tmp 51) 25) 4)⟩, 
 ⟨(some 53), none, .mv (.t 52)⟩, 
 ⟨(some 54), (some ((some 53), false)), .ld (some 10) (.t 4)⟩, 
 ⟨(some 55), (some ((some 53), false)), .ld (some 10) (.t 7)⟩, 
 ⟨(some 56), (some ((some 53), false)), .call 14 [(.t 54), (.t 55)]⟩, 
 ⟨(some 57), (some ((some 53), false)), .un .not (.t 56) (pu (.unOp .not 4 (.tmp 56)) 4)⟩, 
 ⟨(some 58), none, .pick (.t 53) (.k (.sc (.bool true))) (.t 57)⟩, 
 ⟨(some 59), none, .mv (.t 58)⟩, 
 ⟨(some 60), (some ((some 59), false)), .mv (.t 5)⟩, 
 ⟨(some 61), (some ((some 59), false)), .mv (.t 8)⟩, 
 ⟨(some 62), (some ((some 59), false)), .bin .neq false (.t 60) (.t 61) (pu (.binOp .neq 28 (.tmp 60) (.tmp 61) 28) 4)⟩, 
 ⟨(some 63), none, .pick (.t 59) (.k (.sc (.bool true))) (.t 62)⟩])
 (.cond (.t 63) (.seq (.reg [⟨(some 2), none, .mv (.k (.sc (.bool false)))⟩])
  .ret)
 .skip))
 (.seq (.reg [⟨(some 64), none, .mv (.t 5)⟩, 
 ⟨(some 65), none, .bin .neq false (.t 64) (.k (.sc (.int .i64 0))) (pu (.binOp .neq 28 (.tmp 64) (.const (.int .i64 0)) 28) 4)⟩, 
 ⟨(some 66), none, .mv (.t 65)⟩, 
 ⟨(some 67), (some ((some 66), false)), .ld (some 9) (.t 3)⟩, 
 ⟨(some 68), (some ((some 66), false)), .bld [(.sc (.string ⟨#[]⟩)), (.sc (.int .i64 0)), (.sc (.string ⟨#[]⟩)), (.sc (.string ⟨#[]⟩)), (.sc (.int .i64 0)), (.sc (.int .i64 0)), (.sc (.bool false)), (.sc (.int .i64 0)), (.sc (.int .i64 0))] []⟩, 
 ⟨(some 69), (some ((some 66), false)), .bin .eql false (.t 67) (.t 68) (pu (.binOp .eql 25 (.tmp 67) (.tmp 68) 25) 4)⟩, 
 ⟨(some 70), (some ((some 66), false)), .mv (.t 69)⟩, 
 ⟨(some 71), (some ((some 70), true)), .ld (some 10) (.t 4)⟩, 
 ⟨(some 72), (some ((some 70), true)), .call 15 [(.t 71)]⟩, 
 ⟨(some 73), (some ((some 70), true)), .bin .eql false (.t 72) (.k (.sc (.int .i64 0))) (pu (.binOp .eql 28 (.tmp 72) (.const (.int .i64 0)) 28) 4)⟩, 
 ⟨(some 74), (some ((some 66), false)), .pick (.t 70) (.t 73) (.k (.sc (.bool false)))⟩, 
 ⟨(some 75), none, .pick (.t 66) (.k (.sc (.bool true))) (.t 74)⟩, 
 ⟨(some 76), none, .mv (.t 75)⟩, 
 ⟨(some 77), (some ((some 76), true)), .call 9 []⟩, 
 ⟨(some 78), none, .pick (.t 76) (.t 77) (.k (.sc (.bool false)))⟩, 
 ⟨(some 2), none, .mv (.t 78)⟩])
 .ret))))))
def k6 : List Nat := [0, 1, 2, 3, 4, 5, 6, 7, 8, 18, 63]
theorem ic6 : factsI Tryd.prog 6 = some (79, [.tmp 2], c6) := by kernel_rfl

-- chargenet/chargenetlaw34.TxnCourses (243 slots)
def c7 : IC :=
 (.seq (.reg [⟨(some 1), none, .bx (.t 0)⟩, 
 ⟨(some 2), none, .mv (.k (.sc (.bool false)))⟩])
 (.seq (.seq (.reg [⟨(some 18), none, .sh 12 (.t 1)⟩, 
 ⟨(some 19), none, .ld none (.t 18)⟩, 
 ⟨(some 20), none, .len (.t 19) (pu (.call ⟨.builtin .len, #[(.tmp 19)], #[34]⟩) 3)⟩, 
 ⟨(some 21), none, .bin .gtr false (.t 20) (.k (.sc (.int .i64 20))) (pu (.binOp .gtr 3 (.tmp 20) (.const (.int .i64 20)) 3) 4)⟩, 
 ⟨(some 22), none, .mv (.t 21)⟩, 
 ⟨(some 23), (some ((some 22), false)), .sh 0 (.t 1)⟩, 
 ⟨(some 24), (some ((some 22), false)), .sh 0 (.t 23)⟩, 
 ⟨(some 25), (some ((some 22), false)), .ld none (.t 24)⟩, 
 ⟨(some 26), (some ((some 22), false)), .lens (.t 25) (pu (.call ⟨.builtin .len, #[(.tmp 25)], #[9]⟩) 3)⟩, 
 ⟨(some 27), (some ((some 22), false)), .bin .gtr false (.t 26) (.k (.sc (.int .i64 50))) (pu (.binOp .gtr 3 (.tmp 26) (.const (.int .i64 50)) 3) 4)⟩, 
 ⟨(some 28), none, .pick (.t 22) (.k (.sc (.bool true))) (.t 27)⟩, 
 ⟨(some 29), none, .mv (.t 28)⟩, 
 ⟨(some 30), (some ((some 29), false)), .sh 0 (.t 1)⟩, 
 ⟨(some 31), (some ((some 29), false)), .sh 3 (.t 30)⟩, 
 ⟨(some 32), (some ((some 29), false)), .sh 0 (.t 31)⟩, 
 ⟨(some 33), (some ((some 29), false)), .ld none (.t 32)⟩, 
 ⟨(some 34), (some ((some 29), false)), .lens (.t 33) (pu (.call ⟨.builtin .len, #[(.tmp 33)], #[9]⟩) 3)⟩, 
 ⟨(some 35), (some ((some 29), false)), .bin .gtr false (.t 34) (.k (.sc (.int .i64 50))) (pu (.binOp .gtr 3 (.tmp 34) (.const (.int .i64 50)) 3) 4)⟩, 
 ⟨(some 36), none, .pick (.t 29) (.k (.sc (.bool true))) (.t 35)⟩, 
 ⟨(some 37), none, .mv (.t 36)⟩, 
 ⟨(some 38), (some ((some 37), false)), .sh 0 (.t 1)⟩, 
 ⟨(some 39), (some ((some 37), false)), .sh 3 (.t 38)⟩, 
 ⟨(some 40), (some ((some 37), false)), .sh 1 (.t 39)⟩, 
 ⟨(some 41), (some ((some 37), false)), .ld none (.t 40)⟩, 
 ⟨(some 42), (some ((some 37), false)), .lens (.t 41) (pu (.call ⟨.builtin .len, #[(.tmp 41)], #[9]⟩) 3)⟩, 
 ⟨(some 43), (some ((some 37), false)), .bin .gtr false (.t 42) (.k (.sc (.int .i64 50))) (pu (.binOp .gtr 3 (.tmp 42) (.const (.int .i64 50)) 3) 4)⟩, 
 ⟨(some 44), none, .pick (.t 37) (.k (.sc (.bool true))) (.t 43)⟩, 
 ⟨(some 45), none, .mv (.t 44)⟩, 
 ⟨(some 46), (some ((some 45), false)), .sh 0 (.t 1)⟩, 
 ⟨(some 47), (some ((some 45), false)), .sh 3 (.t 46)⟩, 
 ⟨(some 48), (some ((some 45), false)), .sh 2 (.t 47)⟩, 
 ⟨(some 49), (some ((some 45), false)), .ld none (.t 48)⟩, 
 ⟨(some 50), (some ((some 45), false)), .lens (.t 49) (pu (.call ⟨.builtin .len, #[(.tmp 49)], #[9]⟩) 3)⟩, 
 ⟨(some 51), (some ((some 45), false)), .bin .gtr false (.t 50) (.k (.sc (.int .i64 50))) (pu (.binOp .gtr 3 (.tmp 50) (.const (.int .i64 50)) 3) 4)⟩, 
 ⟨(some 52), none, .pick (.t 45) (.k (.sc (.bool true))) (.t 51)⟩])
 (.cond (.t 52) (.seq (.reg [⟨(some 53), none, .call 9 []⟩, 
  ⟨(some 2), none, .mv (.t 53)⟩])
  .ret)
 .skip))
 (.seq (.reg [⟨(some 55), none, .sh 0 (.t 1)⟩, 
 ⟨(some 56), none, .sh 0 (.t 55)⟩, 
 ⟨(some 57), none, .ld none (.t 56)⟩, 
 ⟨(some 58), none, .sh 0 (.t 1)⟩, 
 ⟨(some 59), none, .sh 1 (.t 58)⟩, 
 ⟨(some 60), none, .ld none (.t 59)⟩, 
 ⟨(some 61), none, .sh 0 (.t 1)⟩, 
 ⟨(some 62), none, .sh 2 (.t 61)⟩, 
 ⟨(some 63), none, .ld none (.t 62)⟩, 
 ⟨(some 64), none, .sh 0 (.t 1)⟩, 
 ⟨(some 65), none, .sh 3 (.t 64)⟩, 
 ⟨(some 66), none, .ld (some 6) (.t 65)⟩, 
 ⟨(some 67), none, .sh 0 (.t 1)⟩, 
 ⟨(some 68), none, .sh 9 (.t 67)⟩, 
 ⟨(some 69), none, .ld (some 2) (.t 68)⟩, 
 ⟨(some 70), none, .sh 0 (.t 1)⟩, 
 ⟨(some 71), none, .sh 11 (.t 70)⟩, 
 ⟨(some 72), none, .ld none (.t 71)⟩, 
 ⟨(some 73), none, .call 12 [(.t 57), (.t 60), (.t 63), (.t 66), (.t 69), (.t 72)]⟩, 
 ⟨(some 54), none, .mv (.t 73)⟩, 
 ⟨(some 74), none, .ext (.t 54) 0⟩, 
 ⟨(some 75), none, .ext (.t 54) 1⟩, 
 ⟨(some 76), none, .ext (.t 54) 2⟩, 
 ⟨(some 3), none, .al (.agg [(.sc (.string ⟨#[]⟩)), (.sc (.int .i64 0)), (.sc (.string ⟨#[]⟩)), (.sc (.string ⟨#[]⟩)), (.sc (.int .i64 0)), (.sc (.int .i64 0)), (.sc (.bool false)), (.sc (.int .i64 0)), (.sc (.int .i64 0))]) 9⟩, 
 ⟨(some 4), none, .al (.agg [(.sc (.string ⟨#[]⟩)), (.sc (.string ⟨#[]⟩)), (.sc (.int .i64 0)), (.sc (.int .i64 0)), (.sc (.int .i64 0)), (.sc (.int .i64 0)), (.sc (.string ⟨#[]⟩)), (.sc (.bool false)), (.sc (.int .i64 0)), (.sc (.slice none 0 0))]) 10⟩, 
 ⟨none, none, .st 9 (.t 3) (.t 74)⟩, 
 ⟨none, none, .st 10 (.t 4) (.t 75)⟩, 
 ⟨(some 5), none, .mv (.t 76)⟩])
 (.seq (.seq (.reg [⟨(some 77), none, .mv (.t 5)⟩, 
 ⟨(some 78), none, .bin .neq false (.t 77) (.k (.sc (.int .i64 0))) (pu (.binOp .neq 28 (.tmp 77) (.const (.int .i64 0)) 28) 4)⟩])
 (.cond (.t 78) (.seq (.reg [⟨(some 79), none, .call 9 []⟩, 
  ⟨(some 2), none, .mv (.t 79)⟩])
  .ret)
 .skip))
 (.seq (.reg [⟨(some 80), none, .ld (some 10) (.t 4)⟩, 
 ⟨(some 81), none, .bsl 10 1 true [(.sc (.string ⟨#[]⟩)), (.sc (.string ⟨#[]⟩)), (.sc (.int .i64 0)), (.sc (.int .i64 0)), (.sc (.int .i64 0)), (.sc (.int .i64 0)), (.sc (.string ⟨#[]⟩)), (.sc (.bool false)), (.sc (.int .i64 0)), (.sc (.slice none 0 0))] [(0, 10, (.t 80))]⟩, 
 ⟨(some 6), none, .mv (.t 81)⟩])
 (.seq (.seq (.reg [⟨(some 7), none, .mv (.k (.sc (.int .i64 0)))⟩])
 (.block 0 (.loop (.seq (.seq (.reg [⟨(some 82), none, .mv (.t 7)⟩, 
  ⟨(some 83), none, .sh 12 (.t 1)⟩, 
  ⟨(some 84), none, .ld none (.t 83)⟩, 
  ⟨(some 85), none, .len (.t 84) (pu (.call ⟨.builtin .len, #[(.tmp 84)], #[34]⟩) 3)⟩, 
  ⟨(some 86), none, .bin .lss false (.t 82) (.t 85) (pu (.binOp .lss 3 (.tmp 82) (.tmp 85) 3) 4)⟩])
  (.cond (.t 86) .skip
  (.exit 0)))
  (.seq (.block 1 (.seq (.drw [0, 0, 2, 6, 0, 16, 0, 112, 240, 0, 512, 1536, 4095, 8191, 16383, 16383, 16383, 0, 0, 425983, 983039, 2097151] [⟨(some 90), none, .ld (some 9) (.t 3)⟩, 
  ⟨(some 91), none, .sh 0 (.t 1)⟩, 
  ⟨(some 92), none, .sh 0 (.t 91)⟩, 
  ⟨(some 93), none, .ld none (.t 92)⟩, 
  ⟨(some 94), none, .sh 12 (.t 1)⟩, 
  ⟨(some 95), none, .ld none (.t 94)⟩, 
  ⟨(some 96), none, .mv (.t 7)⟩, 
  ⟨(some 97), none, .ixs 2 (.t 95) (.t 96)⟩, 
  ⟨(some 98), none, .ld (some 2) (.t 97)⟩, 
  ⟨(some 99), none, .mv (.t 7)⟩, 
  ⟨(some 100), none, .bin .rem false (.t 99) (.k (.sc (.int .i64 2))) (pu (.binOp .rem 3 (.tmp 99) (.const (.int .i64 2)) 3) 3)⟩, 
  ⟨(some 101), none, .bin .eql false (.t 100) (.k (.sc (.int .i64 1))) (pu (.binOp .eql 3 (.tmp 100) (.const (.int .i64 1)) 3) 4)⟩, 
  ⟨(some 102), none, .call 16 [(.t 90), (.t 93), (.t 98), (.t 101)]⟩, 
  ⟨(some 89), none, .mv (.t 102)⟩, 
  ⟨(some 103), none, .ext (.t 89) 0⟩, 
  ⟨(some 104), none, .ext (.t 89) 1⟩, 
  ⟨(some 105), none, .ext (.t 89) 2⟩, 
  ⟨(some 8), none, .al (.agg [(.sc (.string ⟨#[]⟩)), (.sc (.int .i64 0)), (.sc (.string ⟨#[]⟩)), (.sc (.string ⟨#[]⟩)), (.sc (.int .i64 0)), (.sc (.int .i64 0)), (.sc (.bool false)), (.sc (.int .i64 0)), (.sc (.int .i64 0))]) 9⟩, 
  ⟨(some 9), none, .al (.agg [(.sc (.string ⟨#[]⟩)), (.sc (.string ⟨#[]⟩)), (.sc (.int .i64 0)), (.sc (.int .i64 0)), (.sc (.int .i64 0)), (.sc (.int .i64 0)), (.sc (.string ⟨#[]⟩)), (.sc (.bool false)), (.sc (.int .i64 0)), (.sc (.slice none 0 0))]) 10⟩, 
  ⟨none, none, .st 9 (.t 8) (.t 103)⟩, 
  ⟨none, none, .st 10 (.t 9) (.t 104)⟩, 
  ⟨(some 10), none, .mv (.t 105)⟩])
  (.seq (.seq (.reg [⟨(some 106), none, .mv (.t 10)⟩, 
  ⟨(some 107), none, .bin .neq false (.t 106) (.k (.sc (.int .i64 0))) (pu (.binOp .neq 28 (.tmp 106) (.const (.int .i64 0)) 28) 4)⟩, 
  ⟨(some 108), none, .mv (.t 107)⟩, 
  ⟨(some 109), (some ((some 108), true)), .ld (some 9) (.t 8)⟩, 
  ⟨(some 110), (some ((some 108), true)), .ld (some 9) (.t 3)⟩, 
  ⟨(some 111), (some ((some 108), true)), .bin .neq false (.t 109) (.t 110) (pu (.binOp .neq 25 (.tmp 109) (.tmp 110) 25) 4)⟩, 
  ⟨(some 112), (some ((some 108), true)), .mv (.t 111)⟩, 
  ⟨(some 113), (some ((some 112), false)), .ld (some 10) (.t 9)⟩, 
  ⟨(some 114), (some ((some 112), false)), .bld [(.sc (.string ⟨#[]⟩)), (.sc (.string ⟨#[]⟩)), (.sc (.int .i64 0)), (.sc (.int .i64 0)), (.sc (.int .i64 0)), (.sc (.int .i64 0)), (.sc (.string ⟨#[]⟩)), (.sc (.bool false)), (.sc (.int .i64 0)), (.sc (.slice none 0 0))] []⟩, 
  ⟨(some 115), (some ((some 112), false)), .call 14 [(.t 113), (.t 114)]⟩, 
  ⟨(some 116), (some ((some 112), false)), .un .not (.t 115) (pu (.unOp .not 4 (.tmp 115)) 4)⟩, 
  ⟨(some 117), (some ((some 108), true)), .pick (.t 112) (.k (.sc (.bool true))) (.t 116)⟩, 
  ⟨(some 118), none, .pick (.t 108) (.t 117) (.k (.sc (.bool false)))⟩])
  (.cond (.t 118) (.seq (.reg [⟨(some 2), none, .mv (.k (.sc (.bool false)))⟩])
   .ret)
  .skip))
  (.seq (.seq (.reg [⟨(some 119), none, .mv (.t 10)⟩, 
  ⟨(some 120), none, .bin .eql false (.t 119) (.k (.sc (.int .i64 0))) (pu (.binOp .eql 28 (.tmp 119) (.const (.int .i64 0)) 28) 4)⟩])
  (.cond (.t 120) (.reg [⟨(some 121), none, .mv (.t 6)⟩, 
   ⟨(some 122), none, .ld (some 10) (.t 9)⟩, 
   ⟨(some 123), none, .bsl 10 1 true [(.sc (.string ⟨#[]⟩)), (.sc (.string ⟨#[]⟩)), (.sc (.int .i64 0)), (.sc (.int .i64 0)), (.sc (.int .i64 0)), (.sc (.int .i64 0)), (.sc (.string ⟨#[]⟩)), (.sc (.bool false)), (.sc (.int .i64 0)), (.sc (.slice none 0 0))] [(0, 10, (.t 122))]⟩, 
   ⟨(some 124), none, .app 10 120 (.t 121) (.t 123)⟩, 
   ⟨(some 6), none, .mv (.t 124)⟩])
  .skip))
  (.reg [⟨(some 125), none, .ld (some 9) (.t 8)⟩, 
  ⟨none, none, .st 9 (.t 3) (.t 125)⟩])))))
  (.reg [⟨(some 87), none, .mv (.t 7)⟩, 
  ⟨(some 88), none, .bin .add false (.t 87) (.k (.sc (.int .i64 1))) (pu (.binOp .add 3 (.tmp 87) (.const (.int .i64 1)) 3) 3)⟩, 
  ⟨(some 7), none, .mv (.t 88)⟩]))))))
 (.seq (.reg [⟨(some 126), none, .sh 7 (.t 3)⟩, 
 ⟨(some 127), none, .ld (some 2) (.t 126)⟩, 
 ⟨(some 11), none, .al (.agg [(.sc (.int .i64 0)), (.sc (.int .i64 0))]) 2⟩, 
 ⟨none, none, .st 2 (.t 11) (.t 127)⟩])
 (.seq (.reg [⟨(some 129), none, .ld (some 9) (.t 3)⟩, 
 ⟨(some 130), none, .sh 0 (.t 1)⟩, 
 ⟨(some 131), none, .sh 0 (.t 130)⟩, 
 ⟨(some 132), none, .ld none (.t 131)⟩, 
 ⟨(some 133), none, .ld (some 2) (.t 11)⟩, 
 ⟨(some 134), none, .sh 13 (.t 1)⟩, 
 ⟨(some 135), none, .ld none (.t 134)⟩, 
 ⟨(some 136), none, .call 18 [(.t 129), (.t 132), (.t 133), (.t 135), (.k (.sc (.bool false)))]⟩, 
 ⟨(some 128), none, .mv (.t 136)⟩, 
 ⟨(some 137), none, .ext (.t 128) 0⟩, 
 ⟨(some 138), none, .ext (.t 128) 1⟩, 
 ⟨(some 139), none, .ext (.t 128) 2⟩, 
 ⟨(some 12), none, .al (.agg [(.sc (.string ⟨#[]⟩)), (.sc (.int .i64 0)), (.sc (.string ⟨#[]⟩)), (.sc (.string ⟨#[]⟩)), (.sc (.int .i64 0)), (.sc (.int .i64 0)), (.sc (.bool false)), (.sc (.int .i64 0)), (.sc (.int .i64 0))]) 9⟩, 
 ⟨(some 13), none, .al (.agg [(.sc (.string ⟨#[]⟩)), (.sc (.string ⟨#[]⟩)), (.sc (.int .i64 0)), (.sc (.int .i64 0)), (.sc (.int .i64 0)), (.sc (.int .i64 0)), (.sc (.string ⟨#[]⟩)), (.sc (.bool false)), (.sc (.int .i64 0)), (.sc (.slice none 0 0))]) 10⟩, 
 ⟨none, none, .st 9 (.t 12) (.t 137)⟩, 
 ⟨none, none, .st 10 (.t 13) (.t 138)⟩, 
 ⟨(some 14), none, .mv (.t 139)⟩])
 (.seq (.reg [⟨(some 140), none, .mv (.t 14)⟩, 
 ⟨(some 141), none, .bin .eql false (.t 140) (.k (.sc (.int .i64 0))) (pu (.binOp .eql 28 (.tmp 140) (.const (.int .i64 0)) 28) 4)⟩, 
 ⟨(some 15), none, .mv (.t 141)⟩])
 (.seq (.seq (.reg [⟨(some 142), none, .mv (.t 15)⟩, 
 ⟨(some 143), none, .sh 13 (.t 1)⟩, 
 ⟨(some 144), none, .ld none (.t 143)⟩, 
 ⟨(some 145), none, .bin .geq false (.t 144) (.k (.sc (.int .i64 1))) (pu (.binOp .geq 3 (.tmp 144) (.const (.int .i64 1)) 3) 4)⟩, 
 ⟨(some 146), none, .mv (.t 145)⟩, 
 ⟨(some 147), (some ((some 146), true)), .sh 13 (.t 1)⟩, 
 ⟨(some 148), (some ((some 146), true)), .ld none (.t 147)⟩, 
 ⟨(some 149), (some ((some 146), true)), .bin .leq false (.t 148) (.k (.sc (.int .i64 6))) (pu (.binOp .leq 3 (.tmp 148) (.const (.int .i64 6)) 3) 4)⟩, 
 ⟨(some 150), none, .pick (.t 146) (.t 149) (.k (.sc (.bool false)))⟩, 
 ⟨(some 151), none, .bin .neq true (.t 142) (.t 150) (pu (.binOp .neq 4 (.tmp 142) (.tmp 150) 4) 4)⟩])
 (.cond (.t 151) (.seq (.reg [⟨(some 2), none, .mv (.k (.sc (.bool false)))⟩])
  .ret)
 .skip))
 (.seq (.seq (.reg [⟨(some 152), none, .mv (.t 15)⟩])
 (.cond (.t 152) (.reg [⟨(some 153), none, .mv (.t 6)⟩, 
  ⟨(some 154), none, .ld (some 10) (.t 13)⟩, 
  ⟨(some 155), none, .bsl 10 1 true [(.sc (.string ⟨#[]⟩)), (.sc (.string ⟨#[]⟩)), (.sc (.int .i64 0)), (.sc (.int .i64 0)), (.sc (.int .i64 0)), (.sc (.int .i64 0)), (.sc (.string ⟨#[]⟩)), (.sc (.bool false)), (.sc (.int .i64 0)), (.sc (.slice none 0 0))] [(0, 10, (.t 154))]⟩, 
  ⟨(some 156), none, .app 10 120 (.t 153) (.t 155)⟩, 
  ⟨(some 6), none, .mv (.t 156)⟩])
 .skip))
 (.seq (.seq (.reg [⟨(some 16), none, .mv (.k (.sc (.int .i64 0)))⟩])
 (.block 2 (.loop (.seq (.seq (.reg [⟨(some 157), none, .mv (.t 16)⟩, 
  ⟨(some 158), none, .mv (.t 6)⟩, 
  ⟨(some 159), none, .len (.t 158) (pu (.call ⟨.builtin .len, #[(.tmp 158)], #[49]⟩) 3)⟩, 
  ⟨(some 160), none, .bin .lss false (.t 157) (.t 159) (pu (.binOp .lss 3 (.tmp 157) (.tmp 159) 3) 4)⟩])
  (.cond (.t 160) .skip
  (.exit 2)))
  (.seq (.block 3 (.seq (.reg [⟨(some 163), none, .mv (.t 6)⟩, 
  ⟨(some 164), none, .mv (.t 16)⟩, 
  ⟨(some 165), none, .ixs 10 (.t 163) (.t 164)⟩, 
  ⟨(some 166), none, .ld (some 10) (.t 165)⟩, 
  ⟨(some 17), none, .al (.agg [(.sc (.string ⟨#[]⟩)), (.sc (.string ⟨#[]⟩)), (.sc (.int .i64 0)), (.sc (.int .i64 0)), (.sc (.int .i64 0)), (.sc (.int .i64 0)), (.sc (.string ⟨#[]⟩)), (.sc (.bool false)), (.sc (.int .i64 0)), (.sc (.slice none 0 0))]) 10⟩, 
  ⟨none, none, .st 10 (.t 17) (.t 166)⟩])
  (.seq (.seq (.drw [0, 1, 3, 7, 15, 31, 15, 127, 255, 511, 1023, 2047, 1023, 5119, 16383, 32767, 65535, 131071, 262143, 131071, 655359, 1703935, 4194303, 8388607, 16777215, 33554431, 67108863, 134217727, 268435455, 536870911, 1073741823, 2147483647, 4294967295, 8589934591, 17179869183, 34359738367, 2147483647, 70866960383, 274877906943, 549755813887] [⟨(some 167), none, .ld (some 10) (.t 17)⟩, 
  ⟨(some 168), none, .call 15 [(.t 167)]⟩, 
  ⟨(some 169), none, .bin .neq false (.t 168) (.k (.sc (.int .i64 0))) (pu (.binOp .neq 28 (.tmp 168) (.const (.int .i64 0)) 28) 4)⟩, 
  ⟨(some 170), none, .mv (.t 169)⟩, 
  ⟨(some 171), (some ((some 170), false)), .sh 3 (.t 17)⟩, 
  ⟨(some 172), (some ((some 170), false)), .ld none (.t 171)⟩, 
  ⟨(some 173), (some ((some 170), false)), .mv (.t 16)⟩, 
  ⟨(some 174), (some ((some 170), false)), .bin .neq false (.t 172) (.t 173) (pu (.binOp .neq 3 (.tmp 172) (.tmp 173) 3) 4)⟩, 
  ⟨(some 175), none, .pick (.t 170) (.k (.sc (.bool true))) (.t 174)⟩, 
  ⟨(some 176), none, .mv (.t 175)⟩, 
  ⟨(some 177), (some ((some 176), false)), .sh 1 (.t 17)⟩, 
  ⟨(some 178), (some ((some 176), false)), .ld none (.t 177)⟩, 
  ⟨(some 179), (some ((some 176), false)), .sh 0 (.t 3)⟩, 
  ⟨(some 180), (some ((some 176), false)), .ld none (.t 179)⟩, 
  ⟨(some 181), (some ((some 176), false)), .bin .neq false (.t 178) (.t 180) (pu (.binOp .neq 9 (.tmp 178) (.tmp 180) 9) 4)⟩, 
  ⟨(some 182), none, .pick (.t 176) (.k (.sc (.bool true))) (.t 181)⟩, 
  ⟨(some 183), none, .mv (.t 182)⟩, 
  ⟨(some 184), (some ((some 183), false)), .sh 0 (.t 17)⟩, 
  ⟨(some 185), (some ((some 183), false)), .ld none (.t 184)⟩, 
  ⟨(some 186), (some ((some 183), false)), .sh 0 (.t 1)⟩, 
  ⟨(some 187), (some ((some 183), false)), .sh 0 (.t 186)⟩, 
  ⟨(some 188), (some ((some 183), false)), .ld none (.t 187)⟩, 
  ⟨(some 189), (some ((some 183), false)), .bin .neq false (.t 185) (.t 188) (pu (.binOp .neq 9 (.tmp 185) (.tmp 188) 9) 4)⟩, 
  ⟨(some 190), none, .pick (.t 183) (.k (.sc (.bool true))) (.t 189)⟩, 
  ⟨(some 191), none, .mv (.t 190)⟩, 
  ⟨(some 192), (some ((some 191), false)), .sh 9 (.t 17)⟩, 
  ⟨(some 193), (some ((some 191), false)), .ld none (.t 192)⟩, 
  ⟨(some 194), (some ((some 191), false)), .len (.t 193) (pu (.call ⟨.builtin .len, #[(.tmp 193)], #[34]⟩) 3)⟩, 
  ⟨(some 195), (some ((some 191), false)), .bin .neq false (.t 194) (.k (.sc (.int .i64 1))) (pu (.binOp .neq 3 (.tmp 194) (.const (.int .i64 1)) 3) 4)⟩, 
  ⟨(some 196), none, .pick (.t 191) (.k (.sc (.bool true))) (.t 195)⟩, 
  ⟨(some 197), none, .mv (.t 196)⟩, 
  ⟨(some 198), (some ((some 197), false)), .sh 9 (.t 17)⟩, 
  ⟨(some 199), (some ((some 197), false)), .ld none (.t 198)⟩, 
  ⟨(some 200), (some ((some 197), false)), .ixs 2 (.t 199) (.k (.sc (.int .i64 0)))⟩, 
  ⟨(some 201), (some ((some 197), false)), .sh 0 (.t 200)⟩, 
  ⟨(some 202), (some ((some 197), false)), .ld none (.t 201)⟩, 
  ⟨(some 203), (some ((some 197), false)), .sh 5 (.t 17)⟩, 
  ⟨(some 204), (some ((some 197), false)), .ld none (.t 203)⟩, 
  ⟨(some 205), (some ((some 197), false)), .bin .neq false (.t 202) (.t 204) (pu (.binOp .neq 3 (.tmp 202) (.tmp 204) 3) 4)⟩, 
  ⟨(some 206), none, .pick (.t 197) (.k (.sc (.bool true))) (.t 205)⟩])
  (.cond (.t 206) (.seq (.reg [⟨(some 2), none, .mv (.k (.sc (.bool false)))⟩])
   .ret)
  .skip))
  (.seq (.drw [0, 1, 3, 0, 8, 31, 63, 127, 255, 511, 127, 1151, 3199, 3199, 11391, 27775, 64639, 130175, 262143, 524287, 1048575, 2097151, 4194303, 8388607, 16777215, 33554431, 16777215, 16777215, 150994943, 486539263, 1023410175, 2097151999, 4294967295, 8589934591, 17179869183] [⟨(some 207), none, .sh 4 (.t 17)⟩, 
  ⟨(some 208), none, .ld none (.t 207)⟩, 
  ⟨(some 209), none, .bin .eql false (.t 208) (.k (.sc (.int .i64 1))) (pu (.binOp .eql 3 (.tmp 208) (.const (.int .i64 1)) 3) 4)⟩, 
  ⟨(some 210), none, .mv (.t 16)⟩, 
  ⟨(some 211), none, .bin .eql false (.t 210) (.k (.sc (.int .i64 0))) (pu (.binOp .eql 3 (.tmp 210) (.const (.int .i64 0)) 3) 4)⟩, 
  ⟨(some 212), none, .bin .neq true (.t 209) (.t 211) (pu (.binOp .neq 4 (.tmp 209) (.tmp 211) 4) 4)⟩, 
  ⟨(some 213), none, .mv (.t 212)⟩, 
  ⟨(some 214), (some ((some 213), false)), .sh 4 (.t 17)⟩, 
  ⟨(some 215), (some ((some 213), false)), .ld none (.t 214)⟩, 
  ⟨(some 216), (some ((some 213), false)), .bin .eql false (.t 215) (.k (.sc (.int .i64 3))) (pu (.binOp .eql 3 (.tmp 215) (.const (.int .i64 3)) 3) 4)⟩, 
  ⟨(some 217), (some ((some 213), false)), .mv (.t 15)⟩, 
  ⟨(some 218), (some ((some 213), false)), .mv (.t 217)⟩, 
  ⟨(some 219), (some ((some 218), true)), .mv (.t 16)⟩, 
  ⟨(some 220), (some ((some 218), true)), .mv (.t 6)⟩, 
  ⟨(some 221), (some ((some 218), true)), .len (.t 220) (pu (.call ⟨.builtin .len, #[(.tmp 220)], #[49]⟩) 3)⟩, 
  ⟨(some 222), (some ((some 218), true)), .bin .sub false (.t 221) (.k (.sc (.int .i64 1))) (pu (.binOp .sub 3 (.tmp 221) (.const (.int .i64 1)) 3) 3)⟩, 
  ⟨(some 223), (some ((some 218), true)), .bin .eql false (.t 219) (.t 222) (pu (.binOp .eql 3 (.tmp 219) (.tmp 222) 3) 4)⟩, 
  ⟨(some 224), (some ((some 213), false)), .pick (.t 218) (.t 223) (.k (.sc (.bool false)))⟩, 
  ⟨(some 225), (some ((some 213), false)), .bin .neq true (.t 216) (.t 224) (pu (.binOp .neq 4 (.tmp 216) (.tmp 224) 4) 4)⟩, 
  ⟨(some 226), none, .pick (.t 213) (.k (.sc (.bool true))) (.t 225)⟩, 
  ⟨(some 227), none, .mv (.t 226)⟩, 
  ⟨(some 228), (some ((some 227), false)), .mv (.t 16)⟩, 
  ⟨(some 229), (some ((some 227), false)), .bin .gtr false (.t 228) (.k (.sc (.int .i64 0))) (pu (.binOp .gtr 3 (.tmp 228) (.const (.int .i64 0)) 3) 4)⟩, 
  ⟨(some 230), (some ((some 227), false)), .mv (.t 229)⟩, 
  ⟨(some 231), (some ((some 230), true)), .sh 5 (.t 17)⟩, 
  ⟨(some 232), (some ((some 230), true)), .ld none (.t 231)⟩, 
  ⟨(some 233), (some ((some 230), true)), .mv (.t 6)⟩, 
  ⟨(some 234), (some ((some 230), true)), .mv (.t 16)⟩, 
  ⟨(some 235), (some ((some 230), true)), .bin .sub false (.t 234) (.k (.sc (.int .i64 1))) (pu (.binOp .sub 3 (.tmp 234) (.const (.int .i64 1)) 3) 3)⟩, 
  ⟨(some 236), (some ((some 230), true)), .ixs 10 (.t 233) (.t 235)⟩, 
  ⟨(some 237), (some ((some 230), true)), .sh 5 (.t 236)⟩, 
  ⟨(some 238), (some ((some 230), true)), .ld none (.t 237)⟩, 
  ⟨(some 239), (some ((some 230), true)), .bin .lss false (.t 232) (.t 238) (pu (.binOp .lss 3 (.tmp 232) (.tmp 238) 3) 4)⟩, 
  ⟨(some 240), (some ((some 227), false)), .pick (.t 230) (.t 239) (.k (.sc (.bool false)))⟩, 
  ⟨(some 241), none, .pick (.t 227) (.k (.sc (.bool true))) (.t 240)⟩])
  (.cond (.t 241) (.seq (.reg [⟨(some 2), none, .mv (.k (.sc (.bool false)))⟩])
   .ret)
  .skip)))))
  (.reg [⟨(some 161), none, .mv (.t 16)⟩, 
  ⟨(some 162), none, .bin .add false (.t 161) (.k (.sc (.int .i64 1))) (pu (.binOp .add 3 (.tmp 161) (.const (.int .i64 1)) 3) 3)⟩, 
  ⟨(some 16), none, .mv (.t 162)⟩]))))))
 (.seq (.reg [⟨(some 242), none, .call 9 []⟩, 
 ⟨(some 2), none, .mv (.t 242)⟩])
 .ret)))))))))))))
def k7 : List Nat := [0, 1, 2, 3, 4, 5, 6, 7, 8, 9, 10, 11, 13, 14, 15, 16, 17, 52, 78, 86, 118, 120, 151, 152, 160, 206, 241]
theorem ic7 : factsI Tryd.prog 7 = some (243, [.tmp 2], c7) := by kernel_rfl

-- chargenet/chargenetlaw34.short (19 slots)
def c8 : IC :=
 (.seq (.reg [⟨(some 1), none, .bx (.t 0)⟩, 
 ⟨(some 2), none, .mv (.k (.sc (.bool false)))⟩])
 (.seq (.reg [⟨(some 3), none, .sh 0 (.t 1)⟩, 
 ⟨(some 4), none, .ld none (.t 3)⟩, 
 ⟨(some 5), none, .lens (.t 4) (pu (.call ⟨.builtin .len, #[(.tmp 4)], #[9]⟩) 3)⟩, 
 ⟨(some 6), none, .bin .leq false (.t 5) (.k (.sc (.int .i64 50))) (pu (.binOp .leq 3 (.tmp 5) (.const (.int .i64 50)) 3) 4)⟩, 
 ⟨(some 7), none, .mv (.t 6)⟩, 
 ⟨(some 8), (some ((some 7), true)), .sh 2 (.t 1)⟩, 
 ⟨(some 9), (some ((some 7), true)), .ld none (.t 8)⟩, 
 ⟨(some 10), (some ((some 7), true)), .lens (.t 9) (pu (.call ⟨.builtin .len, #[(.tmp 9)], #[9]⟩) 3)⟩, 
 ⟨(some 11), (some ((some 7), true)), .bin .leq false (.t 10) (.k (.sc (.int .i64 50))) (pu (.binOp .leq 3 (.tmp 10) (.const (.int .i64 50)) 3) 4)⟩, 
 ⟨(some 12), none, .pick (.t 7) (.t 11) (.k (.sc (.bool false)))⟩, 
 ⟨(some 13), none, .mv (.t 12)⟩, 
 ⟨(some 14), (some ((some 13), true)), .sh 3 (.t 1)⟩, 
 ⟨(some 15), (some ((some 13), true)), .ld none (.t 14)⟩, 
 ⟨(some 16), (some ((some 13), true)), .lens (.t 15) (pu (.call ⟨.builtin .len, #[(.tmp 15)], #[9]⟩) 3)⟩, 
 ⟨(some 17), (some ((some 13), true)), .bin .leq false (.t 16) (.k (.sc (.int .i64 50))) (pu (.binOp .leq 3 (.tmp 16) (.const (.int .i64 50)) 3) 4)⟩, 
 ⟨(some 18), none, .pick (.t 13) (.t 17) (.k (.sc (.bool false)))⟩, 
 ⟨(some 2), none, .mv (.t 18)⟩])
 .ret))
def k8 : List Nat := [0, 1, 2]
theorem ic8 : factsI Tryd.prog 8 = some (19, [.tmp 2], c8) := by kernel_rfl

-- chargenet/chargenetlaw34.awake (103 slots)
def c9 : IC :=
 (.seq (.reg [⟨(some 0), none, .mv (.k (.sc (.bool false)))⟩])
 (.seq (.reg [⟨(some 14), none, .call 20 []⟩, 
 ⟨(some 15), none, .bld [(.sc (.int .i64 0)), (.sc (.int .i64 0))] [(0, 1, (.k (.sc (.int .i64 10)))), (1, 1, (.k (.sc (.int .i64 500))))]⟩, 
 ⟨(some 16), none, .call 12 [(.k (.sc (.string ⟨#[83]⟩))), (.k (.sc (.int .i64 7))), (.k (.sc (.int .i64 1))), (.t 14), (.t 15), (.k (.sc (.bool false)))]⟩, 
 ⟨(some 13), none, .mv (.t 16)⟩, 
 ⟨(some 17), none, .ext (.t 13) 0⟩, 
 ⟨(some 18), none, .ext (.t 13) 1⟩, 
 ⟨(some 19), none, .ext (.t 13) 2⟩, 
 ⟨(some 1), none, .al (.agg [(.sc (.string ⟨#[]⟩)), (.sc (.int .i64 0)), (.sc (.string ⟨#[]⟩)), (.sc (.string ⟨#[]⟩)), (.sc (.int .i64 0)), (.sc (.int .i64 0)), (.sc (.bool false)), (.sc (.int .i64 0)), (.sc (.int .i64 0))]) 9⟩, 
 ⟨(some 2), none, .al (.agg [(.sc (.string ⟨#[]⟩)), (.sc (.string ⟨#[]⟩)), (.sc (.int .i64 0)), (.sc (.int .i64 0)), (.sc (.int .i64 0)), (.sc (.int .i64 0)), (.sc (.string ⟨#[]⟩)), (.sc (.bool false)), (.sc (.int .i64 0)), (.sc (.slice none 0 0))]) 10⟩, 
 ⟨none, none, .st 9 (.t 1) (.t 17)⟩, 
 ⟨none, none, .st 10 (.t 2) (.t 18)⟩, 
 ⟨(some 3), none, .mv (.t 19)⟩])
 (.seq (.seq (.reg [⟨(some 20), none, .sh 0 (.t 1)⟩, 
 ⟨(some 21), none, .ld none (.t 20)⟩, 
 ⟨(some 22), none, .bin .neq false (.t 21) (.k (.sc (.string ⟨#[83, 45, 55]⟩))) (pu (.binOp .neq 9 (.tmp 21) (.const (.string ⟨#[83, 45, 55]⟩)) 9) 4)⟩, 
 ⟨(some 23), none, .mv (.t 22)⟩, 
 ⟨(some 24), (some ((some 23), false)), .sh 4 (.t 1)⟩, 
 ⟨(some 25), (some ((some 23), false)), .ld none (.t 24)⟩, 
 ⟨(some 26), (some ((some 23), false)), .bin .neq false (.t 25) (.k (.sc (.int .i64 10))) (pu (.binOp .neq 3 (.tmp 25) (.const (.int .i64 10)) 3) 4)⟩, 
 ⟨(some 27), none, .pick (.t 23) (.k (.sc (.bool true))) (.t 26)⟩, 
 ⟨(some 28), none, .mv (.t 27)⟩, 
 ⟨(some 29), (some ((some 28), false)), .sh 4 (.t 2)⟩, 
 ⟨(some 30), (some ((some 28), false)), .ld none (.t 29)⟩, 
 ⟨(some 31), (some ((some 28), false)), .bin .neq false (.t 30) (.k (.sc (.int .i64 1))) (pu (.binOp .neq 3 (.tmp 30) (.const (.int .i64 1)) 3) 4)⟩, 
 ⟨(some 32), none, .pick (.t 28) (.k (.sc (.bool true))) (.t 31)⟩, 
 ⟨(some 33), none, .mv (.t 32)⟩, 
 ⟨(some 34), (some ((some 33), false)), .sh 1 (.t 2)⟩, 
 ⟨(some 35), (some ((some 33), false)), .ld none (.t 34)⟩, 
 ⟨(some 36), (some ((some 33), false)), .bin .neq false (.t 35) (.k (.sc (.string ⟨#[83, 45, 55]⟩))) (pu (.binOp .neq 9 (.tmp 35) (.const (.string ⟨#[83, 45, 55]⟩)) 9) 4)⟩, 
 ⟨(some 37), none, .pick (.t 33) (.k (.sc (.bool true))) (.t 36)⟩, 
 ⟨(some 38), none, .mv (.t 37)⟩, 
 ⟨(some 39), (some ((some 38), false)), .mv (.t 3)⟩, 
 ⟨(some 40), (some ((some 38), false)), .bin .neq false (.t 39) (.k (.sc (.int .i64 0))) (pu (.binOp .neq 28 (.tmp 39) (.const (.int .i64 0)) 28) 4)⟩, 
 ⟨(some 41), none, .pick (.t 38) (.k (.sc (.bool true))) (.t 40)⟩, 
 ⟨(some 42), none, .mv (.t 41)⟩, 
 ⟨(some 43), (some ((some 42), false)), .ld (some 9) (.t 1)⟩, 
 ⟨(some 44), (some ((some 42), false)), .call 10 [(.t 43)]⟩, 
 ⟨(some 45), (some ((some 42), false)), .bin .neq false (.t 44) (.k (.sc (.int .i64 0))) (pu (.binOp .neq 28 (.tmp 44) (.const (.int .i64 0)) 28) 4)⟩, 
 ⟨(some 46), none, .pick (.t 42) (.k (.sc (.bool true))) (.t 45)⟩])
 (.cond (.t 46) (.seq (.reg [⟨(some 0), none, .mv (.k (.sc (.bool false)))⟩])
  .ret)
 .skip))
 (.seq (.reg [⟨(some 48), none, .ld (some 9) (.t 1)⟩, 
 ⟨(some 49), none, .bld [(.sc (.int .i64 0)), (.sc (.int .i64 0))] [(0, 1, (.k (.sc (.int .i64 25)))), (1, 1, (.k (.sc (.int .i64 900))))]⟩, 
 ⟨(some 50), none, .call 16 [(.t 48), (.k (.sc (.string ⟨#[83]⟩))), (.t 49), (.k (.sc (.bool false)))]⟩, 
 ⟨(some 47), none, .mv (.t 50)⟩, 
 ⟨(some 51), none, .ext (.t 47) 0⟩, 
 ⟨(some 52), none, .ext (.t 47) 1⟩, 
 ⟨(some 53), none, .ext (.t 47) 2⟩, 
 ⟨(some 4), none, .al (.agg [(.sc (.string ⟨#[]⟩)), (.sc (.int .i64 0)), (.sc (.string ⟨#[]⟩)), (.sc (.string ⟨#[]⟩)), (.sc (.int .i64 0)), (.sc (.int .i64 0)), (.sc (.bool false)), (.sc (.int .i64 0)), (.sc (.int .i64 0))]) 9⟩, 
 ⟨(some 5), none, .al (.agg [(.sc (.string ⟨#[]⟩)), (.sc (.string ⟨#[]⟩)), (.sc (.int .i64 0)), (.sc (.int .i64 0)), (.sc (.int .i64 0)), (.sc (.int .i64 0)), (.sc (.string ⟨#[]⟩)), (.sc (.bool false)), (.sc (.int .i64 0)), (.sc (.slice none 0 0))]) 10⟩, 
 ⟨none, none, .st 9 (.t 4) (.t 51)⟩, 
 ⟨none, none, .st 10 (.t 5) (.t 52)⟩, 
 ⟨(some 6), none, .mv (.t 53)⟩])
 (.seq (.reg [⟨(some 55), none, .ld (some 9) (.t 4)⟩, 
 ⟨(some 56), none, .bld [(.sc (.int .i64 0)), (.sc (.int .i64 0))] [(0, 1, (.k (.sc (.int .i64 25)))), (1, 1, (.k (.sc (.int .i64 950))))]⟩, 
 ⟨(some 57), none, .call 16 [(.t 55), (.k (.sc (.string ⟨#[83]⟩))), (.t 56), (.k (.sc (.bool false)))]⟩, 
 ⟨(some 54), none, .mv (.t 57)⟩, 
 ⟨(some 58), none, .ext (.t 54) 0⟩, 
 ⟨(some 59), none, .ext (.t 54) 1⟩, 
 ⟨(some 60), none, .ext (.t 54) 2⟩, 
 ⟨(some 7), none, .al (.agg [(.sc (.string ⟨#[]⟩)), (.sc (.int .i64 0)), (.sc (.string ⟨#[]⟩)), (.sc (.string ⟨#[]⟩)), (.sc (.int .i64 0)), (.sc (.int .i64 0)), (.sc (.bool false)), (.sc (.int .i64 0)), (.sc (.int .i64 0))]) 9⟩, 
 ⟨(some 8), none, .al (.agg [(.sc (.string ⟨#[]⟩)), (.sc (.string ⟨#[]⟩)), (.sc (.int .i64 0)), (.sc (.int .i64 0)), (.sc (.int .i64 0)), (.sc (.int .i64 0)), (.sc (.string ⟨#[]⟩)), (.sc (.bool false)), (.sc (.int .i64 0)), (.sc (.slice none 0 0))]) 10⟩, 
 ⟨none, none, .st 9 (.t 7) (.t 58)⟩, 
 ⟨none, none, .st 10 (.t 8) (.t 59)⟩, 
 ⟨(some 9), none, .mv (.t 60)⟩])
 (.seq (.reg [⟨(some 62), none, .ld (some 9) (.t 4)⟩, 
 ⟨(some 63), none, .bld [(.sc (.int .i64 0)), (.sc (.int .i64 0))] [(0, 1, (.k (.sc (.int .i64 25)))), (1, 1, (.k (.sc (.int .i64 900))))]⟩, 
 ⟨(some 64), none, .call 18 [(.t 62), (.k (.sc (.string ⟨#[83]⟩))), (.t 63), (.k (.sc (.int .i64 1))), (.k (.sc (.bool false)))]⟩, 
 ⟨(some 61), none, .mv (.t 64)⟩, 
 ⟨(some 65), none, .ext (.t 61) 0⟩, 
 ⟨(some 66), none, .ext (.t 61) 1⟩, 
 ⟨(some 67), none, .ext (.t 61) 2⟩, 
 ⟨(some 10), none, .al (.agg [(.sc (.string ⟨#[]⟩)), (.sc (.int .i64 0)), (.sc (.string ⟨#[]⟩)), (.sc (.string ⟨#[]⟩)), (.sc (.int .i64 0)), (.sc (.int .i64 0)), (.sc (.bool false)), (.sc (.int .i64 0)), (.sc (.int .i64 0))]) 9⟩, 
 ⟨(some 11), none, .al (.agg [(.sc (.string ⟨#[]⟩)), (.sc (.string ⟨#[]⟩)), (.sc (.int .i64 0)), (.sc (.int .i64 0)), (.sc (.int .i64 0)), (.sc (.int .i64 0)), (.sc (.string ⟨#[]⟩)), (.sc (.bool false)), (.sc (.int .i64 0)), (.sc (.slice none 0 0))]) 10⟩, 
 ⟨none, none, .st 9 (.t 10) (.t 65)⟩, 
 ⟨none, none, .st 10 (.t 11) (.t 66)⟩, 
 ⟨(some 12), none, .mv (.t 67)⟩])
 (.seq (.reg [⟨(some 68), none, .sh 3 (.t 5)⟩, 
 ⟨(some 69), none, .ld none (.t 68)⟩, 
 ⟨(some 70), none, .bin .eql false (.t 69) (.k (.sc (.int .i64 1))) (pu (.binOp .eql 3 (.tmp 69) (.const (.int .i64 1)) 3) 4)⟩, 
 ⟨(some 71), none, .mv (.t 70)⟩, 
 ⟨(some 72), (some ((some 71), true)), .mv (.t 6)⟩, 
 ⟨(some 73), (some ((some 71), true)), .bin .eql false (.t 72) (.k (.sc (.int .i64 0))) (pu (.binOp .eql 28 (.tmp 72) (.const (.int .i64 0)) 28) 4)⟩, 
 ⟨(some 74), none, .pick (.t 71) (.t 73) (.k (.sc (.bool false)))⟩, 
 ⟨(some 75), none, .mv (.t 74)⟩, 
 ⟨(some 76), (some ((some 75), true)), .mv (.t 9)⟩, 
 ⟨(some 77), (some ((some 75), true)), .bin .eql false (.t 76) (.k (.sc (.int .i64 1))) (pu (.binOp .eql 28 (.tmp 76) (.const (.int .i64 1)) 28) 4)⟩, 
 ⟨(some 78), none, .pick (.t 75) (.t 77) (.k (.sc (.bool false)))⟩, 
 ⟨(some 79), none, .mv (.t 78)⟩, 
 ⟨(some 80), (some ((some 79), true)), .ld (some 9) (.t 10)⟩, 
 ⟨(some 81), (some ((some 79), true)), .bld [(.sc (.string ⟨#[]⟩)), (.sc (.int .i64 0)), (.sc (.string ⟨#[]⟩)), (.sc (.string ⟨#[]⟩)), (.sc (.int .i64 0)), (.sc (.int .i64 0)), (.sc (.bool false)), (.sc (.int .i64 0)), (.sc (.int .i64 0))] []⟩, 
 ⟨(some 82), (some ((some 79), true)), .bin .eql false (.t 80) (.t 81) (pu (.binOp .eql 25 (.tmp 80) (.tmp 81) 25) 4)⟩, 
 ⟨(some 83), none, .pick (.t 79) (.t 82) (.k (.sc (.bool false)))⟩, 
 ⟨(some 84), none, .mv (.t 83)⟩, 
 ⟨(some 85), (some ((some 84), true)), .sh 3 (.t 11)⟩, 
 ⟨(some 86), (some ((some 84), true)), .ld none (.t 85)⟩, 
 ⟨(some 87), (some ((some 84), true)), .bin .eql false (.t 86) (.k (.sc (.int .i64 2))) (pu (.binOp .eql 3 (.tmp 86) (.const (.int .i64 2)) 3) 4)⟩, 
 ⟨(some 88), none, .pick (.t 84) (.t 87) (.k (.sc (.bool false)))⟩, 
 ⟨(some 89), none, .mv (.t 88)⟩, 
 ⟨(some 90), (some ((some 89), true)), .sh 4 (.t 11)⟩, 
 ⟨(some 91), (some ((some 89), true)), .ld none (.t 90)⟩, 
 ⟨(some 92), (some ((some 89), true)), .bin .eql false (.t 91) (.k (.sc (.int .i64 3))) (pu (.binOp .eql 3 (.tmp 91) (.const (.int .i64 3)) 3) 4)⟩, 
 ⟨(some 93), none, .pick (.t 89) (.t 92) (.k (.sc (.bool false)))⟩, 
 ⟨(some 94), none, .mv (.t 93)⟩, 
 ⟨(some 95), (some ((some 94), true)), .mv (.t 12)⟩, 
 ⟨(some 96), (some ((some 94), true)), .bin .eql false (.t 95) (.k (.sc (.int .i64 0))) (pu (.binOp .eql 28 (.tmp 95) (.const (.int .i64 0)) 28) 4)⟩, 
 ⟨(some 97), none, .pick (.t 94) (.t 96) (.k (.sc (.bool false)))⟩, 
 ⟨(some 98), none, .mv (.t 97)⟩, 
 ⟨(some 99), (some ((some 98), true)), .ld (some 9) (.t 10)⟩, 
 ⟨(some 100), (some ((some 98), true)), .call 10 [(.t 99)]⟩, 
 ⟨(some 101), (some ((some 98), true)), .bin .eql false (.t 100) (.k (.sc (.int .i64 4))) (pu (.binOp .eql 28 (.tmp 100) (.const (.int .i64 4)) 28) 4)⟩, 
 ⟨(some 102), none, .pick (.t 98) (.t 101) (.k (.sc (.bool false)))⟩, 
 ⟨(some 0), none, .mv (.t 102)⟩])
 .ret)))))))
def k9 : List Nat := [0, 1, 2, 3, 4, 5, 6, 9, 10, 11, 12, 46]
theorem ic9 : factsI Tryd.prog 9 = some (103, [.tmp 0], c9) := by kernel_rfl

-- chargenet/txn.Valid (68 slots)
def c10 : IC :=
 (.seq (.reg [⟨(some 1), none, .bx (.t 0)⟩, 
 ⟨(some 2), none, .mv (.k (.sc (.int .i64 0)))⟩])
 (.seq (.seq (.reg [⟨(some 3), none, .sh 0 (.t 1)⟩, 
 ⟨(some 4), none, .ld none (.t 3)⟩, 
 ⟨(some 5), none, .call 21 [(.t 4)]⟩, 
 ⟨(some 6), none, .un .not (.t 5) (pu (.unOp .not 4 (.tmp 5)) 4)⟩, 
 ⟨(some 7), none, .mv (.t 6)⟩, 
 ⟨(some 8), (some ((some 7), false)), .sh 2 (.t 1)⟩, 
 ⟨(some 9), (some ((some 7), false)), .ld none (.t 8)⟩, 
 ⟨(some 10), (some ((some 7), false)), .call 21 [(.t 9)]⟩, 
 ⟨(some 11), (some ((some 7), false)), .un .not (.t 10) (pu (.unOp .not 4 (.tmp 10)) 4)⟩, 
 ⟨(some 12), none, .pick (.t 7) (.k (.sc (.bool true))) (.t 11)⟩, 
 ⟨(some 13), none, .mv (.t 12)⟩, 
 ⟨(some 14), (some ((some 13), false)), .sh 3 (.t 1)⟩, 
 ⟨(some 15), (some ((some 13), false)), .ld none (.t 14)⟩, 
 ⟨(some 16), (some ((some 13), false)), .bin .neq false (.t 15) (.k (.sc (.string ⟨#[]⟩))) (pu (.binOp .neq 9 (.tmp 15) (.const (.string ⟨#[]⟩)) 9) 4)⟩, 
 ⟨(some 17), (some ((some 13), false)), .mv (.t 16)⟩, 
 ⟨(some 18), (some ((some 17), true)), .sh 3 (.t 1)⟩, 
 ⟨(some 19), (some ((some 17), true)), .ld none (.t 18)⟩, 
 ⟨(some 20), (some ((some 17), true)), .call 21 [(.t 19)]⟩, 
 ⟨(some 21), (some ((some 17), true)), .un .not (.t 20) (pu (.unOp .not 4 (.tmp 20)) 4)⟩, 
 ⟨(some 22), (some ((some 13), false)), .pick (.t 17) (.t 21) (.k (.sc (.bool false)))⟩, 
 ⟨(some 23), none, .pick (.t 13) (.k (.sc (.bool true))) (.t 22)⟩])
 (.cond (.t 23) (.seq (.reg [⟨(some 2), none, .mv (.k (.sc (.int .i64 4)))⟩])
  .ret)
 .skip))
 (.seq (.seq (.reg [⟨(some 24), none, .sh 1 (.t 1)⟩, 
 ⟨(some 25), none, .ld none (.t 24)⟩, 
 ⟨(some 26), none, .bin .lss false (.t 25) (.k (.sc (.int .i64 1))) (pu (.binOp .lss 3 (.tmp 25) (.const (.int .i64 1)) 3) 4)⟩, 
 ⟨(some 27), none, .mv (.t 26)⟩, 
 ⟨(some 28), (some ((some 27), false)), .sh 1 (.t 1)⟩, 
 ⟨(some 29), (some ((some 27), false)), .ld none (.t 28)⟩, 
 ⟨(some 30), (some ((some 27), false)), .bin .gtr false (.t 29) (.k (.sc (.int .i64 32))) (pu (.binOp .gtr 3 (.tmp 29) (.const (.int .i64 32)) 3) 4)⟩, 
 ⟨(some 31), none, .pick (.t 27) (.k (.sc (.bool true))) (.t 30)⟩, 
 ⟨(some 32), none, .mv (.t 31)⟩, 
 ⟨(some 33), (some ((some 32), false)), .sh 4 (.t 1)⟩, 
 ⟨(some 34), (some ((some 32), false)), .ld none (.t 33)⟩, 
 ⟨(some 35), (some ((some 32), false)), .bin .lss false (.t 34) (.k (.sc (.int .i64 0))) (pu (.binOp .lss 3 (.tmp 34) (.const (.int .i64 0)) 3) 4)⟩, 
 ⟨(some 36), none, .pick (.t 32) (.k (.sc (.bool true))) (.t 35)⟩, 
 ⟨(some 37), none, .mv (.t 36)⟩, 
 ⟨(some 38), (some ((some 37), false)), .sh 4 (.t 1)⟩, 
 ⟨(some 39), (some ((some 37), false)), .ld none (.t 38)⟩, 
 ⟨(some 40), (some ((some 37), false)), .bin .gtr false (.t 39) (.k (.sc (.int .i64 268435456))) (pu (.binOp .gtr 3 (.tmp 39) (.const (.int .i64 268435456)) 3) 4)⟩, 
 ⟨(some 41), none, .pick (.t 37) (.k (.sc (.bool true))) (.t 40)⟩, 
 ⟨(some 42), none, .mv (.t 41)⟩, 
 ⟨(some 43), (some ((some 42), false)), .sh 5 (.t 1)⟩, 
 ⟨(some 44), (some ((some 42), false)), .ld none (.t 43)⟩, 
 ⟨(some 45), (some ((some 42), false)), .bin .lss false (.t 44) (.k (.sc (.int .i64 0))) (pu (.binOp .lss 3 (.tmp 44) (.const (.int .i64 0)) 3) 4)⟩, 
 ⟨(some 46), none, .pick (.t 42) (.k (.sc (.bool true))) (.t 45)⟩, 
 ⟨(some 47), none, .mv (.t 46)⟩, 
 ⟨(some 48), (some ((some 47), false)), .sh 5 (.t 1)⟩, 
 ⟨(some 49), (some ((some 47), false)), .ld none (.t 48)⟩, 
 ⟨(some 50), (some ((some 47), false)), .bin .gtr false (.t 49) (.k (.sc (.int .i64 2147483647))) (pu (.binOp .gtr 3 (.tmp 49) (.const (.int .i64 2147483647)) 3) 4)⟩, 
 ⟨(some 51), none, .pick (.t 47) (.k (.sc (.bool true))) (.t 50)⟩, 
 ⟨(some 52), none, .mv (.t 51)⟩, 
 ⟨(some 53), (some ((some 52), false)), .sh 7 (.t 1)⟩, 
 ⟨(some 54), (some ((some 52), false)), .ld (some 2) (.t 53)⟩, 
 ⟨(some 55), (some ((some 52), false)), .call 22 [(.t 54)]⟩, 
 ⟨(some 56), (some ((some 52), false)), .un .not (.t 55) (pu (.unOp .not 4 (.tmp 55)) 4)⟩, 
 ⟨(some 57), none, .pick (.t 52) (.k (.sc (.bool true))) (.t 56)⟩, 
 ⟨(some 58), none, .mv (.t 57)⟩, 
 ⟨(some 59), (some ((some 58), false)), .sh 7 (.t 1)⟩, 
 ⟨(some 60), (some ((some 58), false)), .sh 0 (.t 59)⟩, 
 ⟨(some 61), (some ((some 58), false)), .ld none (.t 60)⟩, 
 ⟨(some 62), (some ((some 58), false)), .sh 4 (.t 1)⟩, 
 ⟨(some 63), (some ((some 58), false)), .ld none (.t 62)⟩, 
 ⟨(some 64), (some ((some 58), false)), .bin .lss false (.t 61) (.t 63) (pu (.binOp .lss 3 (.tmp 61) (.tmp 63) 3) 4)⟩, 
 ⟨(some 65), none, .pick (.t 58) (.k (.sc (.bool true))) (.t 64)⟩])
 (.cond (.t 65) (.seq (.reg [⟨(some 2), none, .mv (.k (.sc (.int .i64 2)))⟩])
  .ret)
 .skip))
 (.seq (.seq (.reg [⟨(some 66), none, .sh 6 (.t 1)⟩, 
 ⟨(some 67), none, .ld none (.t 66)⟩])
 (.cond (.t 67) (.seq (.reg [⟨(some 2), none, .mv (.k (.sc (.int .i64 1)))⟩])
  .ret)
 .skip))
 (.seq (.reg [⟨(some 2), none, .mv (.k (.sc (.int .i64 0)))⟩])
 .ret)))))
def k10 : List Nat := [0, 1, 2, 23, 65, 67]
theorem ic10 : factsI Tryd.prog 10 = some (68, [.tmp 2], c10) := by kernel_rfl

-- chargenet/chargenetref34.Valid (68 slots)
def c11 : IC :=
 (.seq (.reg [⟨(some 1), none, .bx (.t 0)⟩, 
 ⟨(some 2), none, .mv (.k (.sc (.int .i64 0)))⟩])
 (.seq (.seq (.reg [⟨(some 3), none, .sh 0 (.t 1)⟩, 
 ⟨(some 4), none, .ld none (.t 3)⟩, 
 ⟨(some 5), none, .call 23 [(.t 4)]⟩, 
 ⟨(some 6), none, .un .not (.t 5) (pu (.unOp .not 4 (.tmp 5)) 4)⟩, 
 ⟨(some 7), none, .mv (.t 6)⟩, 
 ⟨(some 8), (some ((some 7), false)), .sh 2 (.t 1)⟩, 
 ⟨(some 9), (some ((some 7), false)), .ld none (.t 8)⟩, 
 ⟨(some 10), (some ((some 7), false)), .call 23 [(.t 9)]⟩, 
 ⟨(some 11), (some ((some 7), false)), .un .not (.t 10) (pu (.unOp .not 4 (.tmp 10)) 4)⟩, 
 ⟨(some 12), none, .pick (.t 7) (.k (.sc (.bool true))) (.t 11)⟩, 
 ⟨(some 13), none, .mv (.t 12)⟩, 
 ⟨(some 14), (some ((some 13), false)), .sh 3 (.t 1)⟩, 
 ⟨(some 15), (some ((some 13), false)), .ld none (.t 14)⟩, 
 ⟨(some 16), (some ((some 13), false)), .bin .neq false (.t 15) (.k (.sc (.string ⟨#[]⟩))) (pu (.binOp .neq 9 (.tmp 15) (.const (.string ⟨#[]⟩)) 9) 4)⟩, 
 ⟨(some 17), (some ((some 13), false)), .mv (.t 16)⟩, 
 ⟨(some 18), (some ((some 17), true)), .sh 3 (.t 1)⟩, 
 ⟨(some 19), (some ((some 17), true)), .ld none (.t 18)⟩, 
 ⟨(some 20), (some ((some 17), true)), .call 23 [(.t 19)]⟩, 
 ⟨(some 21), (some ((some 17), true)), .un .not (.t 20) (pu (.unOp .not 4 (.tmp 20)) 4)⟩, 
 ⟨(some 22), (some ((some 13), false)), .pick (.t 17) (.t 21) (.k (.sc (.bool false)))⟩, 
 ⟨(some 23), none, .pick (.t 13) (.k (.sc (.bool true))) (.t 22)⟩])
 (.cond (.t 23) (.seq (.reg [⟨(some 2), none, .mv (.k (.sc (.int .i64 4)))⟩])
  .ret)
 .skip))
 (.seq (.seq (.reg [⟨(some 24), none, .sh 1 (.t 1)⟩, 
 ⟨(some 25), none, .ld none (.t 24)⟩, 
 ⟨(some 26), none, .bin .lss false (.t 25) (.k (.sc (.int .i64 1))) (pu (.binOp .lss 3 (.tmp 25) (.const (.int .i64 1)) 3) 4)⟩, 
 ⟨(some 27), none, .mv (.t 26)⟩, 
 ⟨(some 28), (some ((some 27), false)), .sh 1 (.t 1)⟩, 
 ⟨(some 29), (some ((some 27), false)), .ld none (.t 28)⟩, 
 ⟨(some 30), (some ((some 27), false)), .bin .gtr false (.t 29) (.k (.sc (.int .i64 32))) (pu (.binOp .gtr 3 (.tmp 29) (.const (.int .i64 32)) 3) 4)⟩, 
 ⟨(some 31), none, .pick (.t 27) (.k (.sc (.bool true))) (.t 30)⟩, 
 ⟨(some 32), none, .mv (.t 31)⟩, 
 ⟨(some 33), (some ((some 32), false)), .sh 4 (.t 1)⟩, 
 ⟨(some 34), (some ((some 32), false)), .ld none (.t 33)⟩, 
 ⟨(some 35), (some ((some 32), false)), .bin .lss false (.t 34) (.k (.sc (.int .i64 0))) (pu (.binOp .lss 3 (.tmp 34) (.const (.int .i64 0)) 3) 4)⟩, 
 ⟨(some 36), none, .pick (.t 32) (.k (.sc (.bool true))) (.t 35)⟩, 
 ⟨(some 37), none, .mv (.t 36)⟩, 
 ⟨(some 38), (some ((some 37), false)), .sh 4 (.t 1)⟩, 
 ⟨(some 39), (some ((some 37), false)), .ld none (.t 38)⟩, 
 ⟨(some 40), (some ((some 37), false)), .bin .gtr false (.t 39) (.k (.sc (.int .i64 268435456))) (pu (.binOp .gtr 3 (.tmp 39) (.const (.int .i64 268435456)) 3) 4)⟩, 
 ⟨(some 41), none, .pick (.t 37) (.k (.sc (.bool true))) (.t 40)⟩, 
 ⟨(some 42), none, .mv (.t 41)⟩, 
 ⟨(some 43), (some ((some 42), false)), .sh 5 (.t 1)⟩, 
 ⟨(some 44), (some ((some 42), false)), .ld none (.t 43)⟩, 
 ⟨(some 45), (some ((some 42), false)), .bin .lss false (.t 44) (.k (.sc (.int .i64 0))) (pu (.binOp .lss 3 (.tmp 44) (.const (.int .i64 0)) 3) 4)⟩, 
 ⟨(some 46), none, .pick (.t 42) (.k (.sc (.bool true))) (.t 45)⟩, 
 ⟨(some 47), none, .mv (.t 46)⟩, 
 ⟨(some 48), (some ((some 47), false)), .sh 5 (.t 1)⟩, 
 ⟨(some 49), (some ((some 47), false)), .ld none (.t 48)⟩, 
 ⟨(some 50), (some ((some 47), false)), .bin .gtr false (.t 49) (.k (.sc (.int .i64 2147483647))) (pu (.binOp .gtr 3 (.tmp 49) (.const (.int .i64 2147483647)) 3) 4)⟩, 
 ⟨(some 51), none, .pick (.t 47) (.k (.sc (.bool true))) (.t 50)⟩, 
 ⟨(some 52), none, .mv (.t 51)⟩, 
 ⟨(some 53), (some ((some 52), false)), .sh 7 (.t 1)⟩, 
 ⟨(some 54), (some ((some 52), false)), .ld (some 2) (.t 53)⟩, 
 ⟨(some 55), (some ((some 52), false)), .call 24 [(.t 54)]⟩, 
 ⟨(some 56), (some ((some 52), false)), .un .not (.t 55) (pu (.unOp .not 4 (.tmp 55)) 4)⟩, 
 ⟨(some 57), none, .pick (.t 52) (.k (.sc (.bool true))) (.t 56)⟩, 
 ⟨(some 58), none, .mv (.t 57)⟩, 
 ⟨(some 59), (some ((some 58), false)), .sh 7 (.t 1)⟩, 
 ⟨(some 60), (some ((some 58), false)), .sh 0 (.t 59)⟩, 
 ⟨(some 61), (some ((some 58), false)), .ld none (.t 60)⟩, 
 ⟨(some 62), (some ((some 58), false)), .sh 4 (.t 1)⟩, 
 ⟨(some 63), (some ((some 58), false)), .ld none (.t 62)⟩, 
 ⟨(some 64), (some ((some 58), false)), .bin .lss false (.t 61) (.t 63) (pu (.binOp .lss 3 (.tmp 61) (.tmp 63) 3) 4)⟩, 
 ⟨(some 65), none, .pick (.t 58) (.k (.sc (.bool true))) (.t 64)⟩])
 (.cond (.t 65) (.seq (.reg [⟨(some 2), none, .mv (.k (.sc (.int .i64 2)))⟩])
  .ret)
 .skip))
 (.seq (.seq (.reg [⟨(some 66), none, .sh 6 (.t 1)⟩, 
 ⟨(some 67), none, .ld none (.t 66)⟩])
 (.cond (.t 67) (.seq (.reg [⟨(some 2), none, .mv (.k (.sc (.int .i64 1)))⟩])
  .ret)
 .skip))
 (.seq (.reg [⟨(some 2), none, .mv (.k (.sc (.int .i64 0)))⟩])
 .ret)))))
def k11 : List Nat := [0, 1, 2, 23, 65, 67]
theorem ic11 : factsI Tryd.prog 11 = some (68, [.tmp 2], c11) := by kernel_rfl

-- chargenet/txn.Begin (83 slots)
def c12 : IC :=
 (.seq (.reg [⟨(some 9), none, .bx (.t 3)⟩, 
 ⟨(some 10), none, .bx (.t 4)⟩, 
 ⟨(some 12), none, .al (.agg [(.sc (.string ⟨#[]⟩)), (.sc (.int .i64 0)), (.sc (.string ⟨#[]⟩)), (.sc (.string ⟨#[]⟩)), (.sc (.int .i64 0)), (.sc (.int .i64 0)), (.sc (.bool false)), (.sc (.int .i64 0)), (.sc (.int .i64 0))]) 9⟩, 
 ⟨(some 13), none, .al (.agg [(.sc (.string ⟨#[]⟩)), (.sc (.string ⟨#[]⟩)), (.sc (.int .i64 0)), (.sc (.int .i64 0)), (.sc (.int .i64 0)), (.sc (.int .i64 0)), (.sc (.string ⟨#[]⟩)), (.sc (.bool false)), (.sc (.int .i64 0)), (.sc (.slice none 0 0))]) 10⟩, 
 ⟨(some 14), none, .mv (.k (.sc (.int .i64 0)))⟩])
 (.seq (.seq (.reg [⟨(some 19), none, .mv (.t 0)⟩, 
 ⟨(some 20), none, .call 21 [(.t 19)]⟩, 
 ⟨(some 21), none, .un .not (.t 20) (pu (.unOp .not 4 (.tmp 20)) 4)⟩])
 (.cond (.t 21) (.seq (.reg [⟨(some 22), none, .bld [(.sc (.string ⟨#[]⟩)), (.sc (.int .i64 0)), (.sc (.string ⟨#[]⟩)), (.sc (.string ⟨#[]⟩)), (.sc (.int .i64 0)), (.sc (.int .i64 0)), (.sc (.bool false)), (.sc (.int .i64 0)), (.sc (.int .i64 0))] []⟩, 
  ⟨(some 23), none, .bld [(.sc (.string ⟨#[]⟩)), (.sc (.string ⟨#[]⟩)), (.sc (.int .i64 0)), (.sc (.int .i64 0)), (.sc (.int .i64 0)), (.sc (.int .i64 0)), (.sc (.string ⟨#[]⟩)), (.sc (.bool false)), (.sc (.int .i64 0)), (.sc (.slice none 0 0))] []⟩, 
  ⟨none, none, .st 9 (.t 12) (.t 22)⟩, 
  ⟨none, none, .st 10 (.t 13) (.t 23)⟩, 
  ⟨(some 14), none, .mv (.k (.sc (.int .i64 4)))⟩])
  .ret)
 .skip))
 (.seq (.seq (.reg [⟨(some 24), none, .mv (.t 1)⟩, 
 ⟨(some 25), none, .bin .lss false (.t 24) (.k (.sc (.int .i64 1))) (pu (.binOp .lss 3 (.tmp 24) (.const (.int .i64 1)) 3) 4)⟩, 
 ⟨(some 26), none, .mv (.t 25)⟩, 
 ⟨(some 27), (some ((some 26), false)), .mv (.t 1)⟩, 
 ⟨(some 28), (some ((some 26), false)), .bin .gtr false (.t 27) (.k (.sc (.int .i64 2147483647))) (pu (.binOp .gtr 3 (.tmp 27) (.const (.int .i64 2147483647)) 3) 4)⟩, 
 ⟨(some 29), none, .pick (.t 26) (.k (.sc (.bool true))) (.t 28)⟩])
 (.cond (.t 29) (.seq (.reg [⟨(some 30), none, .bld [(.sc (.string ⟨#[]⟩)), (.sc (.int .i64 0)), (.sc (.string ⟨#[]⟩)), (.sc (.string ⟨#[]⟩)), (.sc (.int .i64 0)), (.sc (.int .i64 0)), (.sc (.bool false)), (.sc (.int .i64 0)), (.sc (.int .i64 0))] []⟩, 
  ⟨(some 31), none, .bld [(.sc (.string ⟨#[]⟩)), (.sc (.string ⟨#[]⟩)), (.sc (.int .i64 0)), (.sc (.int .i64 0)), (.sc (.int .i64 0)), (.sc (.int .i64 0)), (.sc (.string ⟨#[]⟩)), (.sc (.bool false)), (.sc (.int .i64 0)), (.sc (.slice none 0 0))] []⟩, 
  ⟨none, none, .st 9 (.t 12) (.t 30)⟩, 
  ⟨none, none, .st 10 (.t 13) (.t 31)⟩, 
  ⟨(some 14), none, .mv (.k (.sc (.int .i64 2)))⟩])
  .ret)
 .skip))
 (.seq (.reg [⟨(some 32), none, .mv (.t 0)⟩, 
 ⟨(some 33), none, .bin .add false (.t 32) (.k (.sc (.string ⟨#[45]⟩))) (pu (.binOp .add 9 (.tmp 32) (.const (.string ⟨#[45]⟩)) 9) 9)⟩, 
 ⟨(some 34), none, .mv (.t 1)⟩, 
 ⟨(some 35), none, .call 25 [(.t 34)]⟩, 
 ⟨(some 36), none, .bin .add false (.t 33) (.t 35) (pu (.binOp .add 9 (.tmp 33) (.tmp 35) 9) 9)⟩, 
 ⟨(some 15), none, .mv (.t 36)⟩])
 (.seq (.seq (.reg [⟨(some 37), none, .mv (.t 15)⟩, 
 ⟨(some 38), none, .call 21 [(.t 37)]⟩, 
 ⟨(some 39), none, .un .not (.t 38) (pu (.unOp .not 4 (.tmp 38)) 4)⟩])
 (.cond (.t 39) (.seq (.reg [⟨(some 40), none, .bld [(.sc (.string ⟨#[]⟩)), (.sc (.int .i64 0)), (.sc (.string ⟨#[]⟩)), (.sc (.string ⟨#[]⟩)), (.sc (.int .i64 0)), (.sc (.int .i64 0)), (.sc (.bool false)), (.sc (.int .i64 0)), (.sc (.int .i64 0))] []⟩, 
  ⟨(some 41), none, .bld [(.sc (.string ⟨#[]⟩)), (.sc (.string ⟨#[]⟩)), (.sc (.int .i64 0)), (.sc (.int .i64 0)), (.sc (.int .i64 0)), (.sc (.int .i64 0)), (.sc (.string ⟨#[]⟩)), (.sc (.bool false)), (.sc (.int .i64 0)), (.sc (.slice none 0 0))] []⟩, 
  ⟨none, none, .st 9 (.t 12) (.t 40)⟩, 
  ⟨none, none, .st 10 (.t 13) (.t 41)⟩, 
  ⟨(some 14), none, .mv (.k (.sc (.int .i64 4)))⟩])
  .ret)
 .skip))
 (.seq (.seq (.reg [⟨(some 42), none, .mv (.t 2)⟩, 
 ⟨(some 43), none, .bin .lss false (.t 42) (.k (.sc (.int .i64 1))) (pu (.binOp .lss 3 (.tmp 42) (.const (.int .i64 1)) 3) 4)⟩, 
 ⟨(some 44), none, .mv (.t 43)⟩, 
 ⟨(some 45), (some ((some 44), false)), .mv (.t 2)⟩, 
 ⟨(some 46), (some ((some 44), false)), .bin .gtr false (.t 45) (.k (.sc (.int .i64 32))) (pu (.binOp .gtr 3 (.tmp 45) (.const (.int .i64 32)) 3) 4)⟩, 
 ⟨(some 47), none, .pick (.t 44) (.k (.sc (.bool true))) (.t 46)⟩])
 (.cond (.t 47) (.seq (.reg [⟨(some 48), none, .bld [(.sc (.string ⟨#[]⟩)), (.sc (.int .i64 0)), (.sc (.string ⟨#[]⟩)), (.sc (.string ⟨#[]⟩)), (.sc (.int .i64 0)), (.sc (.int .i64 0)), (.sc (.bool false)), (.sc (.int .i64 0)), (.sc (.int .i64 0))] []⟩, 
  ⟨(some 49), none, .bld [(.sc (.string ⟨#[]⟩)), (.sc (.string ⟨#[]⟩)), (.sc (.int .i64 0)), (.sc (.int .i64 0)), (.sc (.int .i64 0)), (.sc (.int .i64 0)), (.sc (.string ⟨#[]⟩)), (.sc (.bool false)), (.sc (.int .i64 0)), (.sc (.slice none 0 0))] []⟩, 
  ⟨none, none, .st 9 (.t 12) (.t 48)⟩, 
  ⟨none, none, .st 10 (.t 13) (.t 49)⟩, 
  ⟨(some 14), none, .mv (.k (.sc (.int .i64 2)))⟩])
  .ret)
 .skip))
 (.seq (.seq (.reg [⟨(some 50), none, .ld (some 6) (.t 9)⟩, 
 ⟨(some 51), none, .call 26 [(.t 50)]⟩, 
 ⟨(some 16), none, .mv (.t 51)⟩])
 (.seq (.reg [⟨(some 52), none, .mv (.t 16)⟩, 
 ⟨(some 53), none, .bin .neq false (.t 52) (.k (.sc (.int .i64 0))) (pu (.binOp .neq 28 (.tmp 52) (.const (.int .i64 0)) 28) 4)⟩])
 (.cond (.t 53) (.seq (.reg [⟨(some 54), none, .bld [(.sc (.string ⟨#[]⟩)), (.sc (.int .i64 0)), (.sc (.string ⟨#[]⟩)), (.sc (.string ⟨#[]⟩)), (.sc (.int .i64 0)), (.sc (.int .i64 0)), (.sc (.bool false)), (.sc (.int .i64 0)), (.sc (.int .i64 0))] []⟩, 
  ⟨(some 55), none, .bld [(.sc (.string ⟨#[]⟩)), (.sc (.string ⟨#[]⟩)), (.sc (.int .i64 0)), (.sc (.int .i64 0)), (.sc (.int .i64 0)), (.sc (.int .i64 0)), (.sc (.string ⟨#[]⟩)), (.sc (.bool false)), (.sc (.int .i64 0)), (.sc (.slice none 0 0))] []⟩, 
  ⟨(some 56), none, .mv (.t 16)⟩, 
  ⟨none, none, .st 9 (.t 12) (.t 54)⟩, 
  ⟨none, none, .st 10 (.t 13) (.t 55)⟩, 
  ⟨(some 14), none, .mv (.t 56)⟩])
  .ret)
 .skip)))
 (.seq (.seq (.reg [⟨(some 57), none, .ld (some 2) (.t 10)⟩, 
 ⟨(some 58), none, .call 22 [(.t 57)]⟩, 
 ⟨(some 59), none, .un .not (.t 58) (pu (.unOp .not 4 (.tmp 58)) 4)⟩])
 (.cond (.t 59) (.seq (.reg [⟨(some 60), none, .bld [(.sc (.string ⟨#[]⟩)), (.sc (.int .i64 0)), (.sc (.string ⟨#[]⟩)), (.sc (.string ⟨#[]⟩)), (.sc (.int .i64 0)), (.sc (.int .i64 0)), (.sc (.bool false)), (.sc (.int .i64 0)), (.sc (.int .i64 0))] []⟩, 
  ⟨(some 61), none, .bld [(.sc (.string ⟨#[]⟩)), (.sc (.string ⟨#[]⟩)), (.sc (.int .i64 0)), (.sc (.int .i64 0)), (.sc (.int .i64 0)), (.sc (.int .i64 0)), (.sc (.string ⟨#[]⟩)), (.sc (.bool false)), (.sc (.int .i64 0)), (.sc (.slice none 0 0))] []⟩, 
  ⟨none, none, .st 9 (.t 12) (.t 60)⟩, 
  ⟨none, none, .st 10 (.t 13) (.t 61)⟩, 
  ⟨(some 14), none, .mv (.k (.sc (.int .i64 2)))⟩])
  .ret)
 .skip))
 (.seq (.reg [⟨(some 62), none, .mv (.t 15)⟩, 
 ⟨(some 63), none, .mv (.t 2)⟩, 
 ⟨(some 64), none, .sh 0 (.t 9)⟩, 
 ⟨(some 65), none, .ld none (.t 64)⟩, 
 ⟨(some 66), none, .sh 1 (.t 9)⟩, 
 ⟨(some 67), none, .ld none (.t 66)⟩, 
 ⟨(some 68), none, .sh 0 (.t 10)⟩, 
 ⟨(some 69), none, .ld none (.t 68)⟩, 
 ⟨(some 70), none, .bld [(.sc (.string ⟨#[]⟩)), (.sc (.int .i64 0)), (.sc (.string ⟨#[]⟩)), (.sc (.string ⟨#[]⟩)), (.sc (.int .i64 0)), (.sc (.int .i64 0)), (.sc (.bool false)), (.sc (.int .i64 0)), (.sc (.int .i64 0))] [(0, 1, (.t 62)), (1, 1, (.t 63)), (2, 1, (.t 65)), (3, 1, (.t 67)), (4, 1, (.t 69))]⟩, 
 ⟨(some 71), none, .mv (.t 0)⟩, 
 ⟨(some 72), none, .mv (.t 5)⟩, 
 ⟨(some 73), none, .bld [(.sc (.string ⟨#[]⟩)), (.sc (.int .i64 0)), (.sc (.string ⟨#[]⟩)), (.sc (.string ⟨#[]⟩)), (.sc (.int .i64 0)), (.sc (.int .i64 0)), (.sc (.bool false)), (.sc (.int .i64 0)), (.sc (.int .i64 0)), (.sc (.string ⟨#[]⟩)), (.sc (.bool false))] [(0, 9, (.t 70)), (9, 1, (.t 71)), (10, 1, (.t 72))]⟩, 
 ⟨(some 17), none, .al (.agg [(.sc (.string ⟨#[]⟩)), (.sc (.int .i64 0)), (.sc (.string ⟨#[]⟩)), (.sc (.string ⟨#[]⟩)), (.sc (.int .i64 0)), (.sc (.int .i64 0)), (.sc (.bool false)), (.sc (.int .i64 0)), (.sc (.int .i64 0)), (.sc (.string ⟨#[]⟩)), (.sc (.bool false))]) 11⟩, 
 ⟨none, none, .st 11 (.t 17) (.t 73)⟩])
 (.seq (.reg [⟨(some 74), none, .ld (some 2) (.t 10)⟩, 
 ⟨(some 75), none, .call 27 [(.t 17), (.k (.sc (.int .i64 1))), (.t 74)]⟩, 
 ⟨(some 18), none, .al (.agg [(.sc (.string ⟨#[]⟩)), (.sc (.string ⟨#[]⟩)), (.sc (.int .i64 0)), (.sc (.int .i64 0)), (.sc (.int .i64 0)), (.sc (.int .i64 0)), (.sc (.string ⟨#[]⟩)), (.sc (.bool false)), (.sc (.int .i64 0)), (.sc (.slice none 0 0))]) 10⟩, 
 ⟨none, none, .st 10 (.t 18) (.t 75)⟩])
 (.seq (.reg [⟨(some 76), none, .sh 0 (.t 17)⟩, 
 ⟨(some 77), none, .sh 2 (.t 76)⟩, 
 ⟨(some 78), none, .ld none (.t 77)⟩, 
 ⟨(some 79), none, .sh 6 (.t 18)⟩, 
 ⟨none, none, .st 1 (.t 79) (.t 78)⟩])
 (.seq (.drw [0, 1, 0, 3, 15, 31] [⟨(some 80), none, .sh 0 (.t 17)⟩, 
 ⟨(some 81), none, .ld (some 9) (.t 80)⟩, 
 ⟨(some 82), none, .ld (some 10) (.t 18)⟩, 
 ⟨none, none, .st 9 (.t 12) (.t 81)⟩, 
 ⟨none, none, .st 10 (.t 13) (.t 82)⟩, 
 ⟨(some 14), none, .mv (.k (.sc (.int .i64 0)))⟩])
 .ret))))))))))))
def k12 : List Nat := [0, 1, 2, 3, 4, 5, 9, 10, 12, 13, 14, 15, 16, 17, 18, 21, 29, 39, 47, 53, 59]
theorem ic12 : factsI Tryd.prog 12 = some (83, [.cell 12 25, .cell 13 36, .tmp 14], c12) := by kernel_rfl

-- chargenet/chargenetref34.Begin (83 slots)
def c13 : IC :=
 (.seq (.reg [⟨(some 9), none, .bx (.t 3)⟩, 
 ⟨(some 10), none, .bx (.t 4)⟩, 
 ⟨(some 12), none, .al (.agg [(.sc (.string ⟨#[]⟩)), (.sc (.int .i64 0)), (.sc (.string ⟨#[]⟩)), (.sc (.string ⟨#[]⟩)), (.sc (.int .i64 0)), (.sc (.int .i64 0)), (.sc (.bool false)), (.sc (.int .i64 0)), (.sc (.int .i64 0))]) 9⟩, 
 ⟨(some 13), none, .al (.agg [(.sc (.string ⟨#[]⟩)), (.sc (.string ⟨#[]⟩)), (.sc (.int .i64 0)), (.sc (.int .i64 0)), (.sc (.int .i64 0)), (.sc (.int .i64 0)), (.sc (.string ⟨#[]⟩)), (.sc (.bool false)), (.sc (.int .i64 0)), (.sc (.slice none 0 0))]) 10⟩, 
 ⟨(some 14), none, .mv (.k (.sc (.int .i64 0)))⟩])
 (.seq (.seq (.reg [⟨(some 18), none, .mv (.t 0)⟩, 
 ⟨(some 19), none, .call 23 [(.t 18)]⟩, 
 ⟨(some 20), none, .un .not (.t 19) (pu (.unOp .not 4 (.tmp 19)) 4)⟩])
 (.cond (.t 20) (.seq (.reg [⟨(some 21), none, .bld [(.sc (.string ⟨#[]⟩)), (.sc (.int .i64 0)), (.sc (.string ⟨#[]⟩)), (.sc (.string ⟨#[]⟩)), (.sc (.int .i64 0)), (.sc (.int .i64 0)), (.sc (.bool false)), (.sc (.int .i64 0)), (.sc (.int .i64 0))] []⟩, 
  ⟨(some 22), none, .bld [(.sc (.string ⟨#[]⟩)), (.sc (.string ⟨#[]⟩)), (.sc (.int .i64 0)), (.sc (.int .i64 0)), (.sc (.int .i64 0)), (.sc (.int .i64 0)), (.sc (.string ⟨#[]⟩)), (.sc (.bool false)), (.sc (.int .i64 0)), (.sc (.slice none 0 0))] []⟩, 
  ⟨none, none, .st 9 (.t 12) (.t 21)⟩, 
  ⟨none, none, .st 10 (.t 13) (.t 22)⟩, 
  ⟨(some 14), none, .mv (.k (.sc (.int .i64 4)))⟩])
  .ret)
 .skip))
 (.seq (.seq (.reg [⟨(some 23), none, .mv (.t 1)⟩, 
 ⟨(some 24), none, .bin .lss false (.t 23) (.k (.sc (.int .i64 1))) (pu (.binOp .lss 3 (.tmp 23) (.const (.int .i64 1)) 3) 4)⟩, 
 ⟨(some 25), none, .mv (.t 24)⟩, 
 ⟨(some 26), (some ((some 25), false)), .mv (.t 1)⟩, 
 ⟨(some 27), (some ((some 25), false)), .bin .gtr false (.t 26) (.k (.sc (.int .i64 2147483647))) (pu (.binOp .gtr 3 (.tmp 26) (.const (.int .i64 2147483647)) 3) 4)⟩, 
 ⟨(some 28), none, .pick (.t 25) (.k (.sc (.bool true))) (.t 27)⟩])
 (.cond (.t 28) (.seq (.reg [⟨(some 29), none, .bld [(.sc (.string ⟨#[]⟩)), (.sc (.int .i64 0)), (.sc (.string ⟨#[]⟩)), (.sc (.string ⟨#[]⟩)), (.sc (.int .i64 0)), (.sc (.int .i64 0)), (.sc (.bool false)), (.sc (.int .i64 0)), (.sc (.int .i64 0))] []⟩, 
  ⟨(some 30), none, .bld [(.sc (.string ⟨#[]⟩)), (.sc (.string ⟨#[]⟩)), (.sc (.int .i64 0)), (.sc (.int .i64 0)), (.sc (.int .i64 0)), (.sc (.int .i64 0)), (.sc (.string ⟨#[]⟩)), (.sc (.bool false)), (.sc (.int .i64 0)), (.sc (.slice none 0 0))] []⟩, 
  ⟨none, none, .st 9 (.t 12) (.t 29)⟩, 
  ⟨none, none, .st 10 (.t 13) (.t 30)⟩, 
  ⟨(some 14), none, .mv (.k (.sc (.int .i64 2)))⟩])
  .ret)
 .skip))
 (.seq (.reg [⟨(some 31), none, .mv (.t 0)⟩, 
 ⟨(some 32), none, .bin .add false (.t 31) (.k (.sc (.string ⟨#[45]⟩))) (pu (.binOp .add 9 (.tmp 31) (.const (.string ⟨#[45]⟩)) 9) 9)⟩, 
 ⟨(some 33), none, .mv (.t 1)⟩, 
 ⟨(some 34), none, .call 28 [(.t 33)]⟩, 
 ⟨(some 35), none, .bin .add false (.t 32) (.t 34) (pu (.binOp .add 9 (.tmp 32) (.tmp 34) 9) 9)⟩, 
 ⟨(some 15), none, .mv (.t 35)⟩])
 (.seq (.seq (.reg [⟨(some 36), none, .mv (.t 15)⟩, 
 ⟨(some 37), none, .call 23 [(.t 36)]⟩, 
 ⟨(some 38), none, .un .not (.t 37) (pu (.unOp .not 4 (.tmp 37)) 4)⟩])
 (.cond (.t 38) (.seq (.reg [⟨(some 39), none, .bld [(.sc (.string ⟨#[]⟩)), (.sc (.int .i64 0)), (.sc (.string ⟨#[]⟩)), (.sc (.string ⟨#[]⟩)), (.sc (.int .i64 0)), (.sc (.int .i64 0)), (.sc (.bool false)), (.sc (.int .i64 0)), (.sc (.int .i64 0))] []⟩, 
  ⟨(some 40), none, .bld [(.sc (.string ⟨#[]⟩)), (.sc (.string ⟨#[]⟩)), (.sc (.int .i64 0)), (.sc (.int .i64 0)), (.sc (.int .i64 0)), (.sc (.int .i64 0)), (.sc (.string ⟨#[]⟩)), (.sc (.bool false)), (.sc (.int .i64 0)), (.sc (.slice none 0 0))] []⟩, 
  ⟨none, none, .st 9 (.t 12) (.t 39)⟩, 
  ⟨none, none, .st 10 (.t 13) (.t 40)⟩, 
  ⟨(some 14), none, .mv (.k (.sc (.int .i64 4)))⟩])
  .ret)
 .skip))
 (.seq (.seq (.reg [⟨(some 41), none, .mv (.t 2)⟩, 
 ⟨(some 42), none, .bin .lss false (.t 41) (.k (.sc (.int .i64 1))) (pu (.binOp .lss 3 (.tmp 41) (.const (.int .i64 1)) 3) 4)⟩, 
 ⟨(some 43), none, .mv (.t 42)⟩, 
 ⟨(some 44), (some ((some 43), false)), .mv (.t 2)⟩, 
 ⟨(some 45), (some ((some 43), false)), .bin .gtr false (.t 44) (.k (.sc (.int .i64 32))) (pu (.binOp .gtr 3 (.tmp 44) (.const (.int .i64 32)) 3) 4)⟩, 
 ⟨(some 46), none, .pick (.t 43) (.k (.sc (.bool true))) (.t 45)⟩])
 (.cond (.t 46) (.seq (.reg [⟨(some 47), none, .bld [(.sc (.string ⟨#[]⟩)), (.sc (.int .i64 0)), (.sc (.string ⟨#[]⟩)), (.sc (.string ⟨#[]⟩)), (.sc (.int .i64 0)), (.sc (.int .i64 0)), (.sc (.bool false)), (.sc (.int .i64 0)), (.sc (.int .i64 0))] []⟩, 
  ⟨(some 48), none, .bld [(.sc (.string ⟨#[]⟩)), (.sc (.string ⟨#[]⟩)), (.sc (.int .i64 0)), (.sc (.int .i64 0)), (.sc (.int .i64 0)), (.sc (.int .i64 0)), (.sc (.string ⟨#[]⟩)), (.sc (.bool false)), (.sc (.int .i64 0)), (.sc (.slice none 0 0))] []⟩, 
  ⟨none, none, .st 9 (.t 12) (.t 47)⟩, 
  ⟨none, none, .st 10 (.t 13) (.t 48)⟩, 
  ⟨(some 14), none, .mv (.k (.sc (.int .i64 2)))⟩])
  .ret)
 .skip))
 (.seq (.seq (.reg [⟨(some 49), none, .ld (some 6) (.t 9)⟩, 
 ⟨(some 50), none, .call 29 [(.t 49)]⟩, 
 ⟨(some 16), none, .mv (.t 50)⟩])
 (.seq (.reg [⟨(some 51), none, .mv (.t 16)⟩, 
 ⟨(some 52), none, .bin .neq false (.t 51) (.k (.sc (.int .i64 0))) (pu (.binOp .neq 28 (.tmp 51) (.const (.int .i64 0)) 28) 4)⟩])
 (.cond (.t 52) (.seq (.reg [⟨(some 53), none, .bld [(.sc (.string ⟨#[]⟩)), (.sc (.int .i64 0)), (.sc (.string ⟨#[]⟩)), (.sc (.string ⟨#[]⟩)), (.sc (.int .i64 0)), (.sc (.int .i64 0)), (.sc (.bool false)), (.sc (.int .i64 0)), (.sc (.int .i64 0))] []⟩, 
  ⟨(some 54), none, .bld [(.sc (.string ⟨#[]⟩)), (.sc (.string ⟨#[]⟩)), (.sc (.int .i64 0)), (.sc (.int .i64 0)), (.sc (.int .i64 0)), (.sc (.int .i64 0)), (.sc (.string ⟨#[]⟩)), (.sc (.bool false)), (.sc (.int .i64 0)), (.sc (.slice none 0 0))] []⟩, 
  ⟨(some 55), none, .mv (.t 16)⟩, 
  ⟨none, none, .st 9 (.t 12) (.t 53)⟩, 
  ⟨none, none, .st 10 (.t 13) (.t 54)⟩, 
  ⟨(some 14), none, .mv (.t 55)⟩])
  .ret)
 .skip)))
 (.seq (.seq (.reg [⟨(some 56), none, .ld (some 2) (.t 10)⟩, 
 ⟨(some 57), none, .call 24 [(.t 56)]⟩, 
 ⟨(some 58), none, .un .not (.t 57) (pu (.unOp .not 4 (.tmp 57)) 4)⟩])
 (.cond (.t 58) (.seq (.reg [⟨(some 59), none, .bld [(.sc (.string ⟨#[]⟩)), (.sc (.int .i64 0)), (.sc (.string ⟨#[]⟩)), (.sc (.string ⟨#[]⟩)), (.sc (.int .i64 0)), (.sc (.int .i64 0)), (.sc (.bool false)), (.sc (.int .i64 0)), (.sc (.int .i64 0))] []⟩, 
  ⟨(some 60), none, .bld [(.sc (.string ⟨#[]⟩)), (.sc (.string ⟨#[]⟩)), (.sc (.int .i64 0)), (.sc (.int .i64 0)), (.sc (.int .i64 0)), (.sc (.int .i64 0)), (.sc (.string ⟨#[]⟩)), (.sc (.bool false)), (.sc (.int .i64 0)), (.sc (.slice none 0 0))] []⟩, 
  ⟨none, none, .st 9 (.t 12) (.t 59)⟩, 
  ⟨none, none, .st 10 (.t 13) (.t 60)⟩, 
  ⟨(some 14), none, .mv (.k (.sc (.int .i64 2)))⟩])
  .ret)
 .skip))
 (.seq (.reg [⟨(some 61), none, .mv (.t 15)⟩, 
 ⟨(some 62), none, .mv (.t 2)⟩, 
 ⟨(some 63), none, .sh 0 (.t 9)⟩, 
 ⟨(some 64), none, .ld none (.t 63)⟩, 
 ⟨(some 65), none, .sh 1 (.t 9)⟩, 
 ⟨(some 66), none, .ld none (.t 65)⟩, 
 ⟨(some 67), none, .sh 0 (.t 10)⟩, 
 ⟨(some 68), none, .ld none (.t 67)⟩, 
 ⟨(some 69), none, .ld (some 2) (.t 10)⟩, 
 ⟨(some 70), none, .bld [(.sc (.string ⟨#[]⟩)), (.sc (.int .i64 0)), (.sc (.string ⟨#[]⟩)), (.sc (.string ⟨#[]⟩)), (.sc (.int .i64 0)), (.sc (.int .i64 0)), (.sc (.bool false)), (.sc (.int .i64 0)), (.sc (.int .i64 0))] [(0, 1, (.t 61)), (1, 1, (.t 62)), (2, 1, (.t 64)), (3, 1, (.t 66)), (4, 1, (.t 68)), (7, 2, (.t 69))]⟩, 
 ⟨(some 17), none, .al (.agg [(.sc (.string ⟨#[]⟩)), (.sc (.int .i64 0)), (.sc (.string ⟨#[]⟩)), (.sc (.string ⟨#[]⟩)), (.sc (.int .i64 0)), (.sc (.int .i64 0)), (.sc (.bool false)), (.sc (.int .i64 0)), (.sc (.int .i64 0))]) 9⟩, 
 ⟨none, none, .st 9 (.t 17) (.t 70)⟩])
 (.seq (.drw [0, 0, 0, 0, 0, 16, 0, 64, 0, 0, 512, 2046, 1, 8191, 16383] [⟨(some 71), none, .ld (some 9) (.t 17)⟩, 
 ⟨(some 72), none, .mv (.t 0)⟩, 
 ⟨(some 73), none, .mv (.t 15)⟩, 
 ⟨(some 74), none, .mv (.t 2)⟩, 
 ⟨(some 75), none, .sh 0 (.t 10)⟩, 
 ⟨(some 76), none, .ld none (.t 75)⟩, 
 ⟨(some 77), none, .sh 0 (.t 9)⟩, 
 ⟨(some 78), none, .ld none (.t 77)⟩, 
 ⟨(some 79), none, .mv (.t 5)⟩, 
 ⟨(some 80), none, .ld (some 2) (.t 10)⟩, 
 ⟨(some 81), none, .bsl 2 1 true [(.sc (.int .i64 0)), (.sc (.int .i64 0))] [(0, 2, (.t 80))]⟩, 
 ⟨(some 82), none, .bld [(.sc (.string ⟨#[]⟩)), (.sc (.string ⟨#[]⟩)), (.sc (.int .i64 0)), (.sc (.int .i64 0)), (.sc (.int .i64 0)), (.sc (.int .i64 0)), (.sc (.string ⟨#[]⟩)), (.sc (.bool false)), (.sc (.int .i64 0)), (.sc (.slice none 0 0))] [(0, 1, (.t 72)), (1, 1, (.t 73)), (2, 1, (.t 74)), (4, 1, (.k (.sc (.int .i64 1)))), (5, 1, (.t 76)), (6, 1, (.t 78)), (7, 1, (.t 79)), (9, 1, (.t 81))]⟩, 
 ⟨none, none, .st 9 (.t 12) (.t 71)⟩, 
 ⟨none, none, .st 10 (.t 13) (.t 82)⟩, 
 ⟨(some 14), none, .mv (.k (.sc (.int .i64 0)))⟩])
 .ret))))))))))
def k13 : List Nat := [0, 1, 2, 3, 4, 5, 9, 10, 12, 13, 14, 15, 16, 17, 20, 28, 38, 46, 52, 58]
theorem ic13 : factsI Tryd.prog 13 = some (83, [.cell 12 25, .cell 13 36, .tmp 14], c13) := by kernel_rfl

-- chargenet/chargenetlaw34.same (8 slots)
def c14 : IC :=
 (.seq (.reg [⟨(some 2), none, .bx (.t 0)⟩, 
 ⟨(some 3), none, .bx (.t 1)⟩, 
 ⟨(some 4), none, .mv (.k (.sc (.bool false)))⟩])
 (.seq (.reg [⟨(some 5), none, .ld (some 10) (.t 2)⟩, 
 ⟨(some 6), none, .ld (some 10) (.t 3)⟩, 
 ⟨(some 7), none, .call 30 [(.t 5), (.t 6)]⟩, 
 ⟨(some 4), none, .mv (.t 7)⟩])
 .ret))
def k14 : List Nat := [0, 1, 2, 3, 4]
theorem ic14 : factsI Tryd.prog 14 = some (8, [.tmp 4], c14) := by kernel_rfl

-- chargenet/chargenetref30.Valid (82 slots)
def c15 : IC :=
 (.seq (.reg [⟨(some 1), none, .bx (.t 0)⟩, 
 ⟨(some 2), none, .mv (.k (.sc (.int .i64 0)))⟩])
 (.seq (.seq (.reg [⟨(some 5), none, .sh 0 (.t 1)⟩, 
 ⟨(some 6), none, .ld none (.t 5)⟩, 
 ⟨(some 7), none, .call 23 [(.t 6)]⟩, 
 ⟨(some 8), none, .un .not (.t 7) (pu (.unOp .not 4 (.tmp 7)) 4)⟩, 
 ⟨(some 9), none, .mv (.t 8)⟩, 
 ⟨(some 10), (some ((some 9), false)), .sh 1 (.t 1)⟩, 
 ⟨(some 11), (some ((some 9), false)), .ld none (.t 10)⟩, 
 ⟨(some 12), (some ((some 9), false)), .call 23 [(.t 11)]⟩, 
 ⟨(some 13), (some ((some 9), false)), .un .not (.t 12) (pu (.unOp .not 4 (.tmp 12)) 4)⟩, 
 ⟨(some 14), none, .pick (.t 9) (.k (.sc (.bool true))) (.t 13)⟩])
 (.cond (.t 14) (.seq (.reg [⟨(some 2), none, .mv (.k (.sc (.int .i64 4)))⟩])
  .ret)
 .skip))
 (.seq (.seq (.reg [⟨(some 15), none, .sh 2 (.t 1)⟩, 
 ⟨(some 16), none, .ld none (.t 15)⟩, 
 ⟨(some 17), none, .call 31 [(.t 16), (.k (.sc (.int .i64 1))), (.k (.sc (.int .i64 32)))]⟩, 
 ⟨(some 18), none, .un .not (.t 17) (pu (.unOp .not 4 (.tmp 17)) 4)⟩, 
 ⟨(some 19), none, .mv (.t 18)⟩, 
 ⟨(some 20), (some ((some 19), false)), .sh 3 (.t 1)⟩, 
 ⟨(some 21), (some ((some 19), false)), .ld none (.t 20)⟩, 
 ⟨(some 22), (some ((some 19), false)), .call 31 [(.t 21), (.k (.sc (.int .i64 0))), (.k (.sc (.int .i64 2147483647)))]⟩, 
 ⟨(some 23), (some ((some 19), false)), .un .not (.t 22) (pu (.unOp .not 4 (.tmp 22)) 4)⟩, 
 ⟨(some 24), none, .pick (.t 19) (.k (.sc (.bool true))) (.t 23)⟩, 
 ⟨(some 25), none, .mv (.t 24)⟩, 
 ⟨(some 26), (some ((some 25), false)), .sh 5 (.t 1)⟩, 
 ⟨(some 27), (some ((some 25), false)), .ld none (.t 26)⟩, 
 ⟨(some 28), (some ((some 25), false)), .call 32 [(.t 27)]⟩, 
 ⟨(some 29), (some ((some 25), false)), .un .not (.t 28) (pu (.unOp .not 4 (.tmp 28)) 4)⟩, 
 ⟨(some 30), none, .pick (.t 25) (.k (.sc (.bool true))) (.t 29)⟩])
 (.cond (.t 30) (.seq (.reg [⟨(some 2), none, .mv (.k (.sc (.int .i64 2)))⟩])
  .ret)
 .skip))
 (.seq (.drw [0, 1, 3, 0, 8, 24, 7, 127] [⟨(some 31), none, .sh 4 (.t 1)⟩, 
 ⟨(some 32), none, .ld none (.t 31)⟩, 
 ⟨(some 33), none, .bin .eql false (.t 32) (.k (.sc (.int .i64 1))) (pu (.binOp .eql 3 (.tmp 32) (.const (.int .i64 1)) 3) 4)⟩, 
 ⟨(some 34), none, .sh 4 (.t 1)⟩, 
 ⟨(some 35), none, .ld none (.t 34)⟩, 
 ⟨(some 36), none, .bin .eql false (.t 35) (.k (.sc (.int .i64 3))) (pu (.binOp .eql 3 (.tmp 35) (.const (.int .i64 3)) 3) 4)⟩, 
 ⟨(some 3), none, .mv (.t 33)⟩, 
 ⟨(some 4), none, .mv (.t 36)⟩])
 (.seq (.seq (.reg [⟨(some 37), none, .sh 4 (.t 1)⟩, 
 ⟨(some 38), none, .ld none (.t 37)⟩, 
 ⟨(some 39), none, .call 31 [(.t 38), (.k (.sc (.int .i64 1))), (.k (.sc (.int .i64 3)))]⟩, 
 ⟨(some 40), none, .un .not (.t 39) (pu (.unOp .not 4 (.tmp 39)) 4)⟩, 
 ⟨(some 41), none, .mv (.t 40)⟩, 
 ⟨(some 42), (some ((some 41), false)), .mv (.t 3)⟩, 
 ⟨(some 43), (some ((some 41), false)), .sh 3 (.t 1)⟩, 
 ⟨(some 44), (some ((some 41), false)), .ld none (.t 43)⟩, 
 ⟨(some 45), (some ((some 41), false)), .bin .eql false (.t 44) (.k (.sc (.int .i64 0))) (pu (.binOp .eql 3 (.tmp 44) (.const (.int .i64 0)) 3) 4)⟩, 
 ⟨(some 46), (some ((some 41), false)), .bin .neq true (.t 42) (.t 45) (pu (.binOp .neq 4 (.tmp 42) (.tmp 45) 4) 4)⟩, 
 ⟨(some 47), none, .pick (.t 41) (.k (.sc (.bool true))) (.t 46)⟩, 
 ⟨(some 48), none, .mv (.t 47)⟩, 
 ⟨(some 49), (some ((some 48), false)), .mv (.t 4)⟩, 
 ⟨(some 50), (some ((some 48), false)), .un .not (.t 49) (pu (.unOp .not 4 (.tmp 49)) 4)⟩, 
 ⟨(some 51), (some ((some 48), false)), .mv (.t 50)⟩, 
 ⟨(some 52), (some ((some 51), true)), .sh 8 (.t 1)⟩, 
 ⟨(some 53), (some ((some 51), true)), .ld none (.t 52)⟩, 
 ⟨(some 54), (some ((some 51), true)), .bin .neq false (.t 53) (.k (.sc (.int .i64 0))) (pu (.binOp .neq 3 (.tmp 53) (.const (.int .i64 0)) 3) 4)⟩, 
 ⟨(some 55), (some ((some 48), false)), .pick (.t 51) (.t 54) (.k (.sc (.bool false)))⟩, 
 ⟨(some 56), none, .pick (.t 48) (.k (.sc (.bool true))) (.t 55)⟩, 
 ⟨(some 57), none, .mv (.t 56)⟩, 
 ⟨(some 58), (some ((some 57), false)), .mv (.t 4)⟩, 
 ⟨(some 59), (some ((some 57), false)), .mv (.t 58)⟩, 
 ⟨(some 60), (some ((some 59), true)), .sh 8 (.t 1)⟩, 
 ⟨(some 61), (some ((some 59), true)), .ld none (.t 60)⟩, 
 ⟨(some 62), (some ((some 59), true)), .call 31 [(.t 61), (.k (.sc (.int .i64 1))), (.k (.sc (.int .i64 6)))]⟩, 
 ⟨(some 63), (some ((some 59), true)), .un .not (.t 62) (pu (.unOp .not 4 (.tmp 62)) 4)⟩, 
 ⟨(some 64), (some ((some 57), false)), .pick (.t 59) (.t 63) (.k (.sc (.bool false)))⟩, 
 ⟨(some 65), none, .pick (.t 57) (.k (.sc (.bool true))) (.t 64)⟩])
 (.cond (.t 65) (.seq (.reg [⟨(some 2), none, .mv (.k (.sc (.int .i64 1)))⟩])
  .ret)
 .skip))
 (.seq (.seq (.reg [⟨(some 66), none, .mv (.t 3)⟩, 
 ⟨(some 67), none, .mv (.t 66)⟩, 
 ⟨(some 68), (some ((some 67), true)), .sh 6 (.t 1)⟩, 
 ⟨(some 69), (some ((some 67), true)), .ld none (.t 68)⟩, 
 ⟨(some 70), (some ((some 67), true)), .call 23 [(.t 69)]⟩, 
 ⟨(some 71), (some ((some 67), true)), .un .not (.t 70) (pu (.unOp .not 4 (.tmp 70)) 4)⟩, 
 ⟨(some 72), none, .pick (.t 67) (.t 71) (.k (.sc (.bool false)))⟩])
 (.cond (.t 72) (.seq (.reg [⟨(some 2), none, .mv (.k (.sc (.int .i64 4)))⟩])
  .ret)
 .skip))
 (.seq (.seq (.reg [⟨(some 73), none, .mv (.t 3)⟩, 
 ⟨(some 74), none, .un .not (.t 73) (pu (.unOp .not 4 (.tmp 73)) 4)⟩, 
 ⟨(some 75), none, .mv (.t 74)⟩, 
 ⟨(some 76), (some ((some 75), true)), .sh 6 (.t 1)⟩, 
 ⟨(some 77), (some ((some 75), true)), .ld none (.t 76)⟩, 
 ⟨(some 78), (some ((some 75), true)), .bin .neq false (.t 77) (.k (.sc (.string ⟨#[]⟩))) (pu (.binOp .neq 9 (.tmp 77) (.const (.string ⟨#[]⟩)) 9) 4)⟩, 
 ⟨(some 79), none, .pick (.t 75) (.t 78) (.k (.sc (.bool false)))⟩])
 (.cond (.t 79) (.seq (.reg [⟨(some 2), none, .mv (.k (.sc (.int .i64 1)))⟩])
  .ret)
 .skip))
 (.seq (.reg [⟨(some 80), none, .ld (some 10) (.t 1)⟩, 
 ⟨(some 81), none, .call 33 [(.t 80)]⟩, 
 ⟨(some 2), none, .mv (.t 81)⟩])
 .ret))))))))
def k15 : List Nat := [0, 1, 2, 3, 4, 14, 30, 65, 72, 79]
theorem ic15 : factsI Tryd.prog 15 = some (82, [.tmp 2], c15) := by kernel_rfl

-- chargenet/txn.Update (46 slots)
def c16 : IC :=
 (.seq (.reg [⟨(some 4), none, .bx (.t 0)⟩, 
 ⟨(some 6), none, .bx (.t 2)⟩, 
 ⟨(some 8), none, .al (.agg [(.sc (.string ⟨#[]⟩)), (.sc (.int .i64 0)), (.sc (.string ⟨#[]⟩)), (.sc (.string ⟨#[]⟩)), (.sc (.int .i64 0)), (.sc (.int .i64 0)), (.sc (.bool false)), (.sc (.int .i64 0)), (.sc (.int .i64 0))]) 9⟩, 
 ⟨(some 9), none, .al (.agg [(.sc (.string ⟨#[]⟩)), (.sc (.string ⟨#[]⟩)), (.sc (.int .i64 0)), (.sc (.int .i64 0)), (.sc (.int .i64 0)), (.sc (.int .i64 0)), (.sc (.string ⟨#[]⟩)), (.sc (.bool false)), (.sc (.int .i64 0)), (.sc (.slice none 0 0))]) 10⟩, 
 ⟨(some 10), none, .mv (.k (.sc (.int .i64 0)))⟩])
 (.seq (.seq (.reg [⟨(some 14), none, .ld (some 9) (.t 4)⟩, 
 ⟨(some 15), none, .mv (.t 1)⟩, 
 ⟨(some 16), none, .ld (some 2) (.t 6)⟩, 
 ⟨(some 17), none, .call 34 [(.t 14), (.t 15), (.t 16)]⟩, 
 ⟨(some 11), none, .mv (.t 17)⟩])
 (.seq (.reg [⟨(some 18), none, .mv (.t 11)⟩, 
 ⟨(some 19), none, .bin .neq false (.t 18) (.k (.sc (.int .i64 0))) (pu (.binOp .neq 28 (.tmp 18) (.const (.int .i64 0)) 28) 4)⟩])
 (.cond (.t 19) (.seq (.reg [⟨(some 20), none, .ld (some 9) (.t 4)⟩, 
  ⟨(some 21), none, .bld [(.sc (.string ⟨#[]⟩)), (.sc (.string ⟨#[]⟩)), (.sc (.int .i64 0)), (.sc (.int .i64 0)), (.sc (.int .i64 0)), (.sc (.int .i64 0)), (.sc (.string ⟨#[]⟩)), (.sc (.bool false)), (.sc (.int .i64 0)), (.sc (.slice none 0 0))] []⟩, 
  ⟨(some 22), none, .mv (.t 11)⟩, 
  ⟨none, none, .st 9 (.t 8) (.t 20)⟩, 
  ⟨none, none, .st 10 (.t 9) (.t 21)⟩, 
  ⟨(some 10), none, .mv (.t 22)⟩])
  .ret)
 .skip)))
 (.seq (.seq (.reg [⟨(some 23), none, .sh 0 (.t 6)⟩, 
 ⟨(some 24), none, .ld none (.t 23)⟩, 
 ⟨(some 25), none, .sh 7 (.t 4)⟩, 
 ⟨(some 26), none, .sh 0 (.t 25)⟩, 
 ⟨(some 27), none, .ld none (.t 26)⟩, 
 ⟨(some 28), none, .bin .leq false (.t 24) (.t 27) (pu (.binOp .leq 3 (.tmp 24) (.tmp 27) 3) 4)⟩])
 (.cond (.t 28) (.seq (.reg [⟨(some 29), none, .ld (some 9) (.t 4)⟩, 
  ⟨(some 30), none, .bld [(.sc (.string ⟨#[]⟩)), (.sc (.string ⟨#[]⟩)), (.sc (.int .i64 0)), (.sc (.int .i64 0)), (.sc (.int .i64 0)), (.sc (.int .i64 0)), (.sc (.string ⟨#[]⟩)), (.sc (.bool false)), (.sc (.int .i64 0)), (.sc (.slice none 0 0))] []⟩, 
  ⟨none, none, .st 9 (.t 8) (.t 29)⟩, 
  ⟨none, none, .st 10 (.t 9) (.t 30)⟩, 
  ⟨(some 10), none, .mv (.k (.sc (.int .i64 1)))⟩])
  .ret)
 .skip))
 (.seq (.reg [⟨(some 31), none, .ld (some 9) (.t 4)⟩, 
 ⟨(some 32), none, .mv (.t 1)⟩, 
 ⟨(some 33), none, .mv (.t 3)⟩, 
 ⟨(some 34), none, .bld [(.sc (.string ⟨#[]⟩)), (.sc (.int .i64 0)), (.sc (.string ⟨#[]⟩)), (.sc (.string ⟨#[]⟩)), (.sc (.int .i64 0)), (.sc (.int .i64 0)), (.sc (.bool false)), (.sc (.int .i64 0)), (.sc (.int .i64 0)), (.sc (.string ⟨#[]⟩)), (.sc (.bool false))] [(0, 9, (.t 31)), (9, 1, (.t 32)), (10, 1, (.t 33))]⟩, 
 ⟨(some 12), none, .al (.agg [(.sc (.string ⟨#[]⟩)), (.sc (.int .i64 0)), (.sc (.string ⟨#[]⟩)), (.sc (.string ⟨#[]⟩)), (.sc (.int .i64 0)), (.sc (.int .i64 0)), (.sc (.bool false)), (.sc (.int .i64 0)), (.sc (.int .i64 0)), (.sc (.string ⟨#[]⟩)), (.sc (.bool false))]) 11⟩, 
 ⟨none, none, .st 11 (.t 12) (.t 34)⟩])
 (.seq (.reg [⟨(some 35), none, .sh 0 (.t 12)⟩, 
 ⟨(some 36), none, .sh 5 (.t 35)⟩, 
 ⟨(some 37), none, .ld none (.t 36)⟩, 
 ⟨(some 38), none, .bin .add false (.t 37) (.k (.sc (.int .i64 1))) (pu (.binOp .add 3 (.tmp 37) (.const (.int .i64 1)) 3) 3)⟩, 
 ⟨(some 39), none, .sh 0 (.t 12)⟩, 
 ⟨(some 40), none, .sh 5 (.t 39)⟩, 
 ⟨none, none, .st 1 (.t 40) (.t 38)⟩])
 (.seq (.reg [⟨(some 41), none, .ld (some 2) (.t 6)⟩, 
 ⟨(some 42), none, .call 27 [(.t 12), (.k (.sc (.int .i64 2))), (.t 41)]⟩, 
 ⟨(some 13), none, .al (.agg [(.sc (.string ⟨#[]⟩)), (.sc (.string ⟨#[]⟩)), (.sc (.int .i64 0)), (.sc (.int .i64 0)), (.sc (.int .i64 0)), (.sc (.int .i64 0)), (.sc (.string ⟨#[]⟩)), (.sc (.bool false)), (.sc (.int .i64 0)), (.sc (.slice none 0 0))]) 10⟩, 
 ⟨none, none, .st 10 (.t 13) (.t 42)⟩])
 (.seq (.drw [0, 1, 0, 3, 15, 31] [⟨(some 43), none, .sh 0 (.t 12)⟩, 
 ⟨(some 44), none, .ld (some 9) (.t 43)⟩, 
 ⟨(some 45), none, .ld (some 10) (.t 13)⟩, 
 ⟨none, none, .st 9 (.t 8) (.t 44)⟩, 
 ⟨none, none, .st 10 (.t 9) (.t 45)⟩, 
 ⟨(some 10), none, .mv (.k (.sc (.int .i64 0)))⟩])
 .ret)))))))
def k16 : List Nat := [0, 1, 2, 3, 4, 6, 8, 9, 10, 11, 12, 13, 19, 28]
theorem ic16 : factsI Tryd.prog 16 = some (46, [.cell 8 25, .cell 9 36, .tmp 10], c16) := by kernel_rfl

-- chargenet/chargenetref34.Update (42 slots)
def c17 : IC :=
 (.seq (.reg [⟨(some 4), none, .bx (.t 0)⟩, 
 ⟨(some 6), none, .bx (.t 2)⟩, 
 ⟨(some 8), none, .al (.agg [(.sc (.string ⟨#[]⟩)), (.sc (.int .i64 0)), (.sc (.string ⟨#[]⟩)), (.sc (.string ⟨#[]⟩)), (.sc (.int .i64 0)), (.sc (.int .i64 0)), (.sc (.bool false)), (.sc (.int .i64 0)), (.sc (.int .i64 0))]) 9⟩, 
 ⟨(some 9), none, .al (.agg [(.sc (.string ⟨#[]⟩)), (.sc (.string ⟨#[]⟩)), (.sc (.int .i64 0)), (.sc (.int .i64 0)), (.sc (.int .i64 0)), (.sc (.int .i64 0)), (.sc (.string ⟨#[]⟩)), (.sc (.bool false)), (.sc (.int .i64 0)), (.sc (.slice none 0 0))]) 10⟩, 
 ⟨(some 10), none, .mv (.k (.sc (.int .i64 0)))⟩])
 (.seq (.reg [⟨(some 14), none, .ld (some 9) (.t 4)⟩, 
 ⟨(some 15), none, .mv (.t 1)⟩, 
 ⟨(some 16), none, .ld (some 2) (.t 6)⟩, 
 ⟨(some 17), none, .mv (.t 3)⟩, 
 ⟨(some 18), none, .call 35 [(.t 14), (.t 15), (.t 16), (.t 17)]⟩, 
 ⟨(some 13), none, .mv (.t 18)⟩, 
 ⟨(some 19), none, .ext (.t 13) 0⟩, 
 ⟨(some 20), none, .ext (.t 13) 1⟩, 
 ⟨(some 11), none, .al (.agg [(.sc (.string ⟨#[]⟩)), (.sc (.string ⟨#[]⟩)), (.sc (.int .i64 0)), (.sc (.int .i64 0)), (.sc (.int .i64 0)), (.sc (.int .i64 0)), (.sc (.string ⟨#[]⟩)), (.sc (.bool false)), (.sc (.int .i64 0)), (.sc (.slice none 0 0))]) 10⟩, 
 ⟨none, none, .st 10 (.t 11) (.t 19)⟩, 
 ⟨(some 12), none, .mv (.t 20)⟩])
 (.seq (.seq (.reg [⟨(some 21), none, .mv (.t 12)⟩, 
 ⟨(some 22), none, .bin .neq false (.t 21) (.k (.sc (.int .i64 0))) (pu (.binOp .neq 28 (.tmp 21) (.const (.int .i64 0)) 28) 4)⟩])
 (.cond (.t 22) (.seq (.reg [⟨(some 23), none, .ld (some 9) (.t 4)⟩, 
  ⟨(some 24), none, .bld [(.sc (.string ⟨#[]⟩)), (.sc (.string ⟨#[]⟩)), (.sc (.int .i64 0)), (.sc (.int .i64 0)), (.sc (.int .i64 0)), (.sc (.int .i64 0)), (.sc (.string ⟨#[]⟩)), (.sc (.bool false)), (.sc (.int .i64 0)), (.sc (.slice none 0 0))] []⟩, 
  ⟨(some 25), none, .mv (.t 12)⟩, 
  ⟨none, none, .st 9 (.t 8) (.t 23)⟩, 
  ⟨none, none, .st 10 (.t 9) (.t 24)⟩, 
  ⟨(some 10), none, .mv (.t 25)⟩])
  .ret)
 .skip))
 (.seq (.seq (.reg [⟨(some 26), none, .sh 0 (.t 6)⟩, 
 ⟨(some 27), none, .ld none (.t 26)⟩, 
 ⟨(some 28), none, .sh 7 (.t 4)⟩, 
 ⟨(some 29), none, .sh 0 (.t 28)⟩, 
 ⟨(some 30), none, .ld none (.t 29)⟩, 
 ⟨(some 31), none, .bin .leq false (.t 27) (.t 30) (pu (.binOp .leq 3 (.tmp 27) (.tmp 30) 3) 4)⟩])
 (.cond (.t 31) (.seq (.reg [⟨(some 32), none, .ld (some 9) (.t 4)⟩, 
  ⟨(some 33), none, .bld [(.sc (.string ⟨#[]⟩)), (.sc (.string ⟨#[]⟩)), (.sc (.int .i64 0)), (.sc (.int .i64 0)), (.sc (.int .i64 0)), (.sc (.int .i64 0)), (.sc (.string ⟨#[]⟩)), (.sc (.bool false)), (.sc (.int .i64 0)), (.sc (.slice none 0 0))] []⟩, 
  ⟨none, none, .st 9 (.t 8) (.t 32)⟩, 
  ⟨none, none, .st 10 (.t 9) (.t 33)⟩, 
  ⟨(some 10), none, .mv (.k (.sc (.int .i64 1)))⟩])
  .ret)
 .skip))
 (.seq (.reg [⟨(some 34), none, .sh 4 (.t 11)⟩, 
 ⟨none, none, .st 1 (.t 34) (.k (.sc (.int .i64 2)))⟩])
 (.seq (.drw [0, 1, 0, 3, 11, 31, 63] [⟨(some 35), none, .sh 3 (.t 11)⟩, 
 ⟨(some 36), none, .ld none (.t 35)⟩, 
 ⟨(some 37), none, .ld (some 2) (.t 6)⟩, 
 ⟨(some 38), none, .sh 5 (.t 4)⟩, 
 ⟨none, none, .st 1 (.t 38) (.t 36)⟩, 
 ⟨(some 39), none, .sh 7 (.t 4)⟩, 
 ⟨none, none, .st 2 (.t 39) (.t 37)⟩])
 (.seq (.drw [0, 0, 1, 7, 15] [⟨(some 40), none, .ld (some 9) (.t 4)⟩, 
 ⟨(some 41), none, .ld (some 10) (.t 11)⟩, 
 ⟨none, none, .st 9 (.t 8) (.t 40)⟩, 
 ⟨none, none, .st 10 (.t 9) (.t 41)⟩, 
 ⟨(some 10), none, .mv (.k (.sc (.int .i64 0)))⟩])
 .ret)))))))
def k17 : List Nat := [0, 1, 2, 3, 4, 6, 8, 9, 10, 11, 12, 22, 31]
theorem ic17 : factsI Tryd.prog 17 = some (42, [.cell 8 25, .cell 9 36, .tmp 10], c17) := by kernel_rfl

-- chargenet/txn.End (63 slots)
def c18 : IC :=
 (.seq (.reg [⟨(some 5), none, .bx (.t 0)⟩, 
 ⟨(some 7), none, .bx (.t 2)⟩, 
 ⟨(some 10), none, .al (.agg [(.sc (.string ⟨#[]⟩)), (.sc (.int .i64 0)), (.sc (.string ⟨#[]⟩)), (.sc (.string ⟨#[]⟩)), (.sc (.int .i64 0)), (.sc (.int .i64 0)), (.sc (.bool false)), (.sc (.int .i64 0)), (.sc (.int .i64 0))]) 9⟩, 
 ⟨(some 11), none, .al (.agg [(.sc (.string ⟨#[]⟩)), (.sc (.string ⟨#[]⟩)), (.sc (.int .i64 0)), (.sc (.int .i64 0)), (.sc (.int .i64 0)), (.sc (.int .i64 0)), (.sc (.string ⟨#[]⟩)), (.sc (.bool false)), (.sc (.int .i64 0)), (.sc (.slice none 0 0))]) 10⟩, 
 ⟨(some 12), none, .mv (.k (.sc (.int .i64 0)))⟩])
 (.seq (.seq (.reg [⟨(some 16), none, .ld (some 9) (.t 5)⟩, 
 ⟨(some 17), none, .mv (.t 1)⟩, 
 ⟨(some 18), none, .ld (some 2) (.t 7)⟩, 
 ⟨(some 19), none, .call 34 [(.t 16), (.t 17), (.t 18)]⟩, 
 ⟨(some 13), none, .mv (.t 19)⟩])
 (.seq (.reg [⟨(some 20), none, .mv (.t 13)⟩, 
 ⟨(some 21), none, .bin .neq false (.t 20) (.k (.sc (.int .i64 0))) (pu (.binOp .neq 28 (.tmp 20) (.const (.int .i64 0)) 28) 4)⟩])
 (.cond (.t 21) (.seq (.reg [⟨(some 22), none, .ld (some 9) (.t 5)⟩, 
  ⟨(some 23), none, .bld [(.sc (.string ⟨#[]⟩)), (.sc (.string ⟨#[]⟩)), (.sc (.int .i64 0)), (.sc (.int .i64 0)), (.sc (.int .i64 0)), (.sc (.int .i64 0)), (.sc (.string ⟨#[]⟩)), (.sc (.bool false)), (.sc (.int .i64 0)), (.sc (.slice none 0 0))] []⟩, 
  ⟨(some 24), none, .mv (.t 13)⟩, 
  ⟨none, none, .st 9 (.t 10) (.t 22)⟩, 
  ⟨none, none, .st 10 (.t 11) (.t 23)⟩, 
  ⟨(some 12), none, .mv (.t 24)⟩])
  .ret)
 .skip)))
 (.seq (.seq (.reg [⟨(some 25), none, .sh 0 (.t 7)⟩, 
 ⟨(some 26), none, .ld none (.t 25)⟩, 
 ⟨(some 27), none, .sh 7 (.t 5)⟩, 
 ⟨(some 28), none, .sh 0 (.t 27)⟩, 
 ⟨(some 29), none, .ld none (.t 28)⟩, 
 ⟨(some 30), none, .bin .leq false (.t 26) (.t 29) (pu (.binOp .leq 3 (.tmp 26) (.tmp 29) 3) 4)⟩, 
 ⟨(some 31), none, .mv (.t 30)⟩, 
 ⟨(some 32), (some ((some 31), true)), .ld (some 2) (.t 7)⟩, 
 ⟨(some 33), (some ((some 31), true)), .sh 7 (.t 5)⟩, 
 ⟨(some 34), (some ((some 31), true)), .ld (some 2) (.t 33)⟩, 
 ⟨(some 35), (some ((some 31), true)), .bin .neq false (.t 32) (.t 34) (pu (.binOp .neq 23 (.tmp 32) (.tmp 34) 23) 4)⟩, 
 ⟨(some 36), none, .pick (.t 31) (.t 35) (.k (.sc (.bool false)))⟩])
 (.cond (.t 36) (.seq (.reg [⟨(some 37), none, .ld (some 9) (.t 5)⟩, 
  ⟨(some 38), none, .bld [(.sc (.string ⟨#[]⟩)), (.sc (.string ⟨#[]⟩)), (.sc (.int .i64 0)), (.sc (.int .i64 0)), (.sc (.int .i64 0)), (.sc (.int .i64 0)), (.sc (.string ⟨#[]⟩)), (.sc (.bool false)), (.sc (.int .i64 0)), (.sc (.slice none 0 0))] []⟩, 
  ⟨none, none, .st 9 (.t 10) (.t 37)⟩, 
  ⟨none, none, .st 10 (.t 11) (.t 38)⟩, 
  ⟨(some 12), none, .mv (.k (.sc (.int .i64 1)))⟩])
  .ret)
 .skip))
 (.seq (.seq (.reg [⟨(some 39), none, .mv (.t 3)⟩, 
 ⟨(some 40), none, .bin .lss false (.t 39) (.k (.sc (.int .i64 1))) (pu (.binOp .lss 3 (.tmp 39) (.const (.int .i64 1)) 3) 4)⟩, 
 ⟨(some 41), none, .mv (.t 40)⟩, 
 ⟨(some 42), (some ((some 41), false)), .mv (.t 3)⟩, 
 ⟨(some 43), (some ((some 41), false)), .bin .gtr false (.t 42) (.k (.sc (.int .i64 6))) (pu (.binOp .gtr 3 (.tmp 42) (.const (.int .i64 6)) 3) 4)⟩, 
 ⟨(some 44), none, .pick (.t 41) (.k (.sc (.bool true))) (.t 43)⟩])
 (.cond (.t 44) (.seq (.reg [⟨(some 45), none, .ld (some 9) (.t 5)⟩, 
  ⟨(some 46), none, .bld [(.sc (.string ⟨#[]⟩)), (.sc (.string ⟨#[]⟩)), (.sc (.int .i64 0)), (.sc (.int .i64 0)), (.sc (.int .i64 0)), (.sc (.int .i64 0)), (.sc (.string ⟨#[]⟩)), (.sc (.bool false)), (.sc (.int .i64 0)), (.sc (.slice none 0 0))] []⟩, 
  ⟨none, none, .st 9 (.t 10) (.t 45)⟩, 
  ⟨none, none, .st 10 (.t 11) (.t 46)⟩, 
  ⟨(some 12), none, .mv (.k (.sc (.int .i64 2)))⟩])
  .ret)
 .skip))
 (.seq (.reg [⟨(some 47), none, .ld (some 9) (.t 5)⟩, 
 ⟨(some 48), none, .mv (.t 1)⟩, 
 ⟨(some 49), none, .mv (.t 4)⟩, 
 ⟨(some 50), none, .bld [(.sc (.string ⟨#[]⟩)), (.sc (.int .i64 0)), (.sc (.string ⟨#[]⟩)), (.sc (.string ⟨#[]⟩)), (.sc (.int .i64 0)), (.sc (.int .i64 0)), (.sc (.bool false)), (.sc (.int .i64 0)), (.sc (.int .i64 0)), (.sc (.string ⟨#[]⟩)), (.sc (.bool false))] [(0, 9, (.t 47)), (9, 1, (.t 48)), (10, 1, (.t 49))]⟩, 
 ⟨(some 14), none, .al (.agg [(.sc (.string ⟨#[]⟩)), (.sc (.int .i64 0)), (.sc (.string ⟨#[]⟩)), (.sc (.string ⟨#[]⟩)), (.sc (.int .i64 0)), (.sc (.int .i64 0)), (.sc (.bool false)), (.sc (.int .i64 0)), (.sc (.int .i64 0)), (.sc (.string ⟨#[]⟩)), (.sc (.bool false))]) 11⟩, 
 ⟨none, none, .st 11 (.t 14) (.t 50)⟩])
 (.seq (.reg [⟨(some 51), none, .sh 0 (.t 14)⟩, 
 ⟨(some 52), none, .sh 5 (.t 51)⟩, 
 ⟨(some 53), none, .ld none (.t 52)⟩, 
 ⟨(some 54), none, .bin .add false (.t 53) (.k (.sc (.int .i64 1))) (pu (.binOp .add 3 (.tmp 53) (.const (.int .i64 1)) 3) 3)⟩, 
 ⟨(some 55), none, .sh 0 (.t 14)⟩, 
 ⟨(some 56), none, .sh 5 (.t 55)⟩, 
 ⟨none, none, .st 1 (.t 56) (.t 54)⟩])
 (.seq (.reg [⟨(some 57), none, .ld (some 2) (.t 7)⟩, 
 ⟨(some 58), none, .call 27 [(.t 14), (.k (.sc (.int .i64 3))), (.t 57)]⟩, 
 ⟨(some 15), none, .al (.agg [(.sc (.string ⟨#[]⟩)), (.sc (.string ⟨#[]⟩)), (.sc (.int .i64 0)), (.sc (.int .i64 0)), (.sc (.int .i64 0)), (.sc (.int .i64 0)), (.sc (.string ⟨#[]⟩)), (.sc (.bool false)), (.sc (.int .i64 0)), (.sc (.slice none 0 0))]) 10⟩, 
 ⟨none, none, .st 10 (.t 15) (.t 58)⟩])
 (.seq (.reg [⟨(some 59), none, .mv (.t 3)⟩, 
 ⟨(some 60), none, .sh 8 (.t 15)⟩, 
 ⟨none, none, .st 1 (.t 60) (.t 59)⟩])
 (.seq (.drw [0, 0, 1, 7, 15] [⟨(some 61), none, .bld [(.sc (.string ⟨#[]⟩)), (.sc (.int .i64 0)), (.sc (.string ⟨#[]⟩)), (.sc (.string ⟨#[]⟩)), (.sc (.int .i64 0)), (.sc (.int .i64 0)), (.sc (.bool false)), (.sc (.int .i64 0)), (.sc (.int .i64 0))] []⟩, 
 ⟨(some 62), none, .ld (some 10) (.t 15)⟩, 
 ⟨none, none, .st 9 (.t 10) (.t 61)⟩, 
 ⟨none, none, .st 10 (.t 11) (.t 62)⟩, 
 ⟨(some 12), none, .mv (.k (.sc (.int .i64 0)))⟩])
 .ret)))))))))
def k18 : List Nat := [0, 1, 2, 3, 4, 5, 7, 10, 11, 12, 13, 14, 15, 21, 36, 44]
theorem ic18 : factsI Tryd.prog 18 = some (63, [.cell 10 25, .cell 11 36, .tmp 12], c18) := by kernel_rfl

-- chargenet/chargenetref34.End (55 slots)
def c19 : IC :=
 (.seq (.reg [⟨(some 5), none, .bx (.t 0)⟩, 
 ⟨(some 7), none, .bx (.t 2)⟩, 
 ⟨(some 10), none, .al (.agg [(.sc (.string ⟨#[]⟩)), (.sc (.int .i64 0)), (.sc (.string ⟨#[]⟩)), (.sc (.string ⟨#[]⟩)), (.sc (.int .i64 0)), (.sc (.int .i64 0)), (.sc (.bool false)), (.sc (.int .i64 0)), (.sc (.int .i64 0))]) 9⟩, 
 ⟨(some 11), none, .al (.agg [(.sc (.string ⟨#[]⟩)), (.sc (.string ⟨#[]⟩)), (.sc (.int .i64 0)), (.sc (.int .i64 0)), (.sc (.int .i64 0)), (.sc (.int .i64 0)), (.sc (.string ⟨#[]⟩)), (.sc (.bool false)), (.sc (.int .i64 0)), (.sc (.slice none 0 0))]) 10⟩, 
 ⟨(some 12), none, .mv (.k (.sc (.int .i64 0)))⟩])
 (.seq (.reg [⟨(some 16), none, .ld (some 9) (.t 5)⟩, 
 ⟨(some 17), none, .mv (.t 1)⟩, 
 ⟨(some 18), none, .ld (some 2) (.t 7)⟩, 
 ⟨(some 19), none, .mv (.t 4)⟩, 
 ⟨(some 20), none, .call 35 [(.t 16), (.t 17), (.t 18), (.t 19)]⟩, 
 ⟨(some 15), none, .mv (.t 20)⟩, 
 ⟨(some 21), none, .ext (.t 15) 0⟩, 
 ⟨(some 22), none, .ext (.t 15) 1⟩, 
 ⟨(some 13), none, .al (.agg [(.sc (.string ⟨#[]⟩)), (.sc (.string ⟨#[]⟩)), (.sc (.int .i64 0)), (.sc (.int .i64 0)), (.sc (.int .i64 0)), (.sc (.int .i64 0)), (.sc (.string ⟨#[]⟩)), (.sc (.bool false)), (.sc (.int .i64 0)), (.sc (.slice none 0 0))]) 10⟩, 
 ⟨none, none, .st 10 (.t 13) (.t 21)⟩, 
 ⟨(some 14), none, .mv (.t 22)⟩])
 (.seq (.seq (.reg [⟨(some 23), none, .mv (.t 14)⟩, 
 ⟨(some 24), none, .bin .neq false (.t 23) (.k (.sc (.int .i64 0))) (pu (.binOp .neq 28 (.tmp 23) (.const (.int .i64 0)) 28) 4)⟩])
 (.cond (.t 24) (.seq (.reg [⟨(some 25), none, .ld (some 9) (.t 5)⟩, 
  ⟨(some 26), none, .bld [(.sc (.string ⟨#[]⟩)), (.sc (.string ⟨#[]⟩)), (.sc (.int .i64 0)), (.sc (.int .i64 0)), (.sc (.int .i64 0)), (.sc (.int .i64 0)), (.sc (.string ⟨#[]⟩)), (.sc (.bool false)), (.sc (.int .i64 0)), (.sc (.slice none 0 0))] []⟩, 
  ⟨(some 27), none, .mv (.t 14)⟩, 
  ⟨none, none, .st 9 (.t 10) (.t 25)⟩, 
  ⟨none, none, .st 10 (.t 11) (.t 26)⟩, 
  ⟨(some 12), none, .mv (.t 27)⟩])
  .ret)
 .skip))
 (.seq (.seq (.reg [⟨(some 28), none, .sh 0 (.t 7)⟩, 
 ⟨(some 29), none, .ld none (.t 28)⟩, 
 ⟨(some 30), none, .sh 7 (.t 5)⟩, 
 ⟨(some 31), none, .sh 0 (.t 30)⟩, 
 ⟨(some 32), none, .ld none (.t 31)⟩, 
 ⟨(some 33), none, .bin .leq false (.t 29) (.t 32) (pu (.binOp .leq 3 (.tmp 29) (.tmp 32) 3) 4)⟩, 
 ⟨(some 34), none, .mv (.t 33)⟩, 
 ⟨(some 35), (some ((some 34), true)), .ld (some 2) (.t 7)⟩, 
 ⟨(some 36), (some ((some 34), true)), .sh 7 (.t 5)⟩, 
 ⟨(some 37), (some ((some 34), true)), .ld (some 2) (.t 36)⟩, 
 ⟨(some 38), (some ((some 34), true)), .bin .neq false (.t 35) (.t 37) (pu (.binOp .neq 23 (.tmp 35) (.tmp 37) 23) 4)⟩, 
 ⟨(some 39), none, .pick (.t 34) (.t 38) (.k (.sc (.bool false)))⟩])
 (.cond (.t 39) (.seq (.reg [⟨(some 40), none, .ld (some 9) (.t 5)⟩, 
  ⟨(some 41), none, .bld [(.sc (.string ⟨#[]⟩)), (.sc (.string ⟨#[]⟩)), (.sc (.int .i64 0)), (.sc (.int .i64 0)), (.sc (.int .i64 0)), (.sc (.int .i64 0)), (.sc (.string ⟨#[]⟩)), (.sc (.bool false)), (.sc (.int .i64 0)), (.sc (.slice none 0 0))] []⟩, 
  ⟨none, none, .st 9 (.t 10) (.t 40)⟩, 
  ⟨none, none, .st 10 (.t 11) (.t 41)⟩, 
  ⟨(some 12), none, .mv (.k (.sc (.int .i64 1)))⟩])
  .ret)
 .skip))
 (.seq (.seq (.reg [⟨(some 42), none, .mv (.t 3)⟩, 
 ⟨(some 43), none, .bin .lss false (.t 42) (.k (.sc (.int .i64 1))) (pu (.binOp .lss 3 (.tmp 42) (.const (.int .i64 1)) 3) 4)⟩, 
 ⟨(some 44), none, .mv (.t 43)⟩, 
 ⟨(some 45), (some ((some 44), false)), .mv (.t 3)⟩, 
 ⟨(some 46), (some ((some 44), false)), .bin .gtr false (.t 45) (.k (.sc (.int .i64 6))) (pu (.binOp .gtr 3 (.tmp 45) (.const (.int .i64 6)) 3) 4)⟩, 
 ⟨(some 47), none, .pick (.t 44) (.k (.sc (.bool true))) (.t 46)⟩])
 (.cond (.t 47) (.seq (.reg [⟨(some 48), none, .ld (some 9) (.t 5)⟩, 
  ⟨(some 49), none, .bld [(.sc (.string ⟨#[]⟩)), (.sc (.string ⟨#[]⟩)), (.sc (.int .i64 0)), (.sc (.int .i64 0)), (.sc (.int .i64 0)), (.sc (.int .i64 0)), (.sc (.string ⟨#[]⟩)), (.sc (.bool false)), (.sc (.int .i64 0)), (.sc (.slice none 0 0))] []⟩, 
  ⟨none, none, .st 9 (.t 10) (.t 48)⟩, 
  ⟨none, none, .st 10 (.t 11) (.t 49)⟩, 
  ⟨(some 12), none, .mv (.k (.sc (.int .i64 2)))⟩])
  .ret)
 .skip))
 (.seq (.reg [⟨(some 50), none, .mv (.t 3)⟩, 
 ⟨(some 51), none, .sh 4 (.t 13)⟩, 
 ⟨none, none, .st 1 (.t 51) (.k (.sc (.int .i64 3)))⟩, 
 ⟨(some 52), none, .sh 8 (.t 13)⟩, 
 ⟨none, none, .st 1 (.t 52) (.t 50)⟩])
 (.seq (.drw [0, 0, 1, 7, 15] [⟨(some 53), none, .bld [(.sc (.string ⟨#[]⟩)), (.sc (.int .i64 0)), (.sc (.string ⟨#[]⟩)), (.sc (.string ⟨#[]⟩)), (.sc (.int .i64 0)), (.sc (.int .i64 0)), (.sc (.bool false)), (.sc (.int .i64 0)), (.sc (.int .i64 0))] []⟩, 
 ⟨(some 54), none, .ld (some 10) (.t 13)⟩, 
 ⟨none, none, .st 9 (.t 10) (.t 53)⟩, 
 ⟨none, none, .st 10 (.t 11) (.t 54)⟩, 
 ⟨(some 12), none, .mv (.k (.sc (.int .i64 0)))⟩])
 .ret)))))))
def k19 : List Nat := [0, 1, 2, 3, 4, 5, 7, 10, 11, 12, 13, 14, 24, 39, 47]
theorem ic19 : factsI Tryd.prog 19 = some (55, [.cell 10 25, .cell 11 36, .tmp 12], c19) := by kernel_rfl

-- chargenet/chargenetlaw34.card (2 slots)
def c20 : IC :=
 (.seq (.reg [⟨(some 0), none, .al (.agg [(.sc (.string ⟨#[]⟩)), (.sc (.string ⟨#[]⟩)), (.sc (.string ⟨#[]⟩)), (.sc (.int .i64 0)), (.sc (.int .i64 0)), (.sc (.int .i64 0))]) 6⟩])
 (.seq (.reg [⟨(some 1), none, .bld [(.sc (.string ⟨#[]⟩)), (.sc (.string ⟨#[]⟩)), (.sc (.string ⟨#[]⟩)), (.sc (.int .i64 0)), (.sc (.int .i64 0)), (.sc (.int .i64 0))] [(0, 1, (.k (.sc (.string ⟨#[65]⟩)))), (3, 1, (.k (.sc (.int .i64 1)))), (4, 1, (.k (.sc (.int .i64 1)))), (5, 1, (.k (.sc (.int .i64 (-1)))))]⟩, 
 ⟨none, none, .st 6 (.t 0) (.t 1)⟩])
 .ret))
def k20 : List Nat := [0]
theorem ic20 : factsI Tryd.prog 20 = some (2, [.cell 0 31], c20) := by kernel_rfl

-- chargenet/ident.Valid (28 slots)
def c21 : IC :=
 (.seq (.reg [⟨(some 2), none, .mv (.k (.sc (.bool false)))⟩])
 (.seq (.seq (.reg [⟨(some 5), none, .mv (.t 0)⟩, 
 ⟨(some 6), none, .lens (.t 5) (pu (.call ⟨.builtin .len, #[(.tmp 5)], #[9]⟩) 3)⟩, 
 ⟨(some 7), none, .bin .lss false (.t 6) (.k (.sc (.int .i64 1))) (pu (.binOp .lss 3 (.tmp 6) (.const (.int .i64 1)) 3) 4)⟩, 
 ⟨(some 8), none, .mv (.t 7)⟩, 
 ⟨(some 9), (some ((some 8), false)), .mv (.t 0)⟩, 
 ⟨(some 10), (some ((some 8), false)), .lens (.t 9) (pu (.call ⟨.builtin .len, #[(.tmp 9)], #[9]⟩) 3)⟩, 
 ⟨(some 11), (some ((some 8), false)), .bin .gtr false (.t 10) (.k (.sc (.int .i64 36))) (pu (.binOp .gtr 3 (.tmp 10) (.const (.int .i64 36)) 3) 4)⟩, 
 ⟨(some 12), none, .pick (.t 8) (.k (.sc (.bool true))) (.t 11)⟩])
 (.cond (.t 12) (.seq (.reg [⟨(some 2), none, .mv (.k (.sc (.bool false)))⟩])
  .ret)
 .skip))
 (.seq (.seq (.reg [⟨(some 13), none, .mv (.t 0)⟩, 
 ⟨(some 14), none, .rng (.t 13)⟩])
 (.block 0 (.loop (.seq (.reg [⟨(some 15), none, .nxt (.t 14)⟩, 
  ⟨(some 16), none, .ext (.t 15) 0⟩])
  (.seq (.cond (.t 16) .skip
  (.exit 0))
  (.block 1 (.seq (.reg [⟨(some 17), none, .ext (.t 15) 2⟩, 
  ⟨(some 4), none, .mv (.t 17)⟩])
  (.seq (.seq (.reg [⟨(some 18), none, .mv (.t 4)⟩])
  (.block 2 (.seq (.seq (.reg [⟨(some 20), none, .bin .eql false (.t 18) (.k (.sc (.int .i32 45))) (pu (.binOp .eql 21 (.tmp 18) (.const (.int .i32 45)) 21) 4)⟩, 
  ⟨(some 19), none, .mv (.t 20)⟩])
  (.cond (.t 19) .skip
  (.seq (.reg [⟨(some 21), none, .bin .eql false (.t 18) (.k (.sc (.int .i32 95))) (pu (.binOp .eql 21 (.tmp 18) (.const (.int .i32 95)) 21) 4)⟩, 
   ⟨(some 19), none, .mv (.t 21)⟩])
   (.cond (.t 19) .skip
   (.seq (.reg [⟨(some 22), none, .bin .eql false (.t 18) (.k (.sc (.int .i32 46))) (pu (.binOp .eql 21 (.tmp 18) (.const (.int .i32 46)) 21) 4)⟩, 
    ⟨(some 19), none, .mv (.t 22)⟩])
    (.cond (.t 19) .skip
    (.seq (.reg [⟨(some 23), none, .bin .eql false (.t 18) (.k (.sc (.int .i32 58))) (pu (.binOp .eql 21 (.tmp 18) (.const (.int .i32 58)) 21) 4)⟩, 
     ⟨(some 19), none, .mv (.t 23)⟩])
     (.cond (.t 19) .skip
     (.reg [⟨(some 24), none, .bin .eql false (.t 18) (.k (.sc (.int .i32 42))) (pu (.binOp .eql 21 (.tmp 18) (.const (.int .i32 42)) 21) 4)⟩, 
      ⟨(some 19), none, .mv (.t 24)⟩])))))))))
  (.cond (.t 19) (.exit 1)
  .skip))))
  (.seq (.reg [⟨(some 25), none, .mv (.t 4)⟩, 
  ⟨(some 26), none, .call 36 [(.t 25)]⟩, 
  ⟨(some 27), none, .bin .lss false (.t 26) (.k (.sc (.int .i64 0))) (pu (.binOp .lss 3 (.tmp 26) (.const (.int .i64 0)) 3) 4)⟩])
  (.cond (.t 27) (.seq (.reg [⟨(some 2), none, .mv (.k (.sc (.bool false)))⟩])
   .ret)
  .skip))))))))))
 (.seq (.reg [⟨(some 2), none, .mv (.k (.sc (.bool true)))⟩])
 .ret))))
def k21 : List Nat := [0, 2, 4, 12, 14, 15, 16, 18, 19, 27]
theorem ic21 : factsI Tryd.prog 21 = some (28, [.tmp 2], c21) := by kernel_rfl

-- chargenet/txn.possible (21 slots)
def c22 : IC :=
 (.seq (.reg [⟨(some 1), none, .bx (.t 0)⟩, 
 ⟨(some 2), none, .mv (.k (.sc (.bool false)))⟩])
 (.seq (.reg [⟨(some 3), none, .sh 0 (.t 1)⟩, 
 ⟨(some 4), none, .ld none (.t 3)⟩, 
 ⟨(some 5), none, .bin .geq false (.t 4) (.k (.sc (.int .i64 0))) (pu (.binOp .geq 3 (.tmp 4) (.const (.int .i64 0)) 3) 4)⟩, 
 ⟨(some 6), none, .mv (.t 5)⟩, 
 ⟨(some 7), (some ((some 6), true)), .sh 0 (.t 1)⟩, 
 ⟨(some 8), (some ((some 6), true)), .ld none (.t 7)⟩, 
 ⟨(some 9), (some ((some 6), true)), .bin .leq false (.t 8) (.k (.sc (.int .i64 268435456))) (pu (.binOp .leq 3 (.tmp 8) (.const (.int .i64 268435456)) 3) 4)⟩, 
 ⟨(some 10), none, .pick (.t 6) (.t 9) (.k (.sc (.bool false)))⟩, 
 ⟨(some 11), none, .mv (.t 10)⟩, 
 ⟨(some 12), (some ((some 11), true)), .sh 1 (.t 1)⟩, 
 ⟨(some 13), (some ((some 11), true)), .ld none (.t 12)⟩, 
 ⟨(some 14), (some ((some 11), true)), .bin .geq false (.t 13) (.k (.sc (.int .i64 0))) (pu (.binOp .geq 3 (.tmp 13) (.const (.int .i64 0)) 3) 4)⟩, 
 ⟨(some 15), none, .pick (.t 11) (.t 14) (.k (.sc (.bool false)))⟩, 
 ⟨(some 16), none, .mv (.t 15)⟩, 
 ⟨(some 17), (some ((some 16), true)), .sh 1 (.t 1)⟩, 
 ⟨(some 18), (some ((some 16), true)), .ld none (.t 17)⟩, 
 ⟨(some 19), (some ((some 16), true)), .bin .leq false (.t 18) (.k (.sc (.int .i64 1099511627775))) (pu (.binOp .leq 3 (.tmp 18) (.const (.int .i64 1099511627775)) 3) 4)⟩, 
 ⟨(some 20), none, .pick (.t 16) (.t 19) (.k (.sc (.bool false)))⟩, 
 ⟨(some 2), none, .mv (.t 20)⟩])
 .ret))
def k22 : List Nat := [0, 1, 2]
theorem ic22 : factsI Tryd.prog 22 = some (21, [.tmp 2], c22) := by kernel_rfl

-- chargenet/chargenetref01.Valid (45 slots)
def c23 : IC :=
 (.seq (.reg [⟨(some 2), none, .mv (.k (.sc (.bool false)))⟩])
 (.seq (.seq (.reg [⟨(some 5), none, .mv (.t 0)⟩, 
 ⟨(some 6), none, .lens (.t 5) (pu (.call ⟨.builtin .len, #[(.tmp 5)], #[9]⟩) 3)⟩, 
 ⟨(some 7), none, .bin .lss false (.t 6) (.k (.sc (.int .i64 1))) (pu (.binOp .lss 3 (.tmp 6) (.const (.int .i64 1)) 3) 4)⟩, 
 ⟨(some 8), none, .mv (.t 7)⟩, 
 ⟨(some 9), (some ((some 8), false)), .mv (.t 0)⟩, 
 ⟨(some 10), (some ((some 8), false)), .lens (.t 9) (pu (.call ⟨.builtin .len, #[(.tmp 9)], #[9]⟩) 3)⟩, 
 ⟨(some 11), (some ((some 8), false)), .bin .gtr false (.t 10) (.k (.sc (.int .i64 36))) (pu (.binOp .gtr 3 (.tmp 10) (.const (.int .i64 36)) 3) 4)⟩, 
 ⟨(some 12), none, .pick (.t 8) (.k (.sc (.bool true))) (.t 11)⟩])
 (.cond (.t 12) (.seq (.reg [⟨(some 2), none, .mv (.k (.sc (.bool false)))⟩])
  .ret)
 .skip))
 (.seq (.seq (.reg [⟨(some 3), none, .mv (.k (.sc (.int .i64 0)))⟩])
 (.block 0 (.loop (.seq (.seq (.reg [⟨(some 13), none, .mv (.t 3)⟩, 
  ⟨(some 14), none, .mv (.t 0)⟩, 
  ⟨(some 15), none, .lens (.t 14) (pu (.call ⟨.builtin .len, #[(.tmp 14)], #[9]⟩) 3)⟩, 
  ⟨(some 16), none, .bin .lss false (.t 13) (.t 15) (pu (.binOp .lss 3 (.tmp 13) (.tmp 15) 3) 4)⟩])
  (.cond (.t 16) .skip
  (.exit 0)))
  (.seq (.block 1 (.seq (.reg [⟨(some 19), none, .mv (.t 0)⟩, 
  ⟨(some 20), none, .mv (.t 3)⟩, 
  ⟨(some 21), none, .pur (pu (.index 9 (.tmp 19) (.tmp 20)) 5)⟩, 
  ⟨(some 4), none, .mv (.t 21)⟩])
  (.seq (.reg [⟨(some 22), none, .mv (.t 4)⟩, 
  ⟨(some 23), none, .call 37 [(.t 22)]⟩, 
  ⟨(some 24), none, .bin .lss false (.t 23) (.k (.sc (.int .i64 0))) (pu (.binOp .lss 3 (.tmp 23) (.const (.int .i64 0)) 3) 4)⟩, 
  ⟨(some 25), none, .mv (.t 24)⟩, 
  ⟨(some 26), (some ((some 25), true)), .mv (.t 4)⟩, 
  ⟨(some 27), (some ((some 25), true)), .bin .neq false (.t 26) (.k (.sc (.int .u8 45))) (pu (.binOp .neq 5 (.tmp 26) (.const (.int .u8 45)) 5) 4)⟩, 
  ⟨(some 28), none, .pick (.t 25) (.t 27) (.k (.sc (.bool false)))⟩, 
  ⟨(some 29), none, .mv (.t 28)⟩, 
  ⟨(some 30), (some ((some 29), true)), .mv (.t 4)⟩, 
  ⟨(some 31), (some ((some 29), true)), .bin .neq false (.t 30) (.k (.sc (.int .u8 95))) (pu (.binOp .neq 5 (.tmp 30) (.const (.int .u8 95)) 5) 4)⟩, 
  ⟨(some 32), none, .pick (.t 29) (.t 31) (.k (.sc (.bool false)))⟩, 
  ⟨(some 33), none, .mv (.t 32)⟩, 
  ⟨(some 34), (some ((some 33), true)), .mv (.t 4)⟩, 
  ⟨(some 35), (some ((some 33), true)), .bin .neq false (.t 34) (.k (.sc (.int .u8 46))) (pu (.binOp .neq 5 (.tmp 34) (.const (.int .u8 46)) 5) 4)⟩, 
  ⟨(some 36), none, .pick (.t 33) (.t 35) (.k (.sc (.bool false)))⟩, 
  ⟨(some 37), none, .mv (.t 36)⟩, 
  ⟨(some 38), (some ((some 37), true)), .mv (.t 4)⟩, 
  ⟨(some 39), (some ((some 37), true)), .bin .neq false (.t 38) (.k (.sc (.int .u8 58))) (pu (.binOp .neq 5 (.tmp 38) (.const (.int .u8 58)) 5) 4)⟩, 
  ⟨(some 40), none, .pick (.t 37) (.t 39) (.k (.sc (.bool false)))⟩, 
  ⟨(some 41), none, .mv (.t 40)⟩, 
  ⟨(some 42), (some ((some 41), true)), .mv (.t 4)⟩, 
  ⟨(some 43), (some ((some 41), true)), .bin .neq false (.t 42) (.k (.sc (.int .u8 42))) (pu (.binOp .neq 5 (.tmp 42) (.const (.int .u8 42)) 5) 4)⟩, 
  ⟨(some 44), none, .pick (.t 41) (.t 43) (.k (.sc (.bool false)))⟩])
  (.cond (.t 44) (.seq (.reg [⟨(some 2), none, .mv (.k (.sc (.bool false)))⟩])
   .ret)
  .skip))))
  (.reg [⟨(some 17), none, .mv (.t 3)⟩, 
  ⟨(some 18), none, .bin .add false (.t 17) (.k (.sc (.int .i64 1))) (pu (.binOp .add 3 (.tmp 17) (.const (.int .i64 1)) 3) 3)⟩, 
  ⟨(some 3), none, .mv (.t 18)⟩]))))))
 (.seq (.reg [⟨(some 2), none, .mv (.k (.sc (.bool true)))⟩])
 .ret))))
def k23 : List Nat := [0, 2, 3, 4, 12, 16, 44]
theorem ic23 : factsI Tryd.prog 23 = some (45, [.tmp 2], c23) := by kernel_rfl

-- chargenet/chargenetref34.Possible (21 slots)
def c24 : IC :=
 (.seq (.reg [⟨(some 1), none, .bx (.t 0)⟩, 
 ⟨(some 2), none, .mv (.k (.sc (.bool false)))⟩])
 (.seq (.reg [⟨(some 3), none, .sh 0 (.t 1)⟩, 
 ⟨(some 4), none, .ld none (.t 3)⟩, 
 ⟨(some 5), none, .bin .geq false (.t 4) (.k (.sc (.int .i64 0))) (pu (.binOp .geq 3 (.tmp 4) (.const (.int .i64 0)) 3) 4)⟩, 
 ⟨(some 6), none, .mv (.t 5)⟩, 
 ⟨(some 7), (some ((some 6), true)), .sh 0 (.t 1)⟩, 
 ⟨(some 8), (some ((some 6), true)), .ld none (.t 7)⟩, 
 ⟨(some 9), (some ((some 6), true)), .bin .leq false (.t 8) (.k (.sc (.int .i64 268435456))) (pu (.binOp .leq 3 (.tmp 8) (.const (.int .i64 268435456)) 3) 4)⟩, 
 ⟨(some 10), none, .pick (.t 6) (.t 9) (.k (.sc (.bool false)))⟩, 
 ⟨(some 11), none, .mv (.t 10)⟩, 
 ⟨(some 12), (some ((some 11), true)), .sh 1 (.t 1)⟩, 
 ⟨(some 13), (some ((some 11), true)), .ld none (.t 12)⟩, 
 ⟨(some 14), (some ((some 11), true)), .bin .geq false (.t 13) (.k (.sc (.int .i64 0))) (pu (.binOp .geq 3 (.tmp 13) (.const (.int .i64 0)) 3) 4)⟩, 
 ⟨(some 15), none, .pick (.t 11) (.t 14) (.k (.sc (.bool false)))⟩, 
 ⟨(some 16), none, .mv (.t 15)⟩, 
 ⟨(some 17), (some ((some 16), true)), .sh 1 (.t 1)⟩, 
 ⟨(some 18), (some ((some 16), true)), .ld none (.t 17)⟩, 
 ⟨(some 19), (some ((some 16), true)), .bin .lss false (.t 18) (.k (.sc (.int .i64 1099511627776))) (pu (.binOp .lss 3 (.tmp 18) (.const (.int .i64 1099511627776)) 3) 4)⟩, 
 ⟨(some 20), none, .pick (.t 16) (.t 19) (.k (.sc (.bool false)))⟩, 
 ⟨(some 2), none, .mv (.t 20)⟩])
 .ret))
def k24 : List Nat := [0, 1, 2]
theorem ic24 : factsI Tryd.prog 24 = some (21, [.tmp 2], c24) := by kernel_rfl

-- strconv.Itoa (5 slots)
def c25 : IC :=
 (.seq (.reg [⟨(some 2), none, .mv (.k (.sc (.string ⟨#[]⟩)))⟩])
 (.seq (.reg [⟨(some 3), none, .mv (.t 0)⟩, 
 ⟨(some 4), none, .call 38 [(.t 3)]⟩, 
 ⟨(some 2), none, .mv (.t 4)⟩])
 .ret))
def k25 : List Nat := [0, 2]
theorem ic25 : factsI Tryd.prog 25 = some (5, [.tmp 2], c25) := by kernel_rfl

-- chargenet/token.Valid (51 slots)
def c26 : IC :=
 (.seq (.reg [⟨(some 1), none, .bx (.t 0)⟩, 
 ⟨(some 2), none, .mv (.k (.sc (.int .i64 0)))⟩])
 (.seq (.seq (.reg [⟨(some 3), none, .sh 0 (.t 1)⟩, 
 ⟨(some 4), none, .ld none (.t 3)⟩, 
 ⟨(some 5), none, .call 21 [(.t 4)]⟩, 
 ⟨(some 6), none, .un .not (.t 5) (pu (.unOp .not 4 (.tmp 5)) 4)⟩])
 (.cond (.t 6) (.seq (.reg [⟨(some 2), none, .mv (.k (.sc (.int .i64 4)))⟩])
  .ret)
 .skip))
 (.seq (.seq (.reg [⟨(some 7), none, .sh 1 (.t 1)⟩, 
 ⟨(some 8), none, .ld none (.t 7)⟩, 
 ⟨(some 9), none, .bin .neq false (.t 8) (.k (.sc (.string ⟨#[]⟩))) (pu (.binOp .neq 9 (.tmp 8) (.const (.string ⟨#[]⟩)) 9) 4)⟩, 
 ⟨(some 10), none, .mv (.t 9)⟩, 
 ⟨(some 11), (some ((some 10), true)), .sh 1 (.t 1)⟩, 
 ⟨(some 12), (some ((some 10), true)), .ld none (.t 11)⟩, 
 ⟨(some 13), (some ((some 10), true)), .call 21 [(.t 12)]⟩, 
 ⟨(some 14), (some ((some 10), true)), .un .not (.t 13) (pu (.unOp .not 4 (.tmp 13)) 4)⟩, 
 ⟨(some 15), none, .pick (.t 10) (.t 14) (.k (.sc (.bool false)))⟩, 
 ⟨(some 16), none, .mv (.t 15)⟩, 
 ⟨(some 17), (some ((some 16), false)), .sh 2 (.t 1)⟩, 
 ⟨(some 18), (some ((some 16), false)), .ld none (.t 17)⟩, 
 ⟨(some 19), (some ((some 16), false)), .bin .neq false (.t 18) (.k (.sc (.string ⟨#[]⟩))) (pu (.binOp .neq 9 (.tmp 18) (.const (.string ⟨#[]⟩)) 9) 4)⟩, 
 ⟨(some 20), (some ((some 16), false)), .mv (.t 19)⟩, 
 ⟨(some 21), (some ((some 20), true)), .sh 2 (.t 1)⟩, 
 ⟨(some 22), (some ((some 20), true)), .ld none (.t 21)⟩, 
 ⟨(some 23), (some ((some 20), true)), .call 21 [(.t 22)]⟩, 
 ⟨(some 24), (some ((some 20), true)), .un .not (.t 23) (pu (.unOp .not 4 (.tmp 23)) 4)⟩, 
 ⟨(some 25), (some ((some 16), false)), .pick (.t 20) (.t 24) (.k (.sc (.bool false)))⟩, 
 ⟨(some 26), none, .pick (.t 16) (.k (.sc (.bool true))) (.t 25)⟩])
 (.cond (.t 26) (.seq (.reg [⟨(some 2), none, .mv (.k (.sc (.int .i64 4)))⟩])
  .ret)
 .skip))
 (.seq (.seq (.reg [⟨(some 27), none, .sh 3 (.t 1)⟩, 
 ⟨(some 28), none, .ld none (.t 27)⟩, 
 ⟨(some 29), none, .bin .lss false (.t 28) (.k (.sc (.int .i64 1))) (pu (.binOp .lss 3 (.tmp 28) (.const (.int .i64 1)) 3) 4)⟩, 
 ⟨(some 30), none, .mv (.t 29)⟩, 
 ⟨(some 31), (some ((some 30), false)), .sh 3 (.t 1)⟩, 
 ⟨(some 32), (some ((some 30), false)), .ld none (.t 31)⟩, 
 ⟨(some 33), (some ((some 30), false)), .bin .gtr false (.t 32) (.k (.sc (.int .i64 3))) (pu (.binOp .gtr 3 (.tmp 32) (.const (.int .i64 3)) 3) 4)⟩, 
 ⟨(some 34), none, .pick (.t 30) (.k (.sc (.bool true))) (.t 33)⟩])
 (.cond (.t 34) (.seq (.reg [⟨(some 2), none, .mv (.k (.sc (.int .i64 2)))⟩])
  .ret)
 .skip))
 (.seq (.seq (.reg [⟨(some 35), none, .sh 4 (.t 1)⟩, 
 ⟨(some 36), none, .ld none (.t 35)⟩, 
 ⟨(some 37), none, .bin .lss false (.t 36) (.k (.sc (.int .i64 1))) (pu (.binOp .lss 3 (.tmp 36) (.const (.int .i64 1)) 3) 4)⟩, 
 ⟨(some 38), none, .mv (.t 37)⟩, 
 ⟨(some 39), (some ((some 38), false)), .sh 4 (.t 1)⟩, 
 ⟨(some 40), (some ((some 38), false)), .ld none (.t 39)⟩, 
 ⟨(some 41), (some ((some 38), false)), .bin .gtr false (.t 40) (.k (.sc (.int .i64 3))) (pu (.binOp .gtr 3 (.tmp 40) (.const (.int .i64 3)) 3) 4)⟩, 
 ⟨(some 42), none, .pick (.t 38) (.k (.sc (.bool true))) (.t 41)⟩])
 (.cond (.t 42) (.seq (.reg [⟨(some 2), none, .mv (.k (.sc (.int .i64 2)))⟩])
  .ret)
 .skip))
 (.seq (.seq (.reg [⟨(some 43), none, .sh 5 (.t 1)⟩, 
 ⟨(some 44), none, .ld none (.t 43)⟩, 
 ⟨(some 45), none, .bin .lss false (.t 44) (.k (.sc (.int .i64 (-1)))) (pu (.binOp .lss 3 (.tmp 44) (.const (.int .i64 (-1))) 3) 4)⟩, 
 ⟨(some 46), none, .mv (.t 45)⟩, 
 ⟨(some 47), (some ((some 46), false)), .sh 5 (.t 1)⟩, 
 ⟨(some 48), (some ((some 46), false)), .ld none (.t 47)⟩, 
 ⟨(some 49), (some ((some 46), false)), .bin .gtr false (.t 48) (.k (.sc (.int .i64 268435456))) (pu (.binOp .gtr 3 (.tmp 48) (.const (.int .i64 268435456)) 3) 4)⟩, 
 ⟨(some 50), none, .pick (.t 46) (.k (.sc (.bool true))) (.t 49)⟩])
 (.cond (.t 50) (.seq (.reg [⟨(some 2), none, .mv (.k (.sc (.int .i64 2)))⟩])
  .ret)
 .skip))
 (.seq (.reg [⟨(some 2), none, .mv (.k (.sc (.int .i64 0)))⟩])
 .ret)))))))
def k26 : List Nat := [0, 1, 2, 6, 26, 34, 42, 50]
theorem ic26 : factsI Tryd.prog 26 = some (51, [.tmp 2], c26) := by kernel_rfl

-- (*chargenet/txn.running).report (41 slots)
def c27 : IC :=
 (.seq (.reg [⟨(some 5), none, .bx (.t 2)⟩, 
 ⟨(some 6), none, .al (.agg [(.sc (.string ⟨#[]⟩)), (.sc (.string ⟨#[]⟩)), (.sc (.int .i64 0)), (.sc (.int .i64 0)), (.sc (.int .i64 0)), (.sc (.int .i64 0)), (.sc (.string ⟨#[]⟩)), (.sc (.bool false)), (.sc (.int .i64 0)), (.sc (.slice none 0 0))]) 10⟩])
 (.seq (.reg [⟨(some 7), none, .mv (.t 0)⟩, 
 ⟨(some 8), none, .ld (some 2) (.t 5)⟩, 
 ⟨(some 9), none, .nck (.t 7) (pu (.nilCheck (.tmp 7)) 0)⟩, 
 ⟨(some 10), none, .sh 0 (.t 9)⟩, 
 ⟨(some 11), none, .sh 7 (.t 10)⟩, 
 ⟨none, none, .st 2 (.t 11) (.t 8)⟩])
 (.seq (.drw [0, 1, 3, 7, 0, 16, 48, 112, 240, 0, 512, 1536, 3584, 7680, 0, 16384, 49152, 114688, 245760, 0, 0, 1048576, 0, 4194304, 12582912, 29360128, 0, 67108864, 268435455, 536870911] [⟨(some 12), none, .mv (.t 0)⟩, 
 ⟨(some 13), none, .nck (.t 12) (pu (.nilCheck (.tmp 12)) 0)⟩, 
 ⟨(some 14), none, .sh 9 (.t 13)⟩, 
 ⟨(some 15), none, .ld none (.t 14)⟩, 
 ⟨(some 16), none, .mv (.t 0)⟩, 
 ⟨(some 17), none, .nck (.t 16) (pu (.nilCheck (.tmp 16)) 0)⟩, 
 ⟨(some 18), none, .sh 0 (.t 17)⟩, 
 ⟨(some 19), none, .sh 0 (.t 18)⟩, 
 ⟨(some 20), none, .ld none (.t 19)⟩, 
 ⟨(some 21), none, .mv (.t 0)⟩, 
 ⟨(some 22), none, .nck (.t 21) (pu (.nilCheck (.tmp 21)) 0)⟩, 
 ⟨(some 23), none, .sh 0 (.t 22)⟩, 
 ⟨(some 24), none, .sh 1 (.t 23)⟩, 
 ⟨(some 25), none, .ld none (.t 24)⟩, 
 ⟨(some 26), none, .mv (.t 0)⟩, 
 ⟨(some 27), none, .nck (.t 26) (pu (.nilCheck (.tmp 26)) 0)⟩, 
 ⟨(some 28), none, .sh 0 (.t 27)⟩, 
 ⟨(some 29), none, .sh 5 (.t 28)⟩, 
 ⟨(some 30), none, .ld none (.t 29)⟩, 
 ⟨(some 31), none, .mv (.t 1)⟩, 
 ⟨(some 32), none, .sh 0 (.t 5)⟩, 
 ⟨(some 33), none, .ld none (.t 32)⟩, 
 ⟨(some 34), none, .mv (.t 0)⟩, 
 ⟨(some 35), none, .nck (.t 34) (pu (.nilCheck (.tmp 34)) 0)⟩, 
 ⟨(some 36), none, .sh 10 (.t 35)⟩, 
 ⟨(some 37), none, .ld none (.t 36)⟩, 
 ⟨(some 38), none, .ld (some 2) (.t 5)⟩, 
 ⟨(some 39), none, .bsl 2 1 true [(.sc (.int .i64 0)), (.sc (.int .i64 0))] [(0, 2, (.t 38))]⟩, 
 ⟨(some 40), none, .bld [(.sc (.string ⟨#[]⟩)), (.sc (.string ⟨#[]⟩)), (.sc (.int .i64 0)), (.sc (.int .i64 0)), (.sc (.int .i64 0)), (.sc (.int .i64 0)), (.sc (.string ⟨#[]⟩)), (.sc (.bool false)), (.sc (.int .i64 0)), (.sc (.slice none 0 0))] [(0, 1, (.t 15)), (1, 1, (.t 20)), (2, 1, (.t 25)), (3, 1, (.t 30)), (4, 1, (.t 31)), (5, 1, (.t 33)), (7, 1, (.t 37)), (9, 1, (.t 39))]⟩, 
 ⟨none, none, .st 10 (.t 6) (.t 40)⟩])
 .ret)))
def k27 : List Nat := [0, 1, 2, 5, 6]
theorem ic27 : factsI Tryd.prog 27 = some (41, [.cell 6 36], c27) := by kernel_rfl

-- chargenet/chargenetref34.digits (23 slots)
def c28 : IC :=
 (.seq (.reg [⟨(some 2), none, .mv (.k (.sc (.string ⟨#[]⟩)))⟩])
 (.seq (.reg [⟨(some 3), none, .mv (.k (.sc (.string ⟨#[]⟩)))⟩])
 (.seq (.block 0 (.loop (.seq (.seq (.reg [⟨(some 4), none, .mv (.t 0)⟩, 
  ⟨(some 5), none, .bin .gtr false (.t 4) (.k (.sc (.int .i64 9))) (pu (.binOp .gtr 3 (.tmp 4) (.const (.int .i64 9)) 3) 4)⟩])
  (.cond (.t 5) .skip
  (.exit 0)))
  (.block 1 (.seq (.reg [⟨(some 6), none, .mv (.t 0)⟩, 
  ⟨(some 7), none, .bin .rem false (.t 6) (.k (.sc (.int .i64 10))) (pu (.binOp .rem 3 (.tmp 6) (.const (.int .i64 10)) 3) 3)⟩, 
  ⟨(some 8), none, .bin .add false (.k (.sc (.int .i64 48))) (.t 7) (pu (.binOp .add 3 (.const (.int .i64 48)) (.tmp 7) 3) 3)⟩, 
  ⟨(some 9), none, .pur (pu (.convert 3 5 (.tmp 8)) 5)⟩, 
  ⟨(some 10), none, .bsl 1 1 false [(.sc (.int .u8 0))] [(0, 1, (.t 9))]⟩, 
  ⟨(some 11), none, .pur (pu (.convert 67 9 (.tmp 10)) 9)⟩, 
  ⟨(some 12), none, .mv (.t 3)⟩, 
  ⟨(some 13), none, .bin .add false (.t 11) (.t 12) (pu (.binOp .add 9 (.tmp 11) (.tmp 12) 9) 9)⟩, 
  ⟨(some 3), none, .mv (.t 13)⟩])
  (.reg [⟨(some 14), none, .mv (.t 0)⟩, 
  ⟨(some 15), none, .bin .quo false (.t 14) (.k (.sc (.int .i64 10))) (pu (.binOp .quo 3 (.tmp 14) (.const (.int .i64 10)) 3) 3)⟩, 
  ⟨(some 0), none, .mv (.t 15)⟩]))))))
 (.seq (.reg [⟨(some 16), none, .mv (.t 0)⟩, 
 ⟨(some 17), none, .bin .add false (.k (.sc (.int .i64 48))) (.t 16) (pu (.binOp .add 3 (.const (.int .i64 48)) (.tmp 16) 3) 3)⟩, 
 ⟨(some 18), none, .pur (pu (.convert 3 5 (.tmp 17)) 5)⟩, 
 ⟨(some 19), none, .bsl 1 1 false [(.sc (.int .u8 0))] [(0, 1, (.t 18))]⟩, 
 ⟨(some 20), none, .pur (pu (.convert 67 9 (.tmp 19)) 9)⟩, 
 ⟨(some 21), none, .mv (.t 3)⟩, 
 ⟨(some 22), none, .bin .add false (.t 20) (.t 21) (pu (.binOp .add 9 (.tmp 20) (.tmp 21) 9) 9)⟩, 
 ⟨(some 2), none, .mv (.t 22)⟩])
 .ret))))
def k28 : List Nat := [0, 2, 3, 5]
theorem ic28 : factsI Tryd.prog 28 = some (23, [.tmp 2], c28) := by kernel_rfl

-- chargenet/chargenetref21.Valid (57 slots)
def c29 : IC :=
 (.seq (.reg [⟨(some 1), none, .bx (.t 0)⟩, 
 ⟨(some 2), none, .mv (.k (.sc (.int .i64 0)))⟩])
 (.seq (.seq (.reg [⟨(some 3), none, .sh 0 (.t 1)⟩, 
 ⟨(some 4), none, .ld none (.t 3)⟩, 
 ⟨(some 5), none, .call 23 [(.t 4)]⟩, 
 ⟨(some 6), none, .un .not (.t 5) (pu (.unOp .not 4 (.tmp 5)) 4)⟩, 
 ⟨(some 7), none, .mv (.t 6)⟩, 
 ⟨(some 8), (some ((some 7), false)), .sh 1 (.t 1)⟩, 
 ⟨(some 9), (some ((some 7), false)), .ld none (.t 8)⟩, 
 ⟨(some 10), (some ((some 7), false)), .bin .neq false (.t 9) (.k (.sc (.string ⟨#[]⟩))) (pu (.binOp .neq 9 (.tmp 9) (.const (.string ⟨#[]⟩)) 9) 4)⟩, 
 ⟨(some 11), (some ((some 7), false)), .mv (.t 10)⟩, 
 ⟨(some 12), (some ((some 11), true)), .sh 1 (.t 1)⟩, 
 ⟨(some 13), (some ((some 11), true)), .ld none (.t 12)⟩, 
 ⟨(some 14), (some ((some 11), true)), .call 23 [(.t 13)]⟩, 
 ⟨(some 15), (some ((some 11), true)), .un .not (.t 14) (pu (.unOp .not 4 (.tmp 14)) 4)⟩, 
 ⟨(some 16), (some ((some 7), false)), .pick (.t 11) (.t 15) (.k (.sc (.bool false)))⟩, 
 ⟨(some 17), none, .pick (.t 7) (.k (.sc (.bool true))) (.t 16)⟩, 
 ⟨(some 18), none, .mv (.t 17)⟩, 
 ⟨(some 19), (some ((some 18), false)), .sh 2 (.t 1)⟩, 
 ⟨(some 20), (some ((some 18), false)), .ld none (.t 19)⟩, 
 ⟨(some 21), (some ((some 18), false)), .bin .neq false (.t 20) (.k (.sc (.string ⟨#[]⟩))) (pu (.binOp .neq 9 (.tmp 20) (.const (.string ⟨#[]⟩)) 9) 4)⟩, 
 ⟨(some 22), (some ((some 18), false)), .mv (.t 21)⟩, 
 ⟨(some 23), (some ((some 22), true)), .sh 2 (.t 1)⟩, 
 ⟨(some 24), (some ((some 22), true)), .ld none (.t 23)⟩, 
 ⟨(some 25), (some ((some 22), true)), .call 23 [(.t 24)]⟩, 
 ⟨(some 26), (some ((some 22), true)), .un .not (.t 25) (pu (.unOp .not 4 (.tmp 25)) 4)⟩, 
 ⟨(some 27), (some ((some 18), false)), .pick (.t 22) (.t 26) (.k (.sc (.bool false)))⟩, 
 ⟨(some 28), none, .pick (.t 18) (.k (.sc (.bool true))) (.t 27)⟩])
 (.cond (.t 28) (.seq (.reg [⟨(some 2), none, .mv (.k (.sc (.int .i64 4)))⟩])
  .ret)
 .skip))
 (.seq (.seq (.reg [⟨(some 29), none, .sh 3 (.t 1)⟩, 
 ⟨(some 30), none, .ld none (.t 29)⟩, 
 ⟨(some 31), none, .bin .lss false (.t 30) (.k (.sc (.int .i64 1))) (pu (.binOp .lss 3 (.tmp 30) (.const (.int .i64 1)) 3) 4)⟩, 
 ⟨(some 32), none, .mv (.t 31)⟩, 
 ⟨(some 33), (some ((some 32), false)), .sh 3 (.t 1)⟩, 
 ⟨(some 34), (some ((some 32), false)), .ld none (.t 33)⟩, 
 ⟨(some 35), (some ((some 32), false)), .bin .gtr false (.t 34) (.k (.sc (.int .i64 3))) (pu (.binOp .gtr 3 (.tmp 34) (.const (.int .i64 3)) 3) 4)⟩, 
 ⟨(some 36), none, .pick (.t 32) (.k (.sc (.bool true))) (.t 35)⟩, 
 ⟨(some 37), none, .mv (.t 36)⟩, 
 ⟨(some 38), (some ((some 37), false)), .sh 4 (.t 1)⟩, 
 ⟨(some 39), (some ((some 37), false)), .ld none (.t 38)⟩, 
 ⟨(some 40), (some ((some 37), false)), .bin .lss false (.t 39) (.k (.sc (.int .i64 1))) (pu (.binOp .lss 3 (.tmp 39) (.const (.int .i64 1)) 3) 4)⟩, 
 ⟨(some 41), none, .pick (.t 37) (.k (.sc (.bool true))) (.t 40)⟩, 
 ⟨(some 42), none, .mv (.t 41)⟩, 
 ⟨(some 43), (some ((some 42), false)), .sh 4 (.t 1)⟩, 
 ⟨(some 44), (some ((some 42), false)), .ld none (.t 43)⟩, 
 ⟨(some 45), (some ((some 42), false)), .bin .gtr false (.t 44) (.k (.sc (.int .i64 3))) (pu (.binOp .gtr 3 (.tmp 44) (.const (.int .i64 3)) 3) 4)⟩, 
 ⟨(some 46), none, .pick (.t 42) (.k (.sc (.bool true))) (.t 45)⟩, 
 ⟨(some 47), none, .mv (.t 46)⟩, 
 ⟨(some 48), (some ((some 47), false)), .sh 5 (.t 1)⟩, 
 ⟨(some 49), (some ((some 47), false)), .ld none (.t 48)⟩, 
 ⟨(some 50), (some ((some 47), false)), .bin .lss false (.t 49) (.k (.sc (.int .i64 (-1)))) (pu (.binOp .lss 3 (.tmp 49) (.const (.int .i64 (-1))) 3) 4)⟩, 
 ⟨(some 51), none, .pick (.t 47) (.k (.sc (.bool true))) (.t 50)⟩, 
 ⟨(some 52), none, .mv (.t 51)⟩, 
 ⟨(some 53), (some ((some 52), false)), .sh 5 (.t 1)⟩, 
 ⟨(some 54), (some ((some 52), false)), .ld none (.t 53)⟩, 
 ⟨(some 55), (some ((some 52), false)), .bin .gtr false (.t 54) (.k (.sc (.int .i64 268435456))) (pu (.binOp .gtr 3 (.tmp 54) (.const (.int .i64 268435456)) 3) 4)⟩, 
 ⟨(some 56), none, .pick (.t 52) (.k (.sc (.bool true))) (.t 55)⟩])
 (.cond (.t 56) (.seq (.reg [⟨(some 2), none, .mv (.k (.sc (.int .i64 2)))⟩])
  .ret)
 .skip))
 (.seq (.reg [⟨(some 2), none, .mv (.k (.sc (.int .i64 0)))⟩])
 .ret))))
def k29 : List Nat := [0, 1, 2, 28, 56]
theorem ic29 : factsI Tryd.prog 29 = some (57, [.tmp 2], c29) := by kernel_rfl

-- chargenet/chargenetref30.Same (71 slots)
def c30 : IC :=
 (.seq (.reg [⟨(some 2), none, .bx (.t 0)⟩, 
 ⟨(some 3), none, .bx (.t 1)⟩, 
 ⟨(some 4), none, .mv (.k (.sc (.bool false)))⟩])
 (.seq (.seq (.reg [⟨(some 5), none, .sh 0 (.t 2)⟩, 
 ⟨(some 6), none, .ld none (.t 5)⟩, 
 ⟨(some 7), none, .sh 0 (.t 3)⟩, 
 ⟨(some 8), none, .ld none (.t 7)⟩, 
 ⟨(some 9), none, .bin .neq false (.t 6) (.t 8) (pu (.binOp .neq 9 (.tmp 6) (.tmp 8) 9) 4)⟩, 
 ⟨(some 10), none, .mv (.t 9)⟩, 
 ⟨(some 11), (some ((some 10), false)), .sh 1 (.t 2)⟩, 
 ⟨(some 12), (some ((some 10), false)), .ld none (.t 11)⟩, 
 ⟨(some 13), (some ((some 10), false)), .sh 1 (.t 3)⟩, 
 ⟨(some 14), (some ((some 10), false)), .ld none (.t 13)⟩, 
 ⟨(some 15), (some ((some 10), false)), .bin .neq false (.t 12) (.t 14) (pu (.binOp .neq 9 (.tmp 12) (.tmp 14) 9) 4)⟩, 
 ⟨(some 16), none, .pick (.t 10) (.k (.sc (.bool true))) (.t 15)⟩, 
 ⟨(some 17), none, .mv (.t 16)⟩, 
 ⟨(some 18), (some ((some 17), false)), .sh 2 (.t 2)⟩, 
 ⟨(some 19), (some ((some 17), false)), .ld none (.t 18)⟩, 
 ⟨(some 20), (some ((some 17), false)), .sh 2 (.t 3)⟩, 
 ⟨(some 21), (some ((some 17), false)), .ld none (.t 20)⟩, 
 ⟨(some 22), (some ((some 17), false)), .bin .neq false (.t 19) (.t 21) (pu (.binOp .neq 3 (.tmp 19) (.tmp 21) 3) 4)⟩, 
 ⟨(some 23), none, .pick (.t 17) (.k (.sc (.bool true))) (.t 22)⟩, 
 ⟨(some 24), none, .mv (.t 23)⟩, 
 ⟨(some 25), (some ((some 24), false)), .sh 3 (.t 2)⟩, 
 ⟨(some 26), (some ((some 24), false)), .ld none (.t 25)⟩, 
 ⟨(some 27), (some ((some 24), false)), .sh 3 (.t 3)⟩, 
 ⟨(some 28), (some ((some 24), false)), .ld none (.t 27)⟩, 
 ⟨(some 29), (some ((some 24), false)), .bin .neq false (.t 26) (.t 28) (pu (.binOp .neq 3 (.tmp 26) (.tmp 28) 3) 4)⟩, 
 ⟨(some 30), none, .pick (.t 24) (.k (.sc (.bool true))) (.t 29)⟩, 
 ⟨(some 31), none, .mv (.t 30)⟩, 
 ⟨(some 32), (some ((some 31), false)), .sh 4 (.t 2)⟩, 
 ⟨(some 33), (some ((some 31), false)), .ld none (.t 32)⟩, 
 ⟨(some 34), (some ((some 31), false)), .sh 4 (.t 3)⟩, 
 ⟨(some 35), (some ((some 31), false)), .ld none (.t 34)⟩, 
 ⟨(some 36), (some ((some 31), false)), .bin .neq false (.t 33) (.t 35) (pu (.binOp .neq 3 (.tmp 33) (.tmp 35) 3) 4)⟩, 
 ⟨(some 37), none, .pick (.t 31) (.k (.sc (.bool true))) (.t 36)⟩, 
 ⟨(some 38), none, .mv (.t 37)⟩, 
 ⟨(some 39), (some ((some 38), false)), .sh 5 (.t 2)⟩, 
 ⟨(some 40), (some ((some 38), false)), .ld none (.t 39)⟩, 
 ⟨(some 41), (some ((some 38), false)), .sh 5 (.t 3)⟩, 
 ⟨(some 42), (some ((some 38), false)), .ld none (.t 41)⟩, 
 ⟨(some 43), (some ((some 38), false)), .bin .neq false (.t 40) (.t 42) (pu (.binOp .neq 3 (.tmp 40) (.tmp 42) 3) 4)⟩, 
 ⟨(some 44), none, .pick (.t 38) (.k (.sc (.bool true))) (.t 43)⟩])
 (.cond (.t 44) (.seq (.reg [⟨(some 4), none, .mv (.k (.sc (.bool false)))⟩])
  .ret)
 .skip))
 (.seq (.reg [⟨(some 45), none, .sh 6 (.t 2)⟩, 
 ⟨(some 46), none, .ld none (.t 45)⟩, 
 ⟨(some 47), none, .sh 6 (.t 3)⟩, 
 ⟨(some 48), none, .ld none (.t 47)⟩, 
 ⟨(some 49), none, .bin .eql false (.t 46) (.t 48) (pu (.binOp .eql 9 (.tmp 46) (.tmp 48) 9) 4)⟩, 
 ⟨(some 50), none, .mv (.t 49)⟩, 
 ⟨(some 51), (some ((some 50), true)), .sh 7 (.t 2)⟩, 
 ⟨(some 52), (some ((some 50), true)), .ld none (.t 51)⟩, 
 ⟨(some 53), (some ((some 50), true)), .sh 7 (.t 3)⟩, 
 ⟨(some 54), (some ((some 50), true)), .ld none (.t 53)⟩, 
 ⟨(some 55), (some ((some 50), true)), .bin .eql true (.t 52) (.t 54) (pu (.binOp .eql 4 (.tmp 52) (.tmp 54) 4) 4)⟩, 
 ⟨(some 56), none, .pick (.t 50) (.t 55) (.k (.sc (.bool false)))⟩, 
 ⟨(some 57), none, .mv (.t 56)⟩, 
 ⟨(some 58), (some ((some 57), true)), .sh 8 (.t 2)⟩, 
 ⟨(some 59), (some ((some 57), true)), .ld none (.t 58)⟩, 
 ⟨(some 60), (some ((some 57), true)), .sh 8 (.t 3)⟩, 
 ⟨(some 61), (some ((some 57), true)), .ld none (.t 60)⟩, 
 ⟨(some 62), (some ((some 57), true)), .bin .eql false (.t 59) (.t 61) (pu (.binOp .eql 3 (.tmp 59) (.tmp 61) 3) 4)⟩, 
 ⟨(some 63), none, .pick (.t 57) (.t 62) (.k (.sc (.bool false)))⟩, 
 ⟨(some 64), none, .mv (.t 63)⟩, 
 ⟨(some 65), (some ((some 64), true)), .sh 9 (.t 2)⟩, 
 ⟨(some 66), (some ((some 64), true)), .ld none (.t 65)⟩, 
 ⟨(some 67), (some ((some 64), true)), .sh 9 (.t 3)⟩, 
 ⟨(some 68), (some ((some 64), true)), .ld none (.t 67)⟩, 
 ⟨(some 69), (some ((some 64), true)), .call 39 [(.t 66), (.t 68)]⟩, 
 ⟨(some 70), none, .pick (.t 64) (.t 69) (.k (.sc (.bool false)))⟩, 
 ⟨(some 4), none, .mv (.t 70)⟩])
 .ret)))
def k30 : List Nat := [0, 1, 2, 3, 4, 44]
theorem ic30 : factsI Tryd.prog 30 = some (71, [.tmp 4], c30) := by kernel_rfl

-- chargenet/chargenetref30.in (15 slots)
def c31 : IC :=
 (.seq (.reg [⟨(some 6), none, .mv (.k (.sc (.bool false)))⟩])
 (.seq (.reg [⟨(some 7), none, .mv (.t 0)⟩, 
 ⟨(some 8), none, .mv (.t 1)⟩, 
 ⟨(some 9), none, .bin .geq false (.t 7) (.t 8) (pu (.binOp .geq 3 (.tmp 7) (.tmp 8) 3) 4)⟩, 
 ⟨(some 10), none, .mv (.t 9)⟩, 
 ⟨(some 11), (some ((some 10), true)), .mv (.t 0)⟩, 
 ⟨(some 12), (some ((some 10), true)), .mv (.t 2)⟩, 
 ⟨(some 13), (some ((some 10), true)), .bin .leq false (.t 11) (.t 12) (pu (.binOp .leq 3 (.tmp 11) (.tmp 12) 3) 4)⟩, 
 ⟨(some 14), none, .pick (.t 10) (.t 13) (.k (.sc (.bool false)))⟩, 
 ⟨(some 6), none, .mv (.t 14)⟩])
 .ret))
def k31 : List Nat := [0, 1, 2, 6]
theorem ic31 : factsI Tryd.prog 31 = some (15, [.tmp 6], c31) := by kernel_rfl

-- chargenet/chargenetref02.Right (9 slots)
def c32 : IC :=
 (.seq (.reg [⟨(some 2), none, .mv (.k (.sc (.bool false)))⟩])
 (.seq (.reg [⟨(some 3), none, .mv (.t 0)⟩, 
 ⟨(some 4), none, .bin .geq false (.t 3) (.k (.sc (.int .i64 0))) (pu (.binOp .geq 3 (.tmp 3) (.const (.int .i64 0)) 3) 4)⟩, 
 ⟨(some 5), none, .mv (.t 4)⟩, 
 ⟨(some 6), (some ((some 5), true)), .mv (.t 0)⟩, 
 ⟨(some 7), (some ((some 5), true)), .bin .leq false (.t 6) (.k (.sc (.int .i64 268435456))) (pu (.binOp .leq 3 (.tmp 6) (.const (.int .i64 268435456)) 3) 4)⟩, 
 ⟨(some 8), none, .pick (.t 5) (.t 7) (.k (.sc (.bool false)))⟩, 
 ⟨(some 2), none, .mv (.t 8)⟩])
 .ret))
def k32 : List Nat := [0, 2]
theorem ic32 : factsI Tryd.prog 32 = some (9, [.tmp 2], c32) := by kernel_rfl

-- chargenet/chargenetref30.readings (56 slots)
def c33 : IC :=
 (.seq (.reg [⟨(some 1), none, .bx (.t 0)⟩, 
 ⟨(some 2), none, .mv (.k (.sc (.int .i64 0)))⟩])
 (.seq (.seq (.reg [⟨(some 4), none, .sh 9 (.t 1)⟩, 
 ⟨(some 5), none, .ld none (.t 4)⟩, 
 ⟨(some 6), none, .len (.t 5) (pu (.call ⟨.builtin .len, #[(.tmp 5)], #[34]⟩) 3)⟩, 
 ⟨(some 7), none, .bin .gtr false (.t 6) (.k (.sc (.int .i64 16))) (pu (.binOp .gtr 3 (.tmp 6) (.const (.int .i64 16)) 3) 4)⟩])
 (.cond (.t 7) (.seq (.reg [⟨(some 2), none, .mv (.k (.sc (.int .i64 3)))⟩])
  .ret)
 .skip))
 (.seq (.seq (.reg [⟨(some 8), none, .sh 9 (.t 1)⟩, 
 ⟨(some 9), none, .ld none (.t 8)⟩, 
 ⟨(some 10), none, .len (.t 9) (pu (.call ⟨.builtin .len, #[(.tmp 9)], #[34]⟩) 3)⟩, 
 ⟨(some 11), none, .bin .eql false (.t 10) (.k (.sc (.int .i64 0))) (pu (.binOp .eql 3 (.tmp 10) (.const (.int .i64 0)) 3) 4)⟩])
 (.cond (.t 11) (.seq (.reg [⟨(some 2), none, .mv (.k (.sc (.int .i64 1)))⟩])
  .ret)
 .skip))
 (.seq (.seq (.reg [⟨(some 3), none, .mv (.k (.sc (.int .i64 0)))⟩])
 (.block 0 (.loop (.seq (.seq (.reg [⟨(some 12), none, .mv (.t 3)⟩, 
  ⟨(some 13), none, .sh 9 (.t 1)⟩, 
  ⟨(some 14), none, .ld none (.t 13)⟩, 
  ⟨(some 15), none, .len (.t 14) (pu (.call ⟨.builtin .len, #[(.tmp 14)], #[34]⟩) 3)⟩, 
  ⟨(some 16), none, .bin .lss false (.t 12) (.t 15) (pu (.binOp .lss 3 (.tmp 12) (.tmp 15) 3) 4)⟩])
  (.cond (.t 16) .skip
  (.exit 0)))
  (.seq (.block 1 (.seq (.seq (.reg [⟨(some 19), none, .sh 9 (.t 1)⟩, 
  ⟨(some 20), none, .ld none (.t 19)⟩, 
  ⟨(some 21), none, .mv (.t 3)⟩, 
  ⟨(some 22), none, .ixs 2 (.t 20) (.t 21)⟩, 
  ⟨(some 23), none, .ld (some 2) (.t 22)⟩, 
  ⟨(some 24), none, .call 40 [(.t 23)]⟩, 
  ⟨(some 25), none, .un .not (.t 24) (pu (.unOp .not 4 (.tmp 24)) 4)⟩])
  (.cond (.t 25) (.seq (.reg [⟨(some 2), none, .mv (.k (.sc (.int .i64 2)))⟩])
   .ret)
  .skip))
  (.seq (.drw [0, 1, 3, 7, 15, 7, 63, 127, 255, 7, 519, 7, 2055, 7687, 15879, 32263, 65535, 131071] [⟨(some 26), none, .mv (.t 3)⟩, 
  ⟨(some 27), none, .bin .gtr false (.t 26) (.k (.sc (.int .i64 0))) (pu (.binOp .gtr 3 (.tmp 26) (.const (.int .i64 0)) 3) 4)⟩, 
  ⟨(some 28), none, .mv (.t 27)⟩, 
  ⟨(some 29), (some ((some 28), true)), .sh 9 (.t 1)⟩, 
  ⟨(some 30), (some ((some 28), true)), .ld none (.t 29)⟩, 
  ⟨(some 31), (some ((some 28), true)), .mv (.t 3)⟩, 
  ⟨(some 32), (some ((some 28), true)), .ixs 2 (.t 30) (.t 31)⟩, 
  ⟨(some 33), (some ((some 28), true)), .sh 0 (.t 32)⟩, 
  ⟨(some 34), (some ((some 28), true)), .ld none (.t 33)⟩, 
  ⟨(some 35), (some ((some 28), true)), .sh 9 (.t 1)⟩, 
  ⟨(some 36), (some ((some 28), true)), .ld none (.t 35)⟩, 
  ⟨(some 37), (some ((some 28), true)), .mv (.t 3)⟩, 
  ⟨(some 38), (some ((some 28), true)), .bin .sub false (.t 37) (.k (.sc (.int .i64 1))) (pu (.binOp .sub 3 (.tmp 37) (.const (.int .i64 1)) 3) 3)⟩, 
  ⟨(some 39), (some ((some 28), true)), .ixs 2 (.t 36) (.t 38)⟩, 
  ⟨(some 40), (some ((some 28), true)), .sh 0 (.t 39)⟩, 
  ⟨(some 41), (some ((some 28), true)), .ld none (.t 40)⟩, 
  ⟨(some 42), (some ((some 28), true)), .bin .leq false (.t 34) (.t 41) (pu (.binOp .leq 3 (.tmp 34) (.tmp 41) 3) 4)⟩, 
  ⟨(some 43), none, .pick (.t 28) (.t 42) (.k (.sc (.bool false)))⟩])
  (.cond (.t 43) (.seq (.reg [⟨(some 2), none, .mv (.k (.sc (.int .i64 1)))⟩])
   .ret)
  .skip))))
  (.reg [⟨(some 17), none, .mv (.t 3)⟩, 
  ⟨(some 18), none, .bin .add false (.t 17) (.k (.sc (.int .i64 1))) (pu (.binOp .add 3 (.tmp 17) (.const (.int .i64 1)) 3) 3)⟩, 
  ⟨(some 3), none, .mv (.t 18)⟩]))))))
 (.seq (.seq (.drw [0, 1, 0, 4, 12, 28, 63, 127, 255, 0, 512, 2047] [⟨(some 44), none, .sh 9 (.t 1)⟩, 
 ⟨(some 45), none, .ld none (.t 44)⟩, 
 ⟨(some 46), none, .sh 9 (.t 1)⟩, 
 ⟨(some 47), none, .ld none (.t 46)⟩, 
 ⟨(some 48), none, .len (.t 47) (pu (.call ⟨.builtin .len, #[(.tmp 47)], #[34]⟩) 3)⟩, 
 ⟨(some 49), none, .bin .sub false (.t 48) (.k (.sc (.int .i64 1))) (pu (.binOp .sub 3 (.tmp 48) (.const (.int .i64 1)) 3) 3)⟩, 
 ⟨(some 50), none, .ixs 2 (.t 45) (.t 49)⟩, 
 ⟨(some 51), none, .sh 0 (.t 50)⟩, 
 ⟨(some 52), none, .ld none (.t 51)⟩, 
 ⟨(some 53), none, .sh 5 (.t 1)⟩, 
 ⟨(some 54), none, .ld none (.t 53)⟩, 
 ⟨(some 55), none, .bin .neq false (.t 52) (.t 54) (pu (.binOp .neq 3 (.tmp 52) (.tmp 54) 3) 4)⟩])
 (.cond (.t 55) (.seq (.reg [⟨(some 2), none, .mv (.k (.sc (.int .i64 1)))⟩])
  .ret)
 .skip))
 (.seq (.reg [⟨(some 2), none, .mv (.k (.sc (.int .i64 0)))⟩])
 .ret))))))
def k33 : List Nat := [0, 1, 2, 3, 7, 11, 16, 25, 43, 55]
theorem ic33 : factsI Tryd.prog 33 = some (56, [.tmp 2], c33) := by kernel_rfl

-- chargenet/txn.continued (22 slots)
def c34 : IC :=
 (.seq (.reg [⟨(some 3), none, .bx (.t 0)⟩, 
 ⟨(some 5), none, .bx (.t 2)⟩, 
 ⟨(some 6), none, .mv (.k (.sc (.int .i64 0)))⟩])
 (.seq (.seq (.reg [⟨(some 8), none, .ld (some 9) (.t 3)⟩, 
 ⟨(some 9), none, .call 10 [(.t 8)]⟩, 
 ⟨(some 7), none, .mv (.t 9)⟩])
 (.seq (.reg [⟨(some 10), none, .mv (.t 7)⟩, 
 ⟨(some 11), none, .bin .neq false (.t 10) (.k (.sc (.int .i64 0))) (pu (.binOp .neq 28 (.tmp 10) (.const (.int .i64 0)) 28) 4)⟩])
 (.cond (.t 11) (.seq (.reg [⟨(some 12), none, .mv (.t 7)⟩, 
  ⟨(some 6), none, .mv (.t 12)⟩])
  .ret)
 .skip)))
 (.seq (.seq (.reg [⟨(some 13), none, .mv (.t 1)⟩, 
 ⟨(some 14), none, .call 21 [(.t 13)]⟩, 
 ⟨(some 15), none, .un .not (.t 14) (pu (.unOp .not 4 (.tmp 14)) 4)⟩])
 (.cond (.t 15) (.seq (.reg [⟨(some 6), none, .mv (.k (.sc (.int .i64 4)))⟩])
  .ret)
 .skip))
 (.seq (.seq (.reg [⟨(some 16), none, .sh 5 (.t 3)⟩, 
 ⟨(some 17), none, .ld none (.t 16)⟩, 
 ⟨(some 18), none, .bin .eql false (.t 17) (.k (.sc (.int .i64 2147483647))) (pu (.binOp .eql 3 (.tmp 17) (.const (.int .i64 2147483647)) 3) 4)⟩])
 (.cond (.t 18) (.seq (.reg [⟨(some 6), none, .mv (.k (.sc (.int .i64 3)))⟩])
  .ret)
 .skip))
 (.seq (.seq (.reg [⟨(some 19), none, .ld (some 2) (.t 5)⟩, 
 ⟨(some 20), none, .call 22 [(.t 19)]⟩, 
 ⟨(some 21), none, .un .not (.t 20) (pu (.unOp .not 4 (.tmp 20)) 4)⟩])
 (.cond (.t 21) (.seq (.reg [⟨(some 6), none, .mv (.k (.sc (.int .i64 2)))⟩])
  .ret)
 .skip))
 (.seq (.reg [⟨(some 6), none, .mv (.k (.sc (.int .i64 0)))⟩])
 .ret))))))
def k34 : List Nat := [0, 1, 2, 3, 5, 6, 7, 11, 15, 18, 21]
theorem ic34 : factsI Tryd.prog 34 = some (22, [.tmp 6], c34) := by kernel_rfl

-- chargenet/chargenetref34.next (43 slots)
def c35 : IC :=
 (.seq (.reg [⟨(some 4), none, .bx (.t 0)⟩, 
 ⟨(some 6), none, .bx (.t 2)⟩, 
 ⟨(some 8), none, .al (.agg [(.sc (.string ⟨#[]⟩)), (.sc (.string ⟨#[]⟩)), (.sc (.int .i64 0)), (.sc (.int .i64 0)), (.sc (.int .i64 0)), (.sc (.int .i64 0)), (.sc (.string ⟨#[]⟩)), (.sc (.bool false)), (.sc (.int .i64 0)), (.sc (.slice none 0 0))]) 10⟩, 
 ⟨(some 9), none, .mv (.k (.sc (.int .i64 0)))⟩])
 (.seq (.seq (.reg [⟨(some 11), none, .ld (some 9) (.t 4)⟩, 
 ⟨(some 12), none, .call 11 [(.t 11)]⟩, 
 ⟨(some 10), none, .mv (.t 12)⟩])
 (.seq (.reg [⟨(some 13), none, .mv (.t 10)⟩, 
 ⟨(some 14), none, .bin .neq false (.t 13) (.k (.sc (.int .i64 0))) (pu (.binOp .neq 28 (.tmp 13) (.const (.int .i64 0)) 28) 4)⟩])
 (.cond (.t 14) (.seq (.reg [⟨(some 15), none, .bld [(.sc (.string ⟨#[]⟩)), (.sc (.string ⟨#[]⟩)), (.sc (.int .i64 0)), (.sc (.int .i64 0)), (.sc (.int .i64 0)), (.sc (.int .i64 0)), (.sc (.string ⟨#[]⟩)), (.sc (.bool false)), (.sc (.int .i64 0)), (.sc (.slice none 0 0))] []⟩, 
  ⟨(some 16), none, .mv (.t 10)⟩, 
  ⟨none, none, .st 10 (.t 8) (.t 15)⟩, 
  ⟨(some 9), none, .mv (.t 16)⟩])
  .ret)
 .skip)))
 (.seq (.seq (.reg [⟨(some 17), none, .mv (.t 1)⟩, 
 ⟨(some 18), none, .call 23 [(.t 17)]⟩, 
 ⟨(some 19), none, .un .not (.t 18) (pu (.unOp .not 4 (.tmp 18)) 4)⟩])
 (.cond (.t 19) (.seq (.reg [⟨(some 20), none, .bld [(.sc (.string ⟨#[]⟩)), (.sc (.string ⟨#[]⟩)), (.sc (.int .i64 0)), (.sc (.int .i64 0)), (.sc (.int .i64 0)), (.sc (.int .i64 0)), (.sc (.string ⟨#[]⟩)), (.sc (.bool false)), (.sc (.int .i64 0)), (.sc (.slice none 0 0))] []⟩, 
  ⟨none, none, .st 10 (.t 8) (.t 20)⟩, 
  ⟨(some 9), none, .mv (.k (.sc (.int .i64 4)))⟩])
  .ret)
 .skip))
 (.seq (.seq (.reg [⟨(some 21), none, .sh 5 (.t 4)⟩, 
 ⟨(some 22), none, .ld none (.t 21)⟩, 
 ⟨(some 23), none, .bin .eql false (.t 22) (.k (.sc (.int .i64 2147483647))) (pu (.binOp .eql 3 (.tmp 22) (.const (.int .i64 2147483647)) 3) 4)⟩])
 (.cond (.t 23) (.seq (.reg [⟨(some 24), none, .bld [(.sc (.string ⟨#[]⟩)), (.sc (.string ⟨#[]⟩)), (.sc (.int .i64 0)), (.sc (.int .i64 0)), (.sc (.int .i64 0)), (.sc (.int .i64 0)), (.sc (.string ⟨#[]⟩)), (.sc (.bool false)), (.sc (.int .i64 0)), (.sc (.slice none 0 0))] []⟩, 
  ⟨none, none, .st 10 (.t 8) (.t 24)⟩, 
  ⟨(some 9), none, .mv (.k (.sc (.int .i64 3)))⟩])
  .ret)
 .skip))
 (.seq (.seq (.reg [⟨(some 25), none, .ld (some 2) (.t 6)⟩, 
 ⟨(some 26), none, .call 24 [(.t 25)]⟩, 
 ⟨(some 27), none, .un .not (.t 26) (pu (.unOp .not 4 (.tmp 26)) 4)⟩])
 (.cond (.t 27) (.seq (.reg [⟨(some 28), none, .bld [(.sc (.string ⟨#[]⟩)), (.sc (.string ⟨#[]⟩)), (.sc (.int .i64 0)), (.sc (.int .i64 0)), (.sc (.int .i64 0)), (.sc (.int .i64 0)), (.sc (.string ⟨#[]⟩)), (.sc (.bool false)), (.sc (.int .i64 0)), (.sc (.slice none 0 0))] []⟩, 
  ⟨none, none, .st 10 (.t 8) (.t 28)⟩, 
  ⟨(some 9), none, .mv (.k (.sc (.int .i64 2)))⟩])
  .ret)
 .skip))
 (.seq (.reg [⟨(some 29), none, .mv (.t 1)⟩, 
 ⟨(some 30), none, .sh 0 (.t 4)⟩, 
 ⟨(some 31), none, .ld none (.t 30)⟩, 
 ⟨(some 32), none, .sh 1 (.t 4)⟩, 
 ⟨(some 33), none, .ld none (.t 32)⟩, 
 ⟨(some 34), none, .sh 5 (.t 4)⟩, 
 ⟨(some 35), none, .ld none (.t 34)⟩, 
 ⟨(some 36), none, .bin .add false (.t 35) (.k (.sc (.int .i64 1))) (pu (.binOp .add 3 (.tmp 35) (.const (.int .i64 1)) 3) 3)⟩, 
 ⟨(some 37), none, .sh 0 (.t 6)⟩, 
 ⟨(some 38), none, .ld none (.t 37)⟩, 
 ⟨(some 39), none, .mv (.t 3)⟩, 
 ⟨(some 40), none, .ld (some 2) (.t 6)⟩, 
 ⟨(some 41), none, .bsl 2 1 true [(.sc (.int .i64 0)), (.sc (.int .i64 0))] [(0, 2, (.t 40))]⟩, 
 ⟨(some 42), none, .bld [(.sc (.string ⟨#[]⟩)), (.sc (.string ⟨#[]⟩)), (.sc (.int .i64 0)), (.sc (.int .i64 0)), (.sc (.int .i64 0)), (.sc (.int .i64 0)), (.sc (.string ⟨#[]⟩)), (.sc (.bool false)), (.sc (.int .i64 0)), (.sc (.slice none 0 0))] [(0, 1, (.t 29)), (1, 1, (.t 31)), (2, 1, (.t 33)), (3, 1, (.t 36)), (5, 1, (.t 38)), (7, 1, (.t 39)), (9, 1, (.t 41))]⟩, 
 ⟨none, none, .st 10 (.t 8) (.t 42)⟩, 
 ⟨(some 9), none, .mv (.k (.sc (.int .i64 0)))⟩])
 .ret))))))
def k35 : List Nat := [0, 1, 2, 3, 4, 6, 8, 9, 10, 14, 19, 23, 27]
theorem ic35 : factsI Tryd.prog 35 = some (43, [.cell 8 36, .tmp 9], c35) := by kernel_rfl

-- chargenet/ident.value (35 slots)
def c36 : IC :=
 (.seq (.reg [⟨(some 2), none, .mv (.k (.sc (.int .i64 0)))⟩])
 (.seq (.block 0 (.seq (.reg [⟨(some 4), none, .mv (.t 0)⟩, 
 ⟨(some 5), none, .bin .geq false (.t 4) (.k (.sc (.int .i32 48))) (pu (.binOp .geq 21 (.tmp 4) (.const (.int .i32 48)) 21) 4)⟩, 
 ⟨(some 6), none, .mv (.t 5)⟩, 
 ⟨(some 7), (some ((some 6), true)), .mv (.t 0)⟩, 
 ⟨(some 8), (some ((some 6), true)), .bin .leq false (.t 7) (.k (.sc (.int .i32 57))) (pu (.binOp .leq 21 (.tmp 7) (.const (.int .i32 57)) 21) 4)⟩, 
 ⟨(some 9), none, .pick (.t 6) (.t 8) (.k (.sc (.bool false)))⟩, 
 ⟨(some 3), none, .mv (.t 9)⟩])
 (.cond (.t 3) (.seq (.reg [⟨(some 10), none, .mv (.t 0)⟩, 
  ⟨(some 11), none, .bin .sub false (.t 10) (.k (.sc (.int .i32 48))) (pu (.binOp .sub 21 (.tmp 10) (.const (.int .i32 48)) 21) 21)⟩, 
  ⟨(some 12), none, .pur (pu (.convert 21 3 (.tmp 11)) 3)⟩, 
  ⟨(some 2), none, .mv (.t 12)⟩])
  .ret)
 (.seq (.reg [⟨(some 14), none, .mv (.t 0)⟩, 
  ⟨(some 15), none, .bin .geq false (.t 14) (.k (.sc (.int .i32 65))) (pu (.binOp .geq 21 (.tmp 14) (.const (.int .i32 65)) 21) 4)⟩, 
  ⟨(some 16), none, .mv (.t 15)⟩, 
  ⟨(some 17), (some ((some 16), true)), .mv (.t 0)⟩, 
  ⟨(some 18), (some ((some 16), true)), .bin .leq false (.t 17) (.k (.sc (.int .i32 90))) (pu (.binOp .leq 21 (.tmp 17) (.const (.int .i32 90)) 21) 4)⟩, 
  ⟨(some 19), none, .pick (.t 16) (.t 18) (.k (.sc (.bool false)))⟩, 
  ⟨(some 13), none, .mv (.t 19)⟩])
  (.cond (.t 13) (.seq (.reg [⟨(some 20), none, .mv (.t 0)⟩, 
   ⟨(some 21), none, .bin .sub false (.t 20) (.k (.sc (.int .i32 65))) (pu (.binOp .sub 21 (.tmp 20) (.const (.int .i32 65)) 21) 21)⟩, 
   ⟨(some 22), none, .pur (pu (.convert 21 3 (.tmp 21)) 3)⟩, 
   ⟨(some 23), none, .bin .add false (.t 22) (.k (.sc (.int .i64 10))) (pu (.binOp .add 3 (.tmp 22) (.const (.int .i64 10)) 3) 3)⟩, 
   ⟨(some 2), none, .mv (.t 23)⟩])
   .ret)
  (.seq (.reg [⟨(some 25), none, .mv (.t 0)⟩, 
   ⟨(some 26), none, .bin .geq false (.t 25) (.k (.sc (.int .i32 97))) (pu (.binOp .geq 21 (.tmp 25) (.const (.int .i32 97)) 21) 4)⟩, 
   ⟨(some 27), none, .mv (.t 26)⟩, 
   ⟨(some 28), (some ((some 27), true)), .mv (.t 0)⟩, 
   ⟨(some 29), (some ((some 27), true)), .bin .leq false (.t 28) (.k (.sc (.int .i32 122))) (pu (.binOp .leq 21 (.tmp 28) (.const (.int .i32 122)) 21) 4)⟩, 
   ⟨(some 30), none, .pick (.t 27) (.t 29) (.k (.sc (.bool false)))⟩, 
   ⟨(some 24), none, .mv (.t 30)⟩])
   (.cond (.t 24) (.seq (.reg [⟨(some 31), none, .mv (.t 0)⟩, 
    ⟨(some 32), none, .bin .sub false (.t 31) (.k (.sc (.int .i32 97))) (pu (.binOp .sub 21 (.tmp 31) (.const (.int .i32 97)) 21) 21)⟩, 
    ⟨(some 33), none, .pur (pu (.convert 21 3 (.tmp 32)) 3)⟩, 
    ⟨(some 34), none, .bin .add false (.t 33) (.k (.sc (.int .i64 10))) (pu (.binOp .add 3 (.tmp 33) (.const (.int .i64 10)) 3) 3)⟩, 
    ⟨(some 2), none, .mv (.t 34)⟩])
    .ret)
   .skip)))))))
 (.seq (.reg [⟨(some 2), none, .mv (.k (.sc (.int .i64 (-1))))⟩])
 .ret)))
def k36 : List Nat := [0, 2, 3, 13, 24]
theorem ic36 : factsI Tryd.prog 36 = some (35, [.tmp 2], c36) := by kernel_rfl

-- chargenet/chargenetref01.Value (14 slots)
def c37 : IC :=
 (.seq (.reg [⟨(some 2), none, .mv (.k (.sc (.int .i64 0)))⟩])
 (.seq (.seq (.reg [⟨(some 3), none, .mv (.k (.sc (.int .i64 0)))⟩])
 (.block 0 (.loop (.seq (.seq (.reg [⟨(some 4), none, .mv (.t 3)⟩, 
  ⟨(some 5), none, .bin .lss false (.t 4) (.k (.sc (.int .i64 36))) (pu (.binOp .lss 3 (.tmp 4) (.const (.int .i64 36)) 3) 4)⟩])
  (.cond (.t 5) .skip
  (.exit 0)))
  (.seq (.block 1 (.seq (.drw [0, 1, 0, 4, 15] [⟨(some 8), none, .mv (.t 3)⟩, 
  ⟨(some 9), none, .pur (pu (.index 9 (.const (.string ⟨#[48, 49, 50, 51, 52, 53, 54, 55, 56, 57, 65, 66, 67, 68, 69, 70, 71, 72, 73, 74, 75, 76, 77, 78, 79, 80, 81, 82, 83, 84, 85, 86, 87, 88, 89, 90]⟩)) (.tmp 8)) 5)⟩, 
  ⟨(some 10), none, .mv (.t 0)⟩, 
  ⟨(some 11), none, .call 41 [(.t 10)]⟩, 
  ⟨(some 12), none, .bin .eql false (.t 9) (.t 11) (pu (.binOp .eql 5 (.tmp 9) (.tmp 11) 5) 4)⟩])
  (.cond (.t 12) (.seq (.reg [⟨(some 13), none, .mv (.t 3)⟩, 
   ⟨(some 2), none, .mv (.t 13)⟩])
   .ret)
  .skip)))
  (.reg [⟨(some 6), none, .mv (.t 3)⟩, 
  ⟨(some 7), none, .bin .add false (.t 6) (.k (.sc (.int .i64 1))) (pu (.binOp .add 3 (.tmp 6) (.const (.int .i64 1)) 3) 3)⟩, 
  ⟨(some 3), none, .mv (.t 7)⟩]))))))
 (.seq (.reg [⟨(some 2), none, .mv (.k (.sc (.int .i64 (-1))))⟩])
 .ret)))
def k37 : List Nat := [0, 2, 3, 5, 12]
theorem ic37 : factsI Tryd.prog 37 = some (14, [.tmp 2], c37) := by kernel_rfl

-- internal/strconv.Itoa (5 slots)
def c38 : IC :=
 (.seq (.reg [⟨(some 2), none, .mv (.k (.sc (.string ⟨#[]⟩)))⟩])
 (.seq (.reg [⟨(some 3), none, .mv (.t 0)⟩, 
 ⟨(some 4), none, .call 42 [(.t 3), (.k (.sc (.int .i64 10)))]⟩, 
 ⟨(some 2), none, .mv (.t 4)⟩])
 .ret))
def k38 : List Nat := [0, 2]
theorem ic38 : factsI Tryd.prog 38 = some (5, [.tmp 2], c38) := by kernel_rfl

-- chargenet/chargenetref26.SameReadings (26 slots)
def c39 : IC :=
 (.seq (.reg [⟨(some 4), none, .mv (.k (.sc (.bool false)))⟩])
 (.seq (.seq (.reg [⟨(some 6), none, .mv (.t 0)⟩, 
 ⟨(some 7), none, .len (.t 6) (pu (.call ⟨.builtin .len, #[(.tmp 6)], #[34]⟩) 3)⟩, 
 ⟨(some 8), none, .mv (.t 1)⟩, 
 ⟨(some 9), none, .len (.t 8) (pu (.call ⟨.builtin .len, #[(.tmp 8)], #[34]⟩) 3)⟩, 
 ⟨(some 10), none, .bin .neq false (.t 7) (.t 9) (pu (.binOp .neq 3 (.tmp 7) (.tmp 9) 3) 4)⟩])
 (.cond (.t 10) (.seq (.reg [⟨(some 4), none, .mv (.k (.sc (.bool false)))⟩])
  .ret)
 .skip))
 (.seq (.seq (.reg [⟨(some 5), none, .mv (.k (.sc (.int .i64 0)))⟩])
 (.block 0 (.loop (.seq (.seq (.reg [⟨(some 11), none, .mv (.t 5)⟩, 
  ⟨(some 12), none, .mv (.t 0)⟩, 
  ⟨(some 13), none, .len (.t 12) (pu (.call ⟨.builtin .len, #[(.tmp 12)], #[34]⟩) 3)⟩, 
  ⟨(some 14), none, .bin .lss false (.t 11) (.t 13) (pu (.binOp .lss 3 (.tmp 11) (.tmp 13) 3) 4)⟩])
  (.cond (.t 14) .skip
  (.exit 0)))
  (.seq (.block 1 (.seq (.drw [0, 0, 3, 7, 0, 0, 48, 112, 255] [⟨(some 17), none, .mv (.t 0)⟩, 
  ⟨(some 18), none, .mv (.t 5)⟩, 
  ⟨(some 19), none, .ixs 2 (.t 17) (.t 18)⟩, 
  ⟨(some 20), none, .ld (some 2) (.t 19)⟩, 
  ⟨(some 21), none, .mv (.t 1)⟩, 
  ⟨(some 22), none, .mv (.t 5)⟩, 
  ⟨(some 23), none, .ixs 2 (.t 21) (.t 22)⟩, 
  ⟨(some 24), none, .ld (some 2) (.t 23)⟩, 
  ⟨(some 25), none, .bin .neq false (.t 20) (.t 24) (pu (.binOp .neq 23 (.tmp 20) (.tmp 24) 23) 4)⟩])
  (.cond (.t 25) (.seq (.reg [⟨(some 4), none, .mv (.k (.sc (.bool false)))⟩])
   .ret)
  .skip)))
  (.reg [⟨(some 15), none, .mv (.t 5)⟩, 
  ⟨(some 16), none, .bin .add false (.t 15) (.k (.sc (.int .i64 1))) (pu (.binOp .add 3 (.tmp 15) (.const (.int .i64 1)) 3) 3)⟩, 
  ⟨(some 5), none, .mv (.t 16)⟩]))))))
 (.seq (.reg [⟨(some 4), none, .mv (.k (.sc (.bool true)))⟩])
 .ret))))
def k39 : List Nat := [0, 1, 4, 5, 10, 14, 25]
theorem ic39 : factsI Tryd.prog 39 = some (26, [.tmp 4], c39) := by kernel_rfl

-- chargenet/chargenetref26.Reading (11 slots)
def c40 : IC :=
 (.seq (.reg [⟨(some 1), none, .bx (.t 0)⟩, 
 ⟨(some 2), none, .mv (.k (.sc (.bool false)))⟩])
 (.seq (.reg [⟨(some 3), none, .sh 0 (.t 1)⟩, 
 ⟨(some 4), none, .ld none (.t 3)⟩, 
 ⟨(some 5), none, .call 32 [(.t 4)]⟩, 
 ⟨(some 6), none, .mv (.t 5)⟩, 
 ⟨(some 7), (some ((some 6), true)), .sh 1 (.t 1)⟩, 
 ⟨(some 8), (some ((some 6), true)), .ld none (.t 7)⟩, 
 ⟨(some 9), (some ((some 6), true)), .call 43 [(.t 8), (.k (.sc (.int .i64 0))), (.k (.sc (.int .i64 1099511627775)))]⟩, 
 ⟨(some 10), none, .pick (.t 6) (.t 9) (.k (.sc (.bool false)))⟩, 
 ⟨(some 2), none, .mv (.t 10)⟩])
 .ret))
def k40 : List Nat := [0, 1, 2]
theorem ic40 : factsI Tryd.prog 40 = some (11, [.tmp 2], c40) := by kernel_rfl

-- chargenet/chargenetref01.Capital (12 slots)
def c41 : IC :=
 (.seq (.reg [⟨(some 2), none, .mv (.k (.sc (.int .u8 0)))⟩])
 (.seq (.seq (.reg [⟨(some 3), none, .mv (.t 0)⟩, 
 ⟨(some 4), none, .bin .geq false (.t 3) (.k (.sc (.int .u8 97))) (pu (.binOp .geq 5 (.tmp 3) (.const (.int .u8 97)) 5) 4)⟩, 
 ⟨(some 5), none, .mv (.t 4)⟩, 
 ⟨(some 6), (some ((some 5), true)), .mv (.t 0)⟩, 
 ⟨(some 7), (some ((some 5), true)), .bin .leq false (.t 6) (.k (.sc (.int .u8 122))) (pu (.binOp .leq 5 (.tmp 6) (.const (.int .u8 122)) 5) 4)⟩, 
 ⟨(some 8), none, .pick (.t 5) (.t 7) (.k (.sc (.bool false)))⟩])
 (.cond (.t 8) (.seq (.reg [⟨(some 9), none, .mv (.t 0)⟩, 
  ⟨(some 10), none, .bin .sub false (.t 9) (.k (.sc (.int .u8 32))) (pu (.binOp .sub 5 (.tmp 9) (.const (.int .u8 32)) 5) 5)⟩, 
  ⟨(some 2), none, .mv (.t 10)⟩])
  .ret)
 .skip))
 (.seq (.reg [⟨(some 11), none, .mv (.t 0)⟩, 
 ⟨(some 2), none, .mv (.t 11)⟩])
 .ret)))
def k41 : List Nat := [0, 2, 8]
theorem ic41 : factsI Tryd.prog 41 = some (12, [.tmp 2], c41) := by kernel_rfl

-- chargenet/chargenetref26.in (15 slots)
def c43 : IC :=
 (.seq (.reg [⟨(some 6), none, .mv (.k (.sc (.bool false)))⟩])
 (.seq (.reg [⟨(some 7), none, .mv (.t 0)⟩, 
 ⟨(some 8), none, .mv (.t 1)⟩, 
 ⟨(some 9), none, .bin .geq false (.t 7) (.t 8) (pu (.binOp .geq 3 (.tmp 7) (.tmp 8) 3) 4)⟩, 
 ⟨(some 10), none, .mv (.t 9)⟩, 
 ⟨(some 11), (some ((some 10), true)), .mv (.t 0)⟩, 
 ⟨(some 12), (some ((some 10), true)), .mv (.t 2)⟩, 
 ⟨(some 13), (some ((some 10), true)), .bin .leq false (.t 11) (.t 12) (pu (.binOp .leq 3 (.tmp 11) (.tmp 12) 3) 4)⟩, 
 ⟨(some 14), none, .pick (.t 10) (.t 13) (.k (.sc (.bool false)))⟩, 
 ⟨(some 6), none, .mv (.t 14)⟩])
 .ret))
def k43 : List Nat := [0, 1, 2, 6]
theorem ic43 : factsI Tryd.prog 43 = some (15, [.tmp 6], c43) := by kernel_rfl

end Go.Proofs.YtfinfdbbndcomaaDoor
