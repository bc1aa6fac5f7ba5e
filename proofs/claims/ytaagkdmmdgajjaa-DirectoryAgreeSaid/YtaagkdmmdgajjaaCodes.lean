import Derived.Test.YtaagkdmmdgajjaaRows
import Derived.Test.YtaagkdmmdgajjaaIdlM4
namespace Go.Proofs.Ytaagkdmmdgajjaa
open Go.Idl
-- chargenet/chargenetlaw45.DirectoryValid (27 slots)
def c3 : IC :=
 (.seq (.reg [⟨(some 1), none, .bx (.t 0)⟩, 
 ⟨(some 2), none, .mv (.k (.sc (.bool false)))⟩])
 (.seq (.seq (.reg [⟨(some 3), none, .sh 1 (.t 1)⟩, 
 ⟨(some 4), none, .ld none (.t 3)⟩, 
 ⟨(some 5), none, .call 8 [(.t 4)]⟩, 
 ⟨(some 6), none, .mv (.t 5)⟩, 
 ⟨(some 7), (some ((some 6), false)), .sh 2 (.t 1)⟩, 
 ⟨(some 8), (some ((some 6), false)), .ld none (.t 7)⟩, 
 ⟨(some 9), (some ((some 6), false)), .len (.t 8) (pu (.call ⟨.builtin .len, #[(.tmp 8)], #[23]⟩) 3)⟩, 
 ⟨(some 10), (some ((some 6), false)), .bin .gtr false (.t 9) (.k (.sc (.int .i64 300))) (pu (.binOp .gtr 3 (.tmp 9) (.const (.int .i64 300)) 3) 4)⟩, 
 ⟨(some 11), none, .pick (.t 6) (.k (.sc (.bool true))) (.t 10)⟩, 
 ⟨(some 12), none, .mv (.t 11)⟩, 
 ⟨(some 13), (some ((some 12), false)), .sh 0 (.t 1)⟩, 
 ⟨(some 14), (some ((some 12), false)), .ld none (.t 13)⟩, 
 ⟨(some 15), (some ((some 12), false)), .lens (.t 14) (pu (.call ⟨.builtin .len, #[(.tmp 14)], #[9]⟩) 3)⟩, 
 ⟨(some 16), (some ((some 12), false)), .bin .gtr false (.t 15) (.k (.sc (.int .i64 4096))) (pu (.binOp .gtr 3 (.tmp 15) (.const (.int .i64 4096)) 3) 4)⟩, 
 ⟨(some 17), none, .pick (.t 12) (.k (.sc (.bool true))) (.t 16)⟩])
 (.cond (.t 17) (.seq (.reg [⟨(some 18), none, .call 9 []⟩, 
  ⟨(some 2), none, .mv (.t 18)⟩])
  .ret)
 .skip))
 (.seq (.drw [0, 1, 0, 7, 15, 31, 63, 127, 255] [⟨(some 19), none, .ld (some 4) (.t 1)⟩, 
 ⟨(some 20), none, .call 10 [(.t 19)]⟩, 
 ⟨(some 21), none, .ld (some 4) (.t 1)⟩, 
 ⟨(some 22), none, .call 11 [(.t 21)]⟩, 
 ⟨(some 23), none, .bin .eql false (.t 20) (.t 22) (pu (.binOp .eql 28 (.tmp 20) (.tmp 22) 28) 4)⟩, 
 ⟨(some 24), none, .mv (.t 23)⟩, 
 ⟨(some 25), (some ((some 24), true)), .call 9 []⟩, 
 ⟨(some 26), none, .pick (.t 24) (.t 25) (.k (.sc (.bool false)))⟩, 
 ⟨(some 2), none, .mv (.t 26)⟩])
 .ret)))
def k3 : List Nat := [0, 1, 2, 17]
theorem ic3 : factsI Try.prog 3 = some (27, [.tmp 2], c3) := by kernel_rfl

-- chargenet/chargenetlaw45.DirectoryFind (99 slots)
def c4 : IC :=
 (.seq (.reg [⟨(some 12), none, .mv (.k (.sc (.bool false)))⟩])
 (.seq (.seq (.reg [⟨(some 23), none, .mv (.t 1)⟩, 
 ⟨(some 24), none, .call 12 [(.t 23)]⟩, 
 ⟨(some 25), none, .mv (.t 24)⟩, 
 ⟨(some 26), (some ((some 25), false)), .mv (.t 0)⟩, 
 ⟨(some 27), (some ((some 25), false)), .lens (.t 26) (pu (.call ⟨.builtin .len, #[(.tmp 26)], #[9]⟩) 3)⟩, 
 ⟨(some 28), (some ((some 25), false)), .bin .gtr false (.t 27) (.k (.sc (.int .i64 4096))) (pu (.binOp .gtr 3 (.tmp 27) (.const (.int .i64 4096)) 3) 4)⟩, 
 ⟨(some 29), none, .pick (.t 25) (.k (.sc (.bool true))) (.t 28)⟩, 
 ⟨(some 30), none, .mv (.t 29)⟩, 
 ⟨(some 31), (some ((some 30), false)), .mv (.t 3)⟩, 
 ⟨(some 32), (some ((some 30), false)), .lens (.t 31) (pu (.call ⟨.builtin .len, #[(.tmp 31)], #[9]⟩) 3)⟩, 
 ⟨(some 33), (some ((some 30), false)), .bin .gtr false (.t 32) (.k (.sc (.int .i64 4096))) (pu (.binOp .gtr 3 (.tmp 32) (.const (.int .i64 4096)) 3) 4)⟩, 
 ⟨(some 34), none, .pick (.t 30) (.k (.sc (.bool true))) (.t 33)⟩, 
 ⟨(some 35), none, .mv (.t 34)⟩, 
 ⟨(some 36), (some ((some 35), false)), .mv (.t 4)⟩, 
 ⟨(some 37), (some ((some 35), false)), .lens (.t 36) (pu (.call ⟨.builtin .len, #[(.tmp 36)], #[9]⟩) 3)⟩, 
 ⟨(some 38), (some ((some 35), false)), .bin .gtr false (.t 37) (.k (.sc (.int .i64 4096))) (pu (.binOp .gtr 3 (.tmp 37) (.const (.int .i64 4096)) 3) 4)⟩, 
 ⟨(some 39), none, .pick (.t 35) (.k (.sc (.bool true))) (.t 38)⟩])
 (.cond (.t 39) (.seq (.reg [⟨(some 40), none, .call 9 []⟩, 
  ⟨(some 12), none, .mv (.t 40)⟩])
  .ret)
 .skip))
 (.seq (.reg [⟨(some 42), none, .mv (.t 0)⟩, 
 ⟨(some 43), none, .mv (.t 1)⟩, 
 ⟨(some 44), none, .call 13 [(.t 42), (.t 43)]⟩, 
 ⟨(some 41), none, .mv (.t 44)⟩, 
 ⟨(some 45), none, .ext (.t 41) 0⟩, 
 ⟨(some 46), none, .ext (.t 41) 1⟩, 
 ⟨(some 13), none, .al (.agg [(.sc (.string ⟨#[]⟩)), (.sc (.slice none 0 0)), (.sc (.slice none 0 0)), (.sc (.int .i64 0))]) 4⟩, 
 ⟨none, none, .st 4 (.t 13) (.t 45)⟩, 
 ⟨(some 14), none, .mv (.t 46)⟩])
 (.seq (.seq (.reg [⟨(some 47), none, .mv (.t 14)⟩, 
 ⟨(some 48), none, .un .not (.t 47) (pu (.unOp .not 4 (.tmp 47)) 4)⟩])
 (.cond (.t 48) (.seq (.reg [⟨(some 49), none, .call 9 []⟩, 
  ⟨(some 12), none, .mv (.t 49)⟩])
  .ret)
 .skip))
 (.seq (.reg [⟨(some 51), none, .ld (some 4) (.t 13)⟩, 
 ⟨(some 52), none, .mv (.t 2)⟩, 
 ⟨(some 53), none, .mv (.t 3)⟩, 
 ⟨(some 54), none, .mv (.t 4)⟩, 
 ⟨(some 55), none, .call 14 [(.t 51), (.t 52), (.t 53), (.t 54)]⟩, 
 ⟨(some 50), none, .mv (.t 55)⟩, 
 ⟨(some 56), none, .ext (.t 50) 0⟩, 
 ⟨(some 57), none, .ext (.t 50) 1⟩, 
 ⟨(some 15), none, .al (.agg [(.sc (.int .i64 0)), (.sc (.string ⟨#[]⟩)), (.sc (.string ⟨#[]⟩)), (.sc (.int .i64 0)), (.sc (.bool false)), (.sc (.slice none 0 0))]) 6⟩, 
 ⟨none, none, .st 6 (.t 15) (.t 56)⟩, 
 ⟨(some 16), none, .mv (.t 57)⟩])
 (.seq (.reg [⟨(some 59), none, .ld (some 4) (.t 13)⟩, 
 ⟨(some 60), none, .mv (.t 2)⟩, 
 ⟨(some 61), none, .mv (.t 3)⟩, 
 ⟨(some 62), none, .mv (.t 4)⟩, 
 ⟨(some 63), none, .call 15 [(.t 59), (.t 60), (.t 61), (.t 62)]⟩, 
 ⟨(some 58), none, .mv (.t 63)⟩, 
 ⟨(some 64), none, .ext (.t 58) 0⟩, 
 ⟨(some 65), none, .ext (.t 58) 1⟩, 
 ⟨(some 17), none, .al (.agg [(.sc (.int .i64 0)), (.sc (.string ⟨#[]⟩)), (.sc (.string ⟨#[]⟩)), (.sc (.int .i64 0)), (.sc (.bool false)), (.sc (.slice none 0 0))]) 6⟩, 
 ⟨none, none, .st 6 (.t 17) (.t 64)⟩, 
 ⟨(some 18), none, .mv (.t 65)⟩])
 (.seq (.reg [⟨(some 67), none, .ld (some 4) (.t 13)⟩, 
 ⟨(some 68), none, .mv (.t 5)⟩, 
 ⟨(some 69), none, .call 16 [(.t 67), (.t 68)]⟩, 
 ⟨(some 66), none, .mv (.t 69)⟩, 
 ⟨(some 70), none, .ext (.t 66) 0⟩, 
 ⟨(some 71), none, .ext (.t 66) 1⟩, 
 ⟨(some 19), none, .mv (.t 70)⟩, 
 ⟨(some 20), none, .mv (.t 71)⟩])
 (.seq (.reg [⟨(some 73), none, .ld (some 4) (.t 13)⟩, 
 ⟨(some 74), none, .mv (.t 5)⟩, 
 ⟨(some 75), none, .call 17 [(.t 73), (.t 74)]⟩, 
 ⟨(some 72), none, .mv (.t 75)⟩, 
 ⟨(some 76), none, .ext (.t 72) 0⟩, 
 ⟨(some 77), none, .ext (.t 72) 1⟩, 
 ⟨(some 21), none, .mv (.t 76)⟩, 
 ⟨(some 22), none, .mv (.t 77)⟩])
 (.seq (.reg [⟨(some 78), none, .ld (some 6) (.t 15)⟩, 
 ⟨(some 79), none, .ld (some 6) (.t 17)⟩, 
 ⟨(some 80), none, .call 18 [(.t 78), (.t 79)]⟩, 
 ⟨(some 81), none, .mv (.t 80)⟩, 
 ⟨(some 82), (some ((some 81), true)), .mv (.t 16)⟩, 
 ⟨(some 83), (some ((some 81), true)), .mv (.t 18)⟩, 
 ⟨(some 84), (some ((some 81), true)), .bin .eql true (.t 82) (.t 83) (pu (.binOp .eql 4 (.tmp 82) (.tmp 83) 4) 4)⟩, 
 ⟨(some 85), none, .pick (.t 81) (.t 84) (.k (.sc (.bool false)))⟩, 
 ⟨(some 86), none, .mv (.t 85)⟩, 
 ⟨(some 87), (some ((some 86), true)), .mv (.t 19)⟩, 
 ⟨(some 88), (some ((some 86), true)), .mv (.t 21)⟩, 
 ⟨(some 89), (some ((some 86), true)), .call 19 [(.t 87), (.t 88)]⟩, 
 ⟨(some 90), none, .pick (.t 86) (.t 89) (.k (.sc (.bool false)))⟩, 
 ⟨(some 91), none, .mv (.t 90)⟩, 
 ⟨(some 92), (some ((some 91), true)), .mv (.t 20)⟩, 
 ⟨(some 93), (some ((some 91), true)), .mv (.t 22)⟩, 
 ⟨(some 94), (some ((some 91), true)), .bin .eql false (.t 92) (.t 93) (pu (.binOp .eql 3 (.tmp 92) (.tmp 93) 3) 4)⟩, 
 ⟨(some 95), none, .pick (.t 91) (.t 94) (.k (.sc (.bool false)))⟩, 
 ⟨(some 96), none, .mv (.t 95)⟩, 
 ⟨(some 97), (some ((some 96), true)), .call 9 []⟩, 
 ⟨(some 98), none, .pick (.t 96) (.t 97) (.k (.sc (.bool false)))⟩, 
 ⟨(some 12), none, .mv (.t 98)⟩])
 .ret)))))))))
def k4 : List Nat := [0, 1, 2, 3, 4, 5, 12, 13, 14, 15, 16, 17, 18, 19, 20, 21, 22, 39, 48]
theorem ic4 : factsI Try.prog 4 = some (99, [.tmp 12], c4) := by kernel_rfl

-- chargenet/chargenetlaw45.DirectoryAgain (84 slots)
def c5 : IC :=
 (.seq (.reg [⟨(some 6), none, .mv (.k (.sc (.bool false)))⟩])
 (.seq (.seq (.reg [⟨(some 13), none, .mv (.t 1)⟩, 
 ⟨(some 14), none, .call 12 [(.t 13)]⟩, 
 ⟨(some 15), none, .mv (.t 14)⟩, 
 ⟨(some 16), (some ((some 15), false)), .mv (.t 0)⟩, 
 ⟨(some 17), (some ((some 15), false)), .lens (.t 16) (pu (.call ⟨.builtin .len, #[(.tmp 16)], #[9]⟩) 3)⟩, 
 ⟨(some 18), (some ((some 15), false)), .bin .gtr false (.t 17) (.k (.sc (.int .i64 4096))) (pu (.binOp .gtr 3 (.tmp 17) (.const (.int .i64 4096)) 3) 4)⟩, 
 ⟨(some 19), none, .pick (.t 15) (.k (.sc (.bool true))) (.t 18)⟩, 
 ⟨(some 20), none, .mv (.t 19)⟩, 
 ⟨(some 21), (some ((some 20), false)), .mv (.t 2)⟩, 
 ⟨(some 22), (some ((some 20), false)), .call 8 [(.t 21)]⟩, 
 ⟨(some 23), none, .pick (.t 20) (.k (.sc (.bool true))) (.t 22)⟩])
 (.cond (.t 23) (.seq (.reg [⟨(some 24), none, .call 9 []⟩, 
  ⟨(some 6), none, .mv (.t 24)⟩])
  .ret)
 .skip))
 (.seq (.reg [⟨(some 26), none, .mv (.t 0)⟩, 
 ⟨(some 27), none, .mv (.t 1)⟩, 
 ⟨(some 28), none, .call 13 [(.t 26), (.t 27)]⟩, 
 ⟨(some 25), none, .mv (.t 28)⟩, 
 ⟨(some 29), none, .ext (.t 25) 0⟩, 
 ⟨(some 30), none, .ext (.t 25) 1⟩, 
 ⟨(some 7), none, .al (.agg [(.sc (.string ⟨#[]⟩)), (.sc (.slice none 0 0)), (.sc (.slice none 0 0)), (.sc (.int .i64 0))]) 4⟩, 
 ⟨none, none, .st 4 (.t 7) (.t 29)⟩, 
 ⟨(some 8), none, .mv (.t 30)⟩])
 (.seq (.seq (.reg [⟨(some 31), none, .mv (.t 8)⟩, 
 ⟨(some 32), none, .un .not (.t 31) (pu (.unOp .not 4 (.tmp 31)) 4)⟩, 
 ⟨(some 33), none, .mv (.t 32)⟩, 
 ⟨(some 34), (some ((some 33), false)), .sh 1 (.t 7)⟩, 
 ⟨(some 35), (some ((some 33), false)), .ld none (.t 34)⟩, 
 ⟨(some 36), (some ((some 33), false)), .len (.t 35) (pu (.call ⟨.builtin .len, #[(.tmp 35)], #[22]⟩) 3)⟩, 
 ⟨(some 37), (some ((some 33), false)), .mv (.t 2)⟩, 
 ⟨(some 38), (some ((some 33), false)), .len (.t 37) (pu (.call ⟨.builtin .len, #[(.tmp 37)], #[22]⟩) 3)⟩, 
 ⟨(some 39), (some ((some 33), false)), .bin .add false (.t 36) (.t 38) (pu (.binOp .add 3 (.tmp 36) (.tmp 38) 3) 3)⟩, 
 ⟨(some 40), (some ((some 33), false)), .bin .gtr false (.t 39) (.k (.sc (.int .i64 256))) (pu (.binOp .gtr 3 (.tmp 39) (.const (.int .i64 256)) 3) 4)⟩, 
 ⟨(some 41), none, .pick (.t 33) (.k (.sc (.bool true))) (.t 40)⟩])
 (.cond (.t 41) (.seq (.reg [⟨(some 42), none, .call 9 []⟩, 
  ⟨(some 6), none, .mv (.t 42)⟩])
  .ret)
 .skip))
 (.seq (.reg [⟨(some 44), none, .ld (some 4) (.t 7)⟩, 
 ⟨(some 45), none, .mv (.t 2)⟩, 
 ⟨(some 46), none, .call 20 [(.t 44), (.t 45)]⟩, 
 ⟨(some 43), none, .mv (.t 46)⟩, 
 ⟨(some 47), none, .ext (.t 43) 0⟩, 
 ⟨(some 48), none, .ext (.t 43) 1⟩, 
 ⟨(some 9), none, .al (.agg [(.sc (.string ⟨#[]⟩)), (.sc (.slice none 0 0)), (.sc (.slice none 0 0)), (.sc (.int .i64 0))]) 4⟩, 
 ⟨none, none, .st 4 (.t 9) (.t 47)⟩, 
 ⟨(some 10), none, .mv (.t 48)⟩])
 (.seq (.reg [⟨(some 50), none, .ld (some 4) (.t 9)⟩, 
 ⟨(some 51), none, .mv (.t 2)⟩, 
 ⟨(some 52), none, .call 20 [(.t 50), (.t 51)]⟩, 
 ⟨(some 49), none, .mv (.t 52)⟩, 
 ⟨(some 53), none, .ext (.t 49) 0⟩, 
 ⟨(some 54), none, .ext (.t 49) 1⟩, 
 ⟨(some 11), none, .al (.agg [(.sc (.string ⟨#[]⟩)), (.sc (.slice none 0 0)), (.sc (.slice none 0 0)), (.sc (.int .i64 0))]) 4⟩, 
 ⟨none, none, .st 4 (.t 11) (.t 53)⟩, 
 ⟨(some 12), none, .mv (.t 54)⟩])
 (.seq (.reg [⟨(some 55), none, .mv (.t 10)⟩, 
 ⟨(some 56), none, .bin .geq false (.t 55) (.k (.sc (.int .i64 0))) (pu (.binOp .geq 3 (.tmp 55) (.const (.int .i64 0)) 3) 4)⟩, 
 ⟨(some 57), none, .mv (.t 56)⟩, 
 ⟨(some 58), (some ((some 57), true)), .mv (.t 10)⟩, 
 ⟨(some 59), (some ((some 57), true)), .mv (.t 2)⟩, 
 ⟨(some 60), (some ((some 57), true)), .len (.t 59) (pu (.call ⟨.builtin .len, #[(.tmp 59)], #[22]⟩) 3)⟩, 
 ⟨(some 61), (some ((some 57), true)), .bin .leq false (.t 58) (.t 60) (pu (.binOp .leq 3 (.tmp 58) (.tmp 60) 3) 4)⟩, 
 ⟨(some 62), none, .pick (.t 57) (.t 61) (.k (.sc (.bool false)))⟩, 
 ⟨(some 63), none, .mv (.t 62)⟩, 
 ⟨(some 64), (some ((some 63), true)), .sh 3 (.t 9)⟩, 
 ⟨(some 65), (some ((some 63), true)), .ld none (.t 64)⟩, 
 ⟨(some 66), (some ((some 63), true)), .sh 3 (.t 7)⟩, 
 ⟨(some 67), (some ((some 63), true)), .ld none (.t 66)⟩, 
 ⟨(some 68), (some ((some 63), true)), .mv (.t 10)⟩, 
 ⟨(some 69), (some ((some 63), true)), .bin .add false (.t 67) (.t 68) (pu (.binOp .add 3 (.tmp 67) (.tmp 68) 3) 3)⟩, 
 ⟨(some 70), (some ((some 63), true)), .bin .eql false (.t 65) (.t 69) (pu (.binOp .eql 3 (.tmp 65) (.tmp 69) 3) 4)⟩, 
 ⟨(some 71), none, .pick (.t 63) (.t 70) (.k (.sc (.bool false)))⟩, 
 ⟨(some 72), none, .mv (.t 71)⟩, 
 ⟨(some 73), (some ((some 72), true)), .mv (.t 12)⟩, 
 ⟨(some 74), (some ((some 72), true)), .bin .eql false (.t 73) (.k (.sc (.int .i64 0))) (pu (.binOp .eql 3 (.tmp 73) (.const (.int .i64 0)) 3) 4)⟩, 
 ⟨(some 75), none, .pick (.t 72) (.t 74) (.k (.sc (.bool false)))⟩, 
 ⟨(some 76), none, .mv (.t 75)⟩, 
 ⟨(some 77), (some ((some 76), true)), .ld (some 4) (.t 9)⟩, 
 ⟨(some 78), (some ((some 76), true)), .ld (some 4) (.t 11)⟩, 
 ⟨(some 79), (some ((some 76), true)), .call 21 [(.t 77), (.t 78)]⟩, 
 ⟨(some 80), none, .pick (.t 76) (.t 79) (.k (.sc (.bool false)))⟩, 
 ⟨(some 81), none, .mv (.t 80)⟩, 
 ⟨(some 82), (some ((some 81), true)), .call 9 []⟩, 
 ⟨(some 83), none, .pick (.t 81) (.t 82) (.k (.sc (.bool false)))⟩, 
 ⟨(some 6), none, .mv (.t 83)⟩])
 .ret)))))))
def k5 : List Nat := [0, 1, 2, 6, 7, 8, 9, 10, 11, 12, 23, 41]
theorem ic5 : factsI Try.prog 5 = some (84, [.tmp 6], c5) := by kernel_rfl

-- chargenet/chargenetlaw45.DirectoryNews (89 slots)
def c6 : IC :=
 (.seq (.reg [⟨(some 6), none, .mv (.k (.sc (.bool false)))⟩])
 (.seq (.seq (.reg [⟨(some 16), none, .mv (.t 1)⟩, 
 ⟨(some 17), none, .call 12 [(.t 16)]⟩, 
 ⟨(some 18), none, .mv (.t 17)⟩, 
 ⟨(some 19), (some ((some 18), false)), .mv (.t 2)⟩, 
 ⟨(some 20), (some ((some 18), false)), .call 12 [(.t 19)]⟩, 
 ⟨(some 21), none, .pick (.t 18) (.k (.sc (.bool true))) (.t 20)⟩, 
 ⟨(some 22), none, .mv (.t 21)⟩, 
 ⟨(some 23), (some ((some 22), false)), .mv (.t 0)⟩, 
 ⟨(some 24), (some ((some 22), false)), .lens (.t 23) (pu (.call ⟨.builtin .len, #[(.tmp 23)], #[9]⟩) 3)⟩, 
 ⟨(some 25), (some ((some 22), false)), .bin .gtr false (.t 24) (.k (.sc (.int .i64 4096))) (pu (.binOp .gtr 3 (.tmp 24) (.const (.int .i64 4096)) 3) 4)⟩, 
 ⟨(some 26), none, .pick (.t 22) (.k (.sc (.bool true))) (.t 25)⟩])
 (.cond (.t 26) (.seq (.reg [⟨(some 27), none, .call 9 []⟩, 
  ⟨(some 6), none, .mv (.t 27)⟩])
  .ret)
 .skip))
 (.seq (.reg [⟨(some 29), none, .mv (.t 0)⟩, 
 ⟨(some 30), none, .mv (.t 1)⟩, 
 ⟨(some 31), none, .call 13 [(.t 29), (.t 30)]⟩, 
 ⟨(some 28), none, .mv (.t 31)⟩, 
 ⟨(some 32), none, .ext (.t 28) 0⟩, 
 ⟨(some 33), none, .ext (.t 28) 1⟩, 
 ⟨(some 7), none, .al (.agg [(.sc (.string ⟨#[]⟩)), (.sc (.slice none 0 0)), (.sc (.slice none 0 0)), (.sc (.int .i64 0))]) 4⟩, 
 ⟨none, none, .st 4 (.t 7) (.t 32)⟩, 
 ⟨(some 8), none, .mv (.t 33)⟩])
 (.seq (.seq (.reg [⟨(some 34), none, .mv (.t 8)⟩, 
 ⟨(some 35), none, .un .not (.t 34) (pu (.unOp .not 4 (.tmp 34)) 4)⟩])
 (.cond (.t 35) (.seq (.reg [⟨(some 36), none, .call 9 []⟩, 
  ⟨(some 6), none, .mv (.t 36)⟩])
  .ret)
 .skip))
 (.seq (.reg [⟨(some 38), none, .ld (some 4) (.t 7)⟩, 
 ⟨(some 39), none, .call 16 [(.t 38), (.k (.sc (.int .i64 0)))]⟩, 
 ⟨(some 37), none, .mv (.t 39)⟩, 
 ⟨(some 40), none, .ext (.t 37) 0⟩, 
 ⟨(some 41), none, .ext (.t 37) 1⟩, 
 ⟨(some 9), none, .mv (.t 40)⟩, 
 ⟨(some 10), none, .mv (.t 41)⟩])
 (.seq (.reg [⟨(some 42), none, .ld (some 4) (.t 7)⟩, 
 ⟨(some 11), none, .al (.agg [(.sc (.string ⟨#[]⟩)), (.sc (.slice none 0 0)), (.sc (.slice none 0 0)), (.sc (.int .i64 0))]) 4⟩, 
 ⟨none, none, .st 4 (.t 11) (.t 42)⟩])
 (.seq (.seq (.reg [⟨(some 43), none, .mv (.t 2)⟩, 
 ⟨(some 44), none, .len (.t 43) (pu (.call ⟨.builtin .len, #[(.tmp 43)], #[31]⟩) 3)⟩, 
 ⟨(some 45), none, .mv (.k (.sc (.int .i64 0)))⟩])
 (.block 0 (.loop (.seq (.reg [⟨(some 46), none, .bin .lss false (.t 45) (.t 44) (pu (.binOp .lss 3 (.tmp 45) (.tmp 44) 3) 0)⟩])
  (.seq (.cond (.t 46) .skip
  (.exit 0))
  (.seq (.block 1 (.seq (.reg [⟨(some 47), none, .mv (.t 45)⟩, 
  ⟨(some 12), none, .mv (.t 47)⟩])
  (.drw [0, 0, 0, 6, 14, 31, 63, 127, 127, 127, 255] [⟨(some 49), none, .ld (some 4) (.t 11)⟩, 
  ⟨(some 50), none, .mv (.t 2)⟩, 
  ⟨(some 51), none, .mv (.t 12)⟩, 
  ⟨(some 52), none, .ixs 2 (.t 50) (.t 51)⟩, 
  ⟨(some 53), none, .ld (some 2) (.t 52)⟩, 
  ⟨(some 54), none, .call 22 [(.t 49), (.t 53)]⟩, 
  ⟨(some 48), none, .mv (.t 54)⟩, 
  ⟨(some 55), none, .ext (.t 48) 0⟩, 
  ⟨(some 56), none, .ext (.t 48) 1⟩, 
  ⟨(some 57), none, .ext (.t 48) 2⟩, 
  ⟨none, none, .st 4 (.t 11) (.t 55)⟩])))
  (.reg [⟨(some 58), none, .bin .add false (.t 45) (.k (.sc (.int .i64 1))) (pu (.binOp .add 3 (.tmp 45) (.const (.int .i64 1)) 3) 3)⟩, 
  ⟨(some 45), none, .mv (.t 58)⟩])))))))
 (.seq (.reg [⟨(some 60), none, .ld (some 4) (.t 11)⟩, 
 ⟨(some 61), none, .mv (.t 10)⟩, 
 ⟨(some 62), none, .call 16 [(.t 60), (.t 61)]⟩, 
 ⟨(some 59), none, .mv (.t 62)⟩, 
 ⟨(some 63), none, .ext (.t 59) 0⟩, 
 ⟨(some 64), none, .ext (.t 59) 1⟩, 
 ⟨(some 13), none, .mv (.t 63)⟩, 
 ⟨(some 14), none, .mv (.t 64)⟩])
 (.seq (.seq (.reg [⟨(some 65), none, .sh 1 (.t 11)⟩, 
 ⟨(some 66), none, .ld none (.t 65)⟩, 
 ⟨(some 67), none, .len (.t 66) (pu (.call ⟨.builtin .len, #[(.tmp 66)], #[22]⟩) 3)⟩, 
 ⟨(some 68), none, .mv (.k (.sc (.int .i64 0)))⟩])
 (.block 2 (.loop (.seq (.reg [⟨(some 69), none, .bin .lss false (.t 68) (.t 67) (pu (.binOp .lss 3 (.tmp 68) (.tmp 67) 3) 0)⟩])
  (.seq (.cond (.t 69) .skip
  (.exit 2))
  (.seq (.block 3 (.seq (.reg [⟨(some 70), none, .mv (.t 68)⟩, 
  ⟨(some 15), none, .mv (.t 70)⟩])
  (.seq (.drw [0, 1, 0, 4, 0, 28, 60, 127, 0, 0, 512, 0, 3584, 7680, 16383, 32767] [⟨(some 71), none, .sh 1 (.t 7)⟩, 
  ⟨(some 72), none, .ld none (.t 71)⟩, 
  ⟨(some 73), none, .sh 1 (.t 11)⟩, 
  ⟨(some 74), none, .ld none (.t 73)⟩, 
  ⟨(some 75), none, .mv (.t 15)⟩, 
  ⟨(some 76), none, .ixs 6 (.t 74) (.t 75)⟩, 
  ⟨(some 77), none, .ld (some 6) (.t 76)⟩, 
  ⟨(some 78), none, .call 23 [(.t 72), (.t 77)]⟩, 
  ⟨(some 79), none, .mv (.t 13)⟩, 
  ⟨(some 80), none, .sh 1 (.t 11)⟩, 
  ⟨(some 81), none, .ld none (.t 80)⟩, 
  ⟨(some 82), none, .mv (.t 15)⟩, 
  ⟨(some 83), none, .ixs 6 (.t 81) (.t 82)⟩, 
  ⟨(some 84), none, .ld (some 6) (.t 83)⟩, 
  ⟨(some 85), none, .call 23 [(.t 79), (.t 84)]⟩, 
  ⟨(some 86), none, .bin .eql true (.t 78) (.t 85) (pu (.binOp .eql 4 (.tmp 78) (.tmp 85) 4) 4)⟩])
  (.cond (.t 86) (.seq (.reg [⟨(some 6), none, .mv (.k (.sc (.bool false)))⟩])
   .ret)
  .skip))))
  (.reg [⟨(some 87), none, .bin .add false (.t 68) (.k (.sc (.int .i64 1))) (pu (.binOp .add 3 (.tmp 68) (.const (.int .i64 1)) 3) 3)⟩, 
  ⟨(some 68), none, .mv (.t 87)⟩])))))))
 (.seq (.reg [⟨(some 88), none, .call 9 []⟩, 
 ⟨(some 6), none, .mv (.t 88)⟩])
 .ret))))))))))
def k6 : List Nat := [0, 1, 2, 6, 7, 8, 10, 11, 12, 13, 15, 26, 35, 44, 45, 46, 67, 68, 69, 86]
theorem ic6 : factsI Try.prog 6 = some (89, [.tmp 6], c6) := by kernel_rfl

-- chargenet/chargenetlaw45.DirectoryAgree (133 slots)
def c7 : IC :=
 (.seq (.reg [⟨(some 8), none, .mv (.k (.sc (.bool false)))⟩])
 (.seq (.seq (.reg [⟨(some 21), none, .mv (.t 2)⟩, 
 ⟨(some 22), none, .call 12 [(.t 21)]⟩, 
 ⟨(some 23), none, .mv (.t 22)⟩, 
 ⟨(some 24), (some ((some 23), false)), .mv (.t 3)⟩, 
 ⟨(some 25), (some ((some 23), false)), .call 12 [(.t 24)]⟩, 
 ⟨(some 26), none, .pick (.t 23) (.k (.sc (.bool true))) (.t 25)⟩, 
 ⟨(some 27), none, .mv (.t 26)⟩, 
 ⟨(some 28), (some ((some 27), false)), .mv (.t 0)⟩, 
 ⟨(some 29), (some ((some 27), false)), .lens (.t 28) (pu (.call ⟨.builtin .len, #[(.tmp 28)], #[9]⟩) 3)⟩, 
 ⟨(some 30), (some ((some 27), false)), .bin .gtr false (.t 29) (.k (.sc (.int .i64 4096))) (pu (.binOp .gtr 3 (.tmp 29) (.const (.int .i64 4096)) 3) 4)⟩, 
 ⟨(some 31), none, .pick (.t 27) (.k (.sc (.bool true))) (.t 30)⟩, 
 ⟨(some 32), none, .mv (.t 31)⟩, 
 ⟨(some 33), (some ((some 32), false)), .mv (.t 1)⟩, 
 ⟨(some 34), (some ((some 32), false)), .lens (.t 33) (pu (.call ⟨.builtin .len, #[(.tmp 33)], #[9]⟩) 3)⟩, 
 ⟨(some 35), (some ((some 32), false)), .bin .gtr false (.t 34) (.k (.sc (.int .i64 4096))) (pu (.binOp .gtr 3 (.tmp 34) (.const (.int .i64 4096)) 3) 4)⟩, 
 ⟨(some 36), none, .pick (.t 32) (.k (.sc (.bool true))) (.t 35)⟩, 
 ⟨(some 37), none, .mv (.t 36)⟩, 
 ⟨(some 38), (some ((some 37), false)), .mv (.t 0)⟩, 
 ⟨(some 39), (some ((some 37), false)), .mv (.t 1)⟩, 
 ⟨(some 40), (some ((some 37), false)), .bin .eql false (.t 38) (.t 39) (pu (.binOp .eql 9 (.tmp 38) (.tmp 39) 9) 4)⟩, 
 ⟨(some 41), none, .pick (.t 37) (.k (.sc (.bool true))) (.t 40)⟩])
 (.cond (.t 41) (.seq (.reg [⟨(some 42), none, .call 9 []⟩, 
  ⟨(some 8), none, .mv (.t 42)⟩])
  .ret)
 .skip))
 (.seq (.reg [⟨(some 9), none, .mv (.k (.sc (.func (.func 24) #[] #[])))⟩])
 (.seq (.reg [⟨(some 44), none, .mv (.t 0)⟩, 
 ⟨(some 45), none, .mv (.t 9)⟩, 
 ⟨(some 46), none, .mv (.t 2)⟩, 
 ⟨(some 47), none, .callv (.t 45) [(.t 46)]⟩, 
 ⟨(some 48), none, .call 13 [(.t 44), (.t 47)]⟩, 
 ⟨(some 43), none, .mv (.t 48)⟩, 
 ⟨(some 49), none, .ext (.t 43) 0⟩, 
 ⟨(some 50), none, .ext (.t 43) 1⟩, 
 ⟨(some 10), none, .al (.agg [(.sc (.string ⟨#[]⟩)), (.sc (.slice none 0 0)), (.sc (.slice none 0 0)), (.sc (.int .i64 0))]) 4⟩, 
 ⟨none, none, .st 4 (.t 10) (.t 49)⟩, 
 ⟨(some 11), none, .mv (.t 50)⟩])
 (.seq (.reg [⟨(some 52), none, .mv (.t 1)⟩, 
 ⟨(some 53), none, .mv (.t 9)⟩, 
 ⟨(some 54), none, .mv (.t 3)⟩, 
 ⟨(some 55), none, .callv (.t 53) [(.t 54)]⟩, 
 ⟨(some 56), none, .call 13 [(.t 52), (.t 55)]⟩, 
 ⟨(some 51), none, .mv (.t 56)⟩, 
 ⟨(some 57), none, .ext (.t 51) 0⟩, 
 ⟨(some 58), none, .ext (.t 51) 1⟩, 
 ⟨(some 12), none, .al (.agg [(.sc (.string ⟨#[]⟩)), (.sc (.slice none 0 0)), (.sc (.slice none 0 0)), (.sc (.int .i64 0))]) 4⟩, 
 ⟨none, none, .st 4 (.t 12) (.t 57)⟩, 
 ⟨(some 13), none, .mv (.t 58)⟩])
 (.seq (.seq (.reg [⟨(some 59), none, .mv (.t 11)⟩, 
 ⟨(some 60), none, .un .not (.t 59) (pu (.unOp .not 4 (.tmp 59)) 4)⟩, 
 ⟨(some 61), none, .mv (.t 60)⟩, 
 ⟨(some 62), (some ((some 61), false)), .mv (.t 13)⟩, 
 ⟨(some 63), (some ((some 61), false)), .un .not (.t 62) (pu (.unOp .not 4 (.tmp 62)) 4)⟩, 
 ⟨(some 64), none, .pick (.t 61) (.k (.sc (.bool true))) (.t 63)⟩, 
 ⟨(some 65), none, .mv (.t 64)⟩, 
 ⟨(some 66), (some ((some 65), false)), .sh 1 (.t 10)⟩, 
 ⟨(some 67), (some ((some 65), false)), .ld none (.t 66)⟩, 
 ⟨(some 68), (some ((some 65), false)), .len (.t 67) (pu (.call ⟨.builtin .len, #[(.tmp 67)], #[22]⟩) 3)⟩, 
 ⟨(some 69), (some ((some 65), false)), .sh 1 (.t 12)⟩, 
 ⟨(some 70), (some ((some 65), false)), .ld none (.t 69)⟩, 
 ⟨(some 71), (some ((some 65), false)), .len (.t 70) (pu (.call ⟨.builtin .len, #[(.tmp 70)], #[22]⟩) 3)⟩, 
 ⟨(some 72), (some ((some 65), false)), .bin .add false (.t 68) (.t 71) (pu (.binOp .add 3 (.tmp 68) (.tmp 71) 3) 3)⟩, 
 ⟨(some 73), (some ((some 65), false)), .bin .gtr false (.t 72) (.k (.sc (.int .i64 256))) (pu (.binOp .gtr 3 (.tmp 72) (.const (.int .i64 256)) 3) 4)⟩, 
 ⟨(some 74), none, .pick (.t 65) (.k (.sc (.bool true))) (.t 73)⟩])
 (.cond (.t 74) (.seq (.reg [⟨(some 75), none, .call 9 []⟩, 
  ⟨(some 8), none, .mv (.t 75)⟩])
  .ret)
 .skip))
 (.seq (.reg [⟨(some 77), none, .ld (some 4) (.t 10)⟩, 
 ⟨(some 78), none, .call 16 [(.t 77), (.k (.sc (.int .i64 0)))]⟩, 
 ⟨(some 76), none, .mv (.t 78)⟩, 
 ⟨(some 79), none, .ext (.t 76) 0⟩, 
 ⟨(some 80), none, .ext (.t 76) 1⟩, 
 ⟨(some 14), none, .mv (.t 79)⟩, 
 ⟨(some 15), none, .mv (.t 80)⟩])
 (.seq (.reg [⟨(some 82), none, .ld (some 4) (.t 12)⟩, 
 ⟨(some 83), none, .call 16 [(.t 82), (.k (.sc (.int .i64 0)))]⟩, 
 ⟨(some 81), none, .mv (.t 83)⟩, 
 ⟨(some 84), none, .ext (.t 81) 0⟩, 
 ⟨(some 85), none, .ext (.t 81) 1⟩, 
 ⟨(some 16), none, .mv (.t 84)⟩, 
 ⟨(some 17), none, .mv (.t 85)⟩])
 (.seq (.reg [⟨(some 87), none, .ld (some 4) (.t 10)⟩, 
 ⟨(some 88), none, .mv (.t 16)⟩, 
 ⟨(some 89), none, .call 20 [(.t 87), (.t 88)]⟩, 
 ⟨(some 86), none, .mv (.t 89)⟩, 
 ⟨(some 90), none, .ext (.t 86) 0⟩, 
 ⟨(some 91), none, .ext (.t 86) 1⟩, 
 ⟨none, none, .st 4 (.t 10) (.t 90)⟩, 
 ⟨(some 18), none, .mv (.t 91)⟩])
 (.seq (.reg [⟨(some 93), none, .ld (some 4) (.t 12)⟩, 
 ⟨(some 94), none, .mv (.t 14)⟩, 
 ⟨(some 95), none, .call 20 [(.t 93), (.t 94)]⟩, 
 ⟨(some 92), none, .mv (.t 95)⟩, 
 ⟨(some 96), none, .ext (.t 92) 0⟩, 
 ⟨(some 97), none, .ext (.t 92) 1⟩, 
 ⟨none, none, .st 4 (.t 12) (.t 96)⟩, 
 ⟨(some 19), none, .mv (.t 97)⟩])
 (.seq (.seq (.reg [⟨(some 98), none, .mv (.t 18)⟩, 
 ⟨(some 99), none, .mv (.t 16)⟩, 
 ⟨(some 100), none, .len (.t 99) (pu (.call ⟨.builtin .len, #[(.tmp 99)], #[22]⟩) 3)⟩, 
 ⟨(some 101), none, .bin .neq false (.t 98) (.t 100) (pu (.binOp .neq 3 (.tmp 98) (.tmp 100) 3) 4)⟩, 
 ⟨(some 102), none, .mv (.t 101)⟩, 
 ⟨(some 103), (some ((some 102), false)), .mv (.t 19)⟩, 
 ⟨(some 104), (some ((some 102), false)), .mv (.t 14)⟩, 
 ⟨(some 105), (some ((some 102), false)), .len (.t 104) (pu (.call ⟨.builtin .len, #[(.tmp 104)], #[22]⟩) 3)⟩, 
 ⟨(some 106), (some ((some 102), false)), .bin .neq false (.t 103) (.t 105) (pu (.binOp .neq 3 (.tmp 103) (.tmp 105) 3) 4)⟩, 
 ⟨(some 107), none, .pick (.t 102) (.k (.sc (.bool true))) (.t 106)⟩, 
 ⟨(some 108), none, .mv (.t 107)⟩, 
 ⟨(some 109), (some ((some 108), false)), .sh 1 (.t 10)⟩, 
 ⟨(some 110), (some ((some 108), false)), .ld none (.t 109)⟩, 
 ⟨(some 111), (some ((some 108), false)), .len (.t 110) (pu (.call ⟨.builtin .len, #[(.tmp 110)], #[22]⟩) 3)⟩, 
 ⟨(some 112), (some ((some 108), false)), .sh 1 (.t 12)⟩, 
 ⟨(some 113), (some ((some 108), false)), .ld none (.t 112)⟩, 
 ⟨(some 114), (some ((some 108), false)), .len (.t 113) (pu (.call ⟨.builtin .len, #[(.tmp 113)], #[22]⟩) 3)⟩, 
 ⟨(some 115), (some ((some 108), false)), .bin .neq false (.t 111) (.t 114) (pu (.binOp .neq 3 (.tmp 111) (.tmp 114) 3) 4)⟩, 
 ⟨(some 116), none, .pick (.t 108) (.k (.sc (.bool true))) (.t 115)⟩])
 (.cond (.t 116) (.seq (.reg [⟨(some 8), none, .mv (.k (.sc (.bool false)))⟩])
  .ret)
 .skip))
 (.seq (.seq (.reg [⟨(some 117), none, .sh 1 (.t 10)⟩, 
 ⟨(some 118), none, .ld none (.t 117)⟩, 
 ⟨(some 119), none, .len (.t 118) (pu (.call ⟨.builtin .len, #[(.tmp 118)], #[22]⟩) 3)⟩, 
 ⟨(some 120), none, .mv (.k (.sc (.int .i64 0)))⟩])
 (.block 0 (.loop (.seq (.reg [⟨(some 121), none, .bin .lss false (.t 120) (.t 119) (pu (.binOp .lss 3 (.tmp 120) (.tmp 119) 3) 0)⟩])
  (.seq (.cond (.t 121) .skip
  (.exit 0))
  (.seq (.block 1 (.seq (.reg [⟨(some 122), none, .mv (.t 120)⟩, 
  ⟨(some 20), none, .mv (.t 122)⟩])
  (.seq (.drw [0, 1, 0, 4, 0, 28, 60, 127, 255] [⟨(some 123), none, .sh 1 (.t 12)⟩, 
  ⟨(some 124), none, .ld none (.t 123)⟩, 
  ⟨(some 125), none, .sh 1 (.t 10)⟩, 
  ⟨(some 126), none, .ld none (.t 125)⟩, 
  ⟨(some 127), none, .mv (.t 20)⟩, 
  ⟨(some 128), none, .ixs 6 (.t 126) (.t 127)⟩, 
  ⟨(some 129), none, .ld (some 6) (.t 128)⟩, 
  ⟨(some 130), none, .call 23 [(.t 124), (.t 129)]⟩, 
  ⟨(some 131), none, .un .not (.t 130) (pu (.unOp .not 4 (.tmp 130)) 4)⟩])
  (.cond (.t 131) (.seq (.reg [⟨(some 8), none, .mv (.k (.sc (.bool false)))⟩])
   .ret)
  .skip))))
  (.reg [⟨(some 132), none, .bin .add false (.t 120) (.k (.sc (.int .i64 1))) (pu (.binOp .add 3 (.tmp 120) (.const (.int .i64 1)) 3) 3)⟩, 
  ⟨(some 120), none, .mv (.t 132)⟩])))))))
 (.seq (.reg [⟨(some 8), none, .mv (.k (.sc (.bool true)))⟩])
 .ret)))))))))))))
def k7 : List Nat := [0, 1, 2, 3, 8, 9, 10, 11, 12, 13, 14, 16, 18, 19, 20, 41, 74, 116, 119, 120, 121, 131]
theorem ic7 : factsI Try.prog 7 = some (133, [.tmp 8], c7) := by kernel_rfl

-- chargenet/chargenetlaw45.longObjects (43 slots)
def c8 : IC :=
 (.seq (.reg [⟨(some 2), none, .mv (.k (.sc (.bool false)))⟩])
 (.seq (.reg [⟨(some 3), none, .mv (.k (.sc (.int .i64 0)))⟩])
 (.seq (.seq (.reg [⟨(some 5), none, .mv (.t 0)⟩, 
 ⟨(some 6), none, .len (.t 5) (pu (.call ⟨.builtin .len, #[(.tmp 5)], #[22]⟩) 3)⟩, 
 ⟨(some 7), none, .mv (.k (.sc (.int .i64 0)))⟩])
 (.block 0 (.loop (.seq (.reg [⟨(some 8), none, .bin .lss false (.t 7) (.t 6) (pu (.binOp .lss 3 (.tmp 7) (.tmp 6) 3) 0)⟩])
  (.seq (.cond (.t 8) .skip
  (.exit 0))
  (.seq (.block 1 (.seq (.reg [⟨(some 9), none, .mv (.t 7)⟩, 
  ⟨(some 4), none, .mv (.t 9)⟩])
  (.seq (.reg [⟨(some 10), none, .mv (.t 3)⟩, 
  ⟨(some 11), none, .mv (.t 0)⟩, 
  ⟨(some 12), none, .mv (.t 4)⟩, 
  ⟨(some 13), none, .ixs 6 (.t 11) (.t 12)⟩, 
  ⟨(some 14), none, .sh 5 (.t 13)⟩, 
  ⟨(some 15), none, .ld none (.t 14)⟩, 
  ⟨(some 16), none, .len (.t 15) (pu (.call ⟨.builtin .len, #[(.tmp 15)], #[35]⟩) 3)⟩, 
  ⟨(some 17), none, .bin .add false (.t 10) (.t 16) (pu (.binOp .add 3 (.tmp 10) (.tmp 16) 3) 3)⟩, 
  ⟨(some 3), none, .mv (.t 17)⟩])
  (.seq (.reg [⟨(some 18), none, .mv (.t 4)⟩, 
  ⟨(some 19), none, .bin .geq false (.t 18) (.k (.sc (.int .i64 300))) (pu (.binOp .geq 3 (.tmp 18) (.const (.int .i64 300)) 3) 4)⟩, 
  ⟨(some 20), none, .mv (.t 19)⟩, 
  ⟨(some 21), (some ((some 20), false)), .mv (.t 3)⟩, 
  ⟨(some 22), (some ((some 20), false)), .bin .gtr false (.t 21) (.k (.sc (.int .i64 65536))) (pu (.binOp .gtr 3 (.tmp 21) (.const (.int .i64 65536)) 3) 4)⟩, 
  ⟨(some 23), none, .pick (.t 20) (.k (.sc (.bool true))) (.t 22)⟩, 
  ⟨(some 24), none, .mv (.t 23)⟩, 
  ⟨(some 25), (some ((some 24), false)), .mv (.t 0)⟩, 
  ⟨(some 26), (some ((some 24), false)), .mv (.t 4)⟩, 
  ⟨(some 27), (some ((some 24), false)), .ixs 6 (.t 25) (.t 26)⟩, 
  ⟨(some 28), (some ((some 24), false)), .sh 1 (.t 27)⟩, 
  ⟨(some 29), (some ((some 24), false)), .ld none (.t 28)⟩, 
  ⟨(some 30), (some ((some 24), false)), .lens (.t 29) (pu (.call ⟨.builtin .len, #[(.tmp 29)], #[9]⟩) 3)⟩, 
  ⟨(some 31), (some ((some 24), false)), .bin .gtr false (.t 30) (.k (.sc (.int .i64 4096))) (pu (.binOp .gtr 3 (.tmp 30) (.const (.int .i64 4096)) 3) 4)⟩, 
  ⟨(some 32), none, .pick (.t 24) (.k (.sc (.bool true))) (.t 31)⟩, 
  ⟨(some 33), none, .mv (.t 32)⟩, 
  ⟨(some 34), (some ((some 33), false)), .mv (.t 0)⟩, 
  ⟨(some 35), (some ((some 33), false)), .mv (.t 4)⟩, 
  ⟨(some 36), (some ((some 33), false)), .ixs 6 (.t 34) (.t 35)⟩, 
  ⟨(some 37), (some ((some 33), false)), .sh 2 (.t 36)⟩, 
  ⟨(some 38), (some ((some 33), false)), .ld none (.t 37)⟩, 
  ⟨(some 39), (some ((some 33), false)), .lens (.t 38) (pu (.call ⟨.builtin .len, #[(.tmp 38)], #[9]⟩) 3)⟩, 
  ⟨(some 40), (some ((some 33), false)), .bin .gtr false (.t 39) (.k (.sc (.int .i64 4096))) (pu (.binOp .gtr 3 (.tmp 39) (.const (.int .i64 4096)) 3) 4)⟩, 
  ⟨(some 41), none, .pick (.t 33) (.k (.sc (.bool true))) (.t 40)⟩])
  (.cond (.t 41) (.seq (.reg [⟨(some 2), none, .mv (.k (.sc (.bool true)))⟩])
   .ret)
  .skip)))))
  (.reg [⟨(some 42), none, .bin .add false (.t 7) (.k (.sc (.int .i64 1))) (pu (.binOp .add 3 (.tmp 7) (.const (.int .i64 1)) 3) 3)⟩, 
  ⟨(some 7), none, .mv (.t 42)⟩])))))))
 (.seq (.reg [⟨(some 2), none, .mv (.k (.sc (.bool false)))⟩])
 .ret))))
def k8 : List Nat := [0, 2, 3, 4, 6, 7, 8, 41]
theorem ic8 : factsI Try.prog 8 = some (43, [.tmp 2], c8) := by kernel_rfl

-- chargenet/chargenetlaw45.exampleHolds (187 slots)
def c9 : IC :=
 (.seq (.reg [⟨(some 0), none, .mv (.k (.sc (.bool false)))⟩])
 (.seq (.reg [⟨(some 28), none, .call 28 [(.k (.sc (.string ⟨#[65]⟩)))]⟩, 
 ⟨(some 27), none, .mv (.t 28)⟩, 
 ⟨(some 29), none, .ext (.t 27) 0⟩, 
 ⟨(some 30), none, .ext (.t 27) 1⟩, 
 ⟨(some 1), none, .al (.agg [(.sc (.string ⟨#[]⟩)), (.sc (.slice none 0 0)), (.sc (.slice none 0 0)), (.sc (.int .i64 0))]) 4⟩, 
 ⟨none, none, .st 4 (.t 1) (.t 29)⟩, 
 ⟨(some 2), none, .mv (.t 30)⟩])
 (.seq (.reg [⟨(some 32), none, .call 28 [(.k (.sc (.string ⟨#[]⟩)))]⟩, 
 ⟨(some 31), none, .mv (.t 32)⟩, 
 ⟨(some 33), none, .ext (.t 31) 0⟩, 
 ⟨(some 34), none, .ext (.t 31) 1⟩, 
 ⟨(some 3), none, .al (.agg [(.sc (.string ⟨#[]⟩)), (.sc (.slice none 0 0)), (.sc (.slice none 0 0)), (.sc (.int .i64 0))]) 4⟩, 
 ⟨none, none, .st 4 (.t 3) (.t 33)⟩, 
 ⟨(some 4), none, .mv (.t 34)⟩])
 (.seq (.reg [⟨(some 35), none, .bld [(.sc (.int .i64 0)), (.sc (.string ⟨#[]⟩)), (.sc (.string ⟨#[]⟩)), (.sc (.int .i64 0)), (.sc (.bool false)), (.sc (.slice none 0 0))] [(0, 1, (.k (.sc (.int .i64 1)))), (1, 1, (.k (.sc (.string ⟨#[120]⟩)))), (2, 1, (.k (.sc (.string ⟨#[65]⟩)))), (3, 1, (.k (.sc (.int .i64 1))))]⟩, 
 ⟨(some 5), none, .al (.agg [(.sc (.int .i64 0)), (.sc (.string ⟨#[]⟩)), (.sc (.string ⟨#[]⟩)), (.sc (.int .i64 0)), (.sc (.bool false)), (.sc (.slice none 0 0))]) 6⟩, 
 ⟨none, none, .st 6 (.t 5) (.t 35)⟩])
 (.seq (.drw [0, 0, 0, 0, 13, 31] [⟨(some 36), none, .ld (some 6) (.t 5)⟩, 
 ⟨(some 37), none, .ld (some 6) (.t 5)⟩, 
 ⟨(some 6), none, .al (.agg [(.sc (.int .i64 0)), (.sc (.string ⟨#[]⟩)), (.sc (.string ⟨#[]⟩)), (.sc (.int .i64 0)), (.sc (.bool false)), (.sc (.slice none 0 0))]) 6⟩, 
 ⟨(some 7), none, .al (.agg [(.sc (.int .i64 0)), (.sc (.string ⟨#[]⟩)), (.sc (.string ⟨#[]⟩)), (.sc (.int .i64 0)), (.sc (.bool false)), (.sc (.slice none 0 0))]) 6⟩, 
 ⟨none, none, .st 6 (.t 6) (.t 36)⟩, 
 ⟨none, none, .st 6 (.t 7) (.t 37)⟩])
 (.seq (.reg [⟨(some 38), none, .sh 1 (.t 6)⟩, 
 ⟨none, none, .st 1 (.t 38) (.k (.sc (.string ⟨#[121]⟩)))⟩, 
 ⟨(some 39), none, .sh 3 (.t 7)⟩, 
 ⟨none, none, .st 1 (.t 39) (.k (.sc (.int .i64 2)))⟩])
 (.seq (.reg [⟨(some 41), none, .ld (some 4) (.t 1)⟩, 
 ⟨(some 42), none, .ld (some 6) (.t 5)⟩, 
 ⟨(some 43), none, .call 29 [(.t 41), (.t 42)]⟩, 
 ⟨(some 40), none, .mv (.t 43)⟩, 
 ⟨(some 44), none, .ext (.t 40) 0⟩, 
 ⟨(some 45), none, .ext (.t 40) 1⟩, 
 ⟨none, none, .st 4 (.t 1) (.t 44)⟩])
 (.seq (.reg [⟨(some 47), none, .ld (some 4) (.t 1)⟩, 
 ⟨(some 48), none, .ld (some 6) (.t 6)⟩, 
 ⟨(some 49), none, .call 29 [(.t 47), (.t 48)]⟩, 
 ⟨(some 46), none, .mv (.t 49)⟩, 
 ⟨(some 50), none, .ext (.t 46) 0⟩, 
 ⟨(some 51), none, .ext (.t 46) 1⟩, 
 ⟨none, none, .st 4 (.t 1) (.t 50)⟩])
 (.seq (.reg [⟨(some 53), none, .ld (some 4) (.t 1)⟩, 
 ⟨(some 54), none, .ld (some 6) (.t 7)⟩, 
 ⟨(some 55), none, .call 29 [(.t 53), (.t 54)]⟩, 
 ⟨(some 52), none, .mv (.t 55)⟩, 
 ⟨(some 56), none, .ext (.t 52) 0⟩, 
 ⟨(some 57), none, .ext (.t 52) 1⟩, 
 ⟨none, none, .st 4 (.t 1) (.t 56)⟩, 
 ⟨(some 8), none, .mv (.t 57)⟩])
 (.seq (.reg [⟨(some 59), none, .ld (some 4) (.t 1)⟩, 
 ⟨(some 60), none, .ld (some 6) (.t 7)⟩, 
 ⟨(some 61), none, .call 29 [(.t 59), (.t 60)]⟩, 
 ⟨(some 58), none, .mv (.t 61)⟩, 
 ⟨(some 62), none, .ext (.t 58) 0⟩, 
 ⟨(some 63), none, .ext (.t 58) 1⟩, 
 ⟨(some 9), none, .al (.agg [(.sc (.string ⟨#[]⟩)), (.sc (.slice none 0 0)), (.sc (.slice none 0 0)), (.sc (.int .i64 0))]) 4⟩, 
 ⟨none, none, .st 4 (.t 9) (.t 62)⟩, 
 ⟨(some 10), none, .mv (.t 63)⟩])
 (.seq (.reg [⟨(some 64), none, .ld (some 6) (.t 5)⟩, 
 ⟨(some 11), none, .al (.agg [(.sc (.int .i64 0)), (.sc (.string ⟨#[]⟩)), (.sc (.string ⟨#[]⟩)), (.sc (.int .i64 0)), (.sc (.bool false)), (.sc (.slice none 0 0))]) 6⟩, 
 ⟨none, none, .st 6 (.t 11) (.t 64)⟩])
 (.seq (.reg [⟨(some 65), none, .sh 2 (.t 11)⟩, 
 ⟨none, none, .st 1 (.t 65) (.k (.sc (.string ⟨#[66]⟩)))⟩])
 (.seq (.reg [⟨(some 67), none, .ld (some 4) (.t 1)⟩, 
 ⟨(some 68), none, .ld (some 6) (.t 11)⟩, 
 ⟨(some 69), none, .call 29 [(.t 67), (.t 68)]⟩, 
 ⟨(some 66), none, .mv (.t 69)⟩, 
 ⟨(some 70), none, .ext (.t 66) 0⟩, 
 ⟨(some 71), none, .ext (.t 66) 1⟩, 
 ⟨(some 12), none, .al (.agg [(.sc (.string ⟨#[]⟩)), (.sc (.slice none 0 0)), (.sc (.slice none 0 0)), (.sc (.int .i64 0))]) 4⟩, 
 ⟨none, none, .st 4 (.t 12) (.t 70)⟩, 
 ⟨(some 13), none, .mv (.t 71)⟩])
 (.seq (.reg [⟨(some 73), none, .ld (some 4) (.t 1)⟩, 
 ⟨(some 74), none, .call 14 [(.t 73), (.k (.sc (.int .i64 1))), (.k (.sc (.string ⟨#[65]⟩))), (.k (.sc (.string ⟨#[120]⟩)))]⟩, 
 ⟨(some 72), none, .mv (.t 74)⟩, 
 ⟨(some 75), none, .ext (.t 72) 0⟩, 
 ⟨(some 76), none, .ext (.t 72) 1⟩, 
 ⟨(some 14), none, .al (.agg [(.sc (.int .i64 0)), (.sc (.string ⟨#[]⟩)), (.sc (.string ⟨#[]⟩)), (.sc (.int .i64 0)), (.sc (.bool false)), (.sc (.slice none 0 0))]) 6⟩, 
 ⟨none, none, .st 6 (.t 14) (.t 75)⟩, 
 ⟨(some 15), none, .mv (.t 76)⟩])
 (.seq (.reg [⟨(some 78), none, .ld (some 4) (.t 1)⟩, 
 ⟨(some 79), none, .call 14 [(.t 78), (.k (.sc (.int .i64 2))), (.k (.sc (.string ⟨#[65]⟩))), (.k (.sc (.string ⟨#[120]⟩)))]⟩, 
 ⟨(some 77), none, .mv (.t 79)⟩, 
 ⟨(some 80), none, .ext (.t 77) 0⟩, 
 ⟨(some 81), none, .ext (.t 77) 1⟩, 
 ⟨(some 16), none, .al (.agg [(.sc (.int .i64 0)), (.sc (.string ⟨#[]⟩)), (.sc (.string ⟨#[]⟩)), (.sc (.int .i64 0)), (.sc (.bool false)), (.sc (.slice none 0 0))]) 6⟩, 
 ⟨none, none, .st 6 (.t 16) (.t 80)⟩, 
 ⟨(some 17), none, .mv (.t 81)⟩])
 (.seq (.reg [⟨(some 83), none, .ld (some 4) (.t 1)⟩, 
 ⟨(some 84), none, .call 16 [(.t 83), (.k (.sc (.int .i64 2)))]⟩, 
 ⟨(some 82), none, .mv (.t 84)⟩, 
 ⟨(some 85), none, .ext (.t 82) 0⟩, 
 ⟨(some 86), none, .ext (.t 82) 1⟩, 
 ⟨(some 18), none, .mv (.t 85)⟩, 
 ⟨(some 19), none, .mv (.t 86)⟩])
 (.seq (.reg [⟨(some 88), none, .ld (some 4) (.t 1)⟩, 
 ⟨(some 89), none, .call 16 [(.t 88), (.k (.sc (.int .i64 0)))]⟩, 
 ⟨(some 87), none, .mv (.t 89)⟩, 
 ⟨(some 90), none, .ext (.t 87) 0⟩, 
 ⟨(some 91), none, .ext (.t 87) 1⟩, 
 ⟨(some 20), none, .mv (.t 90)⟩, 
 ⟨(some 21), none, .mv (.t 91)⟩])
 (.seq (.reg [⟨(some 93), none, .call 28 [(.k (.sc (.string ⟨#[66]⟩)))]⟩, 
 ⟨(some 92), none, .mv (.t 93)⟩, 
 ⟨(some 94), none, .ext (.t 92) 0⟩, 
 ⟨(some 95), none, .ext (.t 92) 1⟩, 
 ⟨(some 22), none, .al (.agg [(.sc (.string ⟨#[]⟩)), (.sc (.slice none 0 0)), (.sc (.slice none 0 0)), (.sc (.int .i64 0))]) 4⟩, 
 ⟨none, none, .st 4 (.t 22) (.t 94)⟩, 
 ⟨(some 23), none, .mv (.t 95)⟩])
 (.seq (.reg [⟨(some 97), none, .ld (some 4) (.t 22)⟩, 
 ⟨(some 98), none, .mv (.t 20)⟩, 
 ⟨(some 99), none, .call 20 [(.t 97), (.t 98)]⟩, 
 ⟨(some 96), none, .mv (.t 99)⟩, 
 ⟨(some 100), none, .ext (.t 96) 0⟩, 
 ⟨(some 101), none, .ext (.t 96) 1⟩, 
 ⟨none, none, .st 4 (.t 22) (.t 100)⟩, 
 ⟨(some 24), none, .mv (.t 101)⟩])
 (.seq (.reg [⟨(some 103), none, .ld (some 4) (.t 22)⟩, 
 ⟨(some 104), none, .mv (.t 20)⟩, 
 ⟨(some 105), none, .call 20 [(.t 103), (.t 104)]⟩, 
 ⟨(some 102), none, .mv (.t 105)⟩, 
 ⟨(some 106), none, .ext (.t 102) 0⟩, 
 ⟨(some 107), none, .ext (.t 102) 1⟩, 
 ⟨(some 25), none, .al (.agg [(.sc (.string ⟨#[]⟩)), (.sc (.slice none 0 0)), (.sc (.slice none 0 0)), (.sc (.int .i64 0))]) 4⟩, 
 ⟨none, none, .st 4 (.t 25) (.t 106)⟩, 
 ⟨(some 26), none, .mv (.t 107)⟩])
 (.seq (.reg [⟨(some 108), none, .mv (.t 2)⟩, 
 ⟨(some 109), none, .bin .eql false (.t 108) (.k (.sc (.int .i64 0))) (pu (.binOp .eql 28 (.tmp 108) (.const (.int .i64 0)) 28) 4)⟩, 
 ⟨(some 110), none, .mv (.t 109)⟩, 
 ⟨(some 111), (some ((some 110), true)), .mv (.t 4)⟩, 
 ⟨(some 112), (some ((some 110), true)), .bin .eql false (.t 111) (.k (.sc (.int .i64 4))) (pu (.binOp .eql 28 (.tmp 111) (.const (.int .i64 4)) 28) 4)⟩, 
 ⟨(some 113), none, .pick (.t 110) (.t 112) (.k (.sc (.bool false)))⟩, 
 ⟨(some 114), none, .mv (.t 113)⟩, 
 ⟨(some 115), (some ((some 114), true)), .mv (.t 8)⟩, 
 ⟨(some 116), (some ((some 114), true)), .bin .eql false (.t 115) (.k (.sc (.int .i64 0))) (pu (.binOp .eql 28 (.tmp 115) (.const (.int .i64 0)) 28) 4)⟩, 
 ⟨(some 117), none, .pick (.t 114) (.t 116) (.k (.sc (.bool false)))⟩, 
 ⟨(some 118), none, .mv (.t 117)⟩, 
 ⟨(some 119), (some ((some 118), true)), .sh 1 (.t 1)⟩, 
 ⟨(some 120), (some ((some 118), true)), .ld none (.t 119)⟩, 
 ⟨(some 121), (some ((some 118), true)), .ld (some 6) (.t 6)⟩, 
 ⟨(some 122), (some ((some 118), true)), .ld (some 6) (.t 7)⟩, 
 ⟨(some 123), (some ((some 118), true)), .bsl 6 2 true [(.sc (.int .i64 0)), (.sc (.string ⟨#[]⟩)), (.sc (.string ⟨#[]⟩)), (.sc (.int .i64 0)), (.sc (.bool false)), (.sc (.slice none 0 0)), (.sc (.int .i64 0)), (.sc (.string ⟨#[]⟩)), (.sc (.string ⟨#[]⟩)), (.sc (.int .i64 0)), (.sc (.bool false)), (.sc (.slice none 0 0))] [(0, 6, (.t 121)), (6, 6, (.t 122))]⟩, 
 ⟨(some 124), (some ((some 118), true)), .call 19 [(.t 120), (.t 123)]⟩, 
 ⟨(some 125), none, .pick (.t 118) (.t 124) (.k (.sc (.bool false)))⟩, 
 ⟨(some 126), none, .mv (.t 125)⟩, 
 ⟨(some 127), (some ((some 126), true)), .sh 2 (.t 1)⟩, 
 ⟨(some 128), (some ((some 126), true)), .ld none (.t 127)⟩, 
 ⟨(some 129), (some ((some 126), true)), .bsl 1 2 false [(.sc (.int .i64 0)), (.sc (.int .i64 0))] [(0, 1, (.k (.sc (.int .i64 2)))), (1, 1, (.k (.sc (.int .i64 3))))]⟩, 
 ⟨(some 130), (some ((some 126), true)), .call 30 [(.t 128), (.t 129)]⟩, 
 ⟨(some 131), none, .pick (.t 126) (.t 130) (.k (.sc (.bool false)))⟩, 
 ⟨(some 132), none, .mv (.t 131)⟩, 
 ⟨(some 133), (some ((some 132), true)), .mv (.t 10)⟩, 
 ⟨(some 134), (some ((some 132), true)), .bin .eql false (.t 133) (.k (.sc (.int .i64 11))) (pu (.binOp .eql 28 (.tmp 133) (.const (.int .i64 11)) 28) 4)⟩, 
 ⟨(some 135), none, .pick (.t 132) (.t 134) (.k (.sc (.bool false)))⟩, 
 ⟨(some 136), none, .mv (.t 135)⟩, 
 ⟨(some 137), (some ((some 136), true)), .mv (.t 13)⟩, 
 ⟨(some 138), (some ((some 136), true)), .bin .eql false (.t 137) (.k (.sc (.int .i64 15))) (pu (.binOp .eql 28 (.tmp 137) (.const (.int .i64 15)) 28) 4)⟩, 
 ⟨(some 139), none, .pick (.t 136) (.t 138) (.k (.sc (.bool false)))⟩, 
 ⟨(some 140), none, .mv (.t 139)⟩, 
 ⟨(some 141), (some ((some 140), true)), .ld (some 6) (.t 14)⟩, 
 ⟨(some 142), (some ((some 140), true)), .ld (some 6) (.t 7)⟩, 
 ⟨(some 143), (some ((some 140), true)), .call 18 [(.t 141), (.t 142)]⟩, 
 ⟨(some 144), none, .pick (.t 140) (.t 143) (.k (.sc (.bool false)))⟩, 
 ⟨(some 145), none, .mv (.t 144)⟩, 
 ⟨(some 146), (some ((some 145), true)), .mv (.t 15)⟩, 
 ⟨(some 147), none, .pick (.t 145) (.t 146) (.k (.sc (.bool false)))⟩, 
 ⟨(some 148), none, .mv (.t 147)⟩, 
 ⟨(some 149), (some ((some 148), true)), .mv (.t 17)⟩, 
 ⟨(some 150), (some ((some 148), true)), .un .not (.t 149) (pu (.unOp .not 4 (.tmp 149)) 4)⟩, 
 ⟨(some 151), none, .pick (.t 148) (.t 150) (.k (.sc (.bool false)))⟩, 
 ⟨(some 152), none, .mv (.t 151)⟩, 
 ⟨(some 153), (some ((some 152), true)), .mv (.t 18)⟩, 
 ⟨(some 154), (some ((some 152), true)), .ld (some 6) (.t 7)⟩, 
 ⟨(some 155), (some ((some 152), true)), .bsl 6 1 true [(.sc (.int .i64 0)), (.sc (.string ⟨#[]⟩)), (.sc (.string ⟨#[]⟩)), (.sc (.int .i64 0)), (.sc (.bool false)), (.sc (.slice none 0 0))] [(0, 6, (.t 154))]⟩, 
 ⟨(some 156), (some ((some 152), true)), .call 19 [(.t 153), (.t 155)]⟩, 
 ⟨(some 157), none, .pick (.t 152) (.t 156) (.k (.sc (.bool false)))⟩, 
 ⟨(some 158), none, .mv (.t 157)⟩, 
 ⟨(some 159), (some ((some 158), true)), .mv (.t 19)⟩, 
 ⟨(some 160), (some ((some 158), true)), .bin .eql false (.t 159) (.k (.sc (.int .i64 3))) (pu (.binOp .eql 3 (.tmp 159) (.const (.int .i64 3)) 3) 4)⟩, 
 ⟨(some 161), none, .pick (.t 158) (.t 160) (.k (.sc (.bool false)))⟩, 
 ⟨(some 162), none, .mv (.t 161)⟩, 
 ⟨(some 163), (some ((some 162), true)), .mv (.t 20)⟩, 
 ⟨(some 164), (some ((some 162), true)), .ld (some 6) (.t 6)⟩, 
 ⟨(some 165), (some ((some 162), true)), .ld (some 6) (.t 7)⟩, 
 ⟨(some 166), (some ((some 162), true)), .bsl 6 2 true [(.sc (.int .i64 0)), (.sc (.string ⟨#[]⟩)), (.sc (.string ⟨#[]⟩)), (.sc (.int .i64 0)), (.sc (.bool false)), (.sc (.slice none 0 0)), (.sc (.int .i64 0)), (.sc (.string ⟨#[]⟩)), (.sc (.string ⟨#[]⟩)), (.sc (.int .i64 0)), (.sc (.bool false)), (.sc (.slice none 0 0))] [(0, 6, (.t 164)), (6, 6, (.t 165))]⟩, 
 ⟨(some 167), (some ((some 162), true)), .call 19 [(.t 163), (.t 166)]⟩, 
 ⟨(some 168), none, .pick (.t 162) (.t 167) (.k (.sc (.bool false)))⟩, 
 ⟨(some 169), none, .mv (.t 168)⟩, 
 ⟨(some 170), (some ((some 169), true)), .mv (.t 24)⟩, 
 ⟨(some 171), (some ((some 169), true)), .bin .eql false (.t 170) (.k (.sc (.int .i64 2))) (pu (.binOp .eql 3 (.tmp 170) (.const (.int .i64 2)) 3) 4)⟩, 
 ⟨(some 172), none, .pick (.t 169) (.t 171) (.k (.sc (.bool false)))⟩, 
 ⟨(some 173), none, .mv (.t 172)⟩, 
 ⟨(some 174), (some ((some 173), true)), .mv (.t 26)⟩, 
 ⟨(some 175), (some ((some 173), true)), .bin .eql false (.t 174) (.k (.sc (.int .i64 0))) (pu (.binOp .eql 3 (.tmp 174) (.const (.int .i64 0)) 3) 4)⟩, 
 ⟨(some 176), none, .pick (.t 173) (.t 175) (.k (.sc (.bool false)))⟩, 
 ⟨(some 177), none, .mv (.t 176)⟩, 
 ⟨(some 178), (some ((some 177), true)), .ld (some 4) (.t 1)⟩, 
 ⟨(some 179), (some ((some 177), true)), .call 10 [(.t 178)]⟩, 
 ⟨(some 180), (some ((some 177), true)), .bin .eql false (.t 179) (.k (.sc (.int .i64 0))) (pu (.binOp .eql 28 (.tmp 179) (.const (.int .i64 0)) 28) 4)⟩, 
 ⟨(some 181), none, .pick (.t 177) (.t 180) (.k (.sc (.bool false)))⟩, 
 ⟨(some 182), none, .mv (.t 181)⟩, 
 ⟨(some 183), (some ((some 182), true)), .bld [(.sc (.string ⟨#[]⟩)), (.sc (.slice none 0 0)), (.sc (.slice none 0 0)), (.sc (.int .i64 0))] [(0, 1, (.k (.sc (.string ⟨#[65]⟩))))]⟩, 
 ⟨(some 184), (some ((some 182), true)), .call 10 [(.t 183)]⟩, 
 ⟨(some 185), (some ((some 182), true)), .bin .eql false (.t 184) (.k (.sc (.int .i64 2))) (pu (.binOp .eql 28 (.tmp 184) (.const (.int .i64 2)) 28) 4)⟩, 
 ⟨(some 186), none, .pick (.t 182) (.t 185) (.k (.sc (.bool false)))⟩, 
 ⟨(some 0), none, .mv (.t 186)⟩])
 .ret)))))))))))))))))))))
def k9 : List Nat := [0, 1, 2, 4, 5, 6, 7, 8, 10, 11, 13, 14, 15, 17, 18, 19, 20, 22, 24, 26]
theorem ic9 : factsI Try.prog 9 = some (187, [.tmp 0], c9) := by kernel_rfl

-- chargenet/directory.Valid (86 slots)
def c10 : IC :=
 (.seq (.reg [⟨(some 1), none, .bx (.t 0)⟩, 
 ⟨(some 2), none, .mv (.k (.sc (.int .i64 0)))⟩])
 (.seq (.seq (.reg [⟨(some 8), none, .sh 0 (.t 1)⟩, 
 ⟨(some 9), none, .ld none (.t 8)⟩, 
 ⟨(some 10), none, .call 31 [(.t 9)]⟩, 
 ⟨(some 11), none, .un .not (.t 10) (pu (.unOp .not 4 (.tmp 10)) 4)⟩])
 (.cond (.t 11) (.seq (.reg [⟨(some 2), none, .mv (.k (.sc (.int .i64 4)))⟩])
  .ret)
 .skip))
 (.seq (.seq (.reg [⟨(some 12), none, .sh 2 (.t 1)⟩, 
 ⟨(some 13), none, .ld none (.t 12)⟩, 
 ⟨(some 14), none, .len (.t 13) (pu (.call ⟨.builtin .len, #[(.tmp 13)], #[23]⟩) 3)⟩, 
 ⟨(some 15), none, .sh 1 (.t 1)⟩, 
 ⟨(some 16), none, .ld none (.t 15)⟩, 
 ⟨(some 17), none, .len (.t 16) (pu (.call ⟨.builtin .len, #[(.tmp 16)], #[22]⟩) 3)⟩, 
 ⟨(some 18), none, .bin .neq false (.t 14) (.t 17) (pu (.binOp .neq 3 (.tmp 14) (.tmp 17) 3) 4)⟩])
 (.cond (.t 18) (.seq (.reg [⟨(some 2), none, .mv (.k (.sc (.int .i64 1)))⟩])
  .ret)
 .skip))
 (.seq (.seq (.reg [⟨(some 19), none, .sh 1 (.t 1)⟩, 
 ⟨(some 20), none, .ld none (.t 19)⟩, 
 ⟨(some 21), none, .len (.t 20) (pu (.call ⟨.builtin .len, #[(.tmp 20)], #[22]⟩) 3)⟩, 
 ⟨(some 22), none, .bin .gtr false (.t 21) (.k (.sc (.int .i64 256))) (pu (.binOp .gtr 3 (.tmp 21) (.const (.int .i64 256)) 3) 4)⟩])
 (.cond (.t 22) (.seq (.reg [⟨(some 2), none, .mv (.k (.sc (.int .i64 3)))⟩])
  .ret)
 .skip))
 (.seq (.reg [⟨(some 23), none, .sh 1 (.t 1)⟩, 
 ⟨(some 24), none, .ld none (.t 23)⟩, 
 ⟨(some 25), none, .len (.t 24) (pu (.call ⟨.builtin .len, #[(.tmp 24)], #[22]⟩) 3)⟩, 
 ⟨(some 26), none, .mmk (some (.t 25))⟩, 
 ⟨(some 3), none, .mv (.t 26)⟩])
 (.seq (.reg [⟨(some 4), none, .mv (.k (.sc (.int .i64 0)))⟩])
 (.seq (.seq (.reg [⟨(some 27), none, .sh 1 (.t 1)⟩, 
 ⟨(some 28), none, .ld none (.t 27)⟩, 
 ⟨(some 29), none, .len (.t 28) (pu (.call ⟨.builtin .len, #[(.tmp 28)], #[22]⟩) 3)⟩, 
 ⟨(some 30), none, .mv (.k (.sc (.int .i64 0)))⟩])
 (.block 0 (.loop (.seq (.reg [⟨(some 31), none, .bin .lss false (.t 30) (.t 29) (pu (.binOp .lss 3 (.tmp 30) (.tmp 29) 3) 0)⟩])
  (.seq (.cond (.t 31) .skip
  (.exit 0))
  (.seq (.block 1 (.seq (.reg [⟨(some 32), none, .mv (.t 30)⟩, 
  ⟨(some 33), none, .ixs 6 (.t 28) (.t 30)⟩, 
  ⟨(some 34), none, .ld (some 6) (.t 33)⟩, 
  ⟨(some 6), none, .al (.agg [(.sc (.int .i64 0)), (.sc (.string ⟨#[]⟩)), (.sc (.string ⟨#[]⟩)), (.sc (.int .i64 0)), (.sc (.bool false)), (.sc (.slice none 0 0))]) 6⟩, 
  ⟨(some 5), none, .mv (.t 32)⟩, 
  ⟨none, none, .st 6 (.t 6) (.t 34)⟩])
  (.seq (.seq (.reg [⟨(some 35), none, .ld (some 6) (.t 6)⟩, 
  ⟨(some 36), none, .call 32 [(.t 35)]⟩, 
  ⟨(some 7), none, .mv (.t 36)⟩])
  (.seq (.reg [⟨(some 37), none, .mv (.t 7)⟩, 
  ⟨(some 38), none, .bin .neq false (.t 37) (.k (.sc (.int .i64 0))) (pu (.binOp .neq 28 (.tmp 37) (.const (.int .i64 0)) 28) 4)⟩])
  (.cond (.t 38) (.seq (.reg [⟨(some 39), none, .mv (.t 7)⟩, 
   ⟨(some 2), none, .mv (.t 39)⟩])
   .ret)
  .skip)))
  (.seq (.seq (.reg [⟨(some 40), none, .mv (.t 3)⟩, 
  ⟨(some 41), none, .ld (some 6) (.t 6)⟩, 
  ⟨(some 42), none, .call 33 [(.t 41)]⟩, 
  ⟨(some 43), none, .mlk true [(.i .i64), .s, .s] (.sc (.bool false)) false (.t 40) (.t 42) (pu (.lookup 64 (.tmp 40) (.tmp 42) false) 4)⟩])
  (.cond (.t 43) (.seq (.reg [⟨(some 2), none, .mv (.k (.sc (.int .i64 9)))⟩])
   .ret)
  .skip))
  (.seq (.reg [⟨(some 44), none, .mv (.t 3)⟩, 
  ⟨(some 45), none, .ld (some 6) (.t 6)⟩, 
  ⟨(some 46), none, .call 33 [(.t 45)]⟩, 
  ⟨none, none, .mpt true [(.i .i64), .s, .s] (.t 44) (.t 46) (.k (.sc (.bool true)))⟩])
  (.seq (.seq (.drw [0, 1, 0, 7, 15, 31, 63, 127, 255, 127, 1023, 2047, 127, 8191, 16383, 32767, 65535, 131071, 65535, 524287, 1048575, 65535, 2162687, 8388607, 16777215] [⟨(some 47), none, .sh 2 (.t 1)⟩, 
  ⟨(some 48), none, .ld none (.t 47)⟩, 
  ⟨(some 49), none, .mv (.t 5)⟩, 
  ⟨(some 50), none, .ixs 1 (.t 48) (.t 49)⟩, 
  ⟨(some 51), none, .ld none (.t 50)⟩, 
  ⟨(some 52), none, .bin .lss false (.t 51) (.k (.sc (.int .i64 1))) (pu (.binOp .lss 3 (.tmp 51) (.const (.int .i64 1)) 3) 4)⟩, 
  ⟨(some 53), none, .mv (.t 52)⟩, 
  ⟨(some 54), (some ((some 53), false)), .sh 2 (.t 1)⟩, 
  ⟨(some 55), (some ((some 53), false)), .ld none (.t 54)⟩, 
  ⟨(some 56), (some ((some 53), false)), .mv (.t 5)⟩, 
  ⟨(some 57), (some ((some 53), false)), .ixs 1 (.t 55) (.t 56)⟩, 
  ⟨(some 58), (some ((some 53), false)), .ld none (.t 57)⟩, 
  ⟨(some 59), (some ((some 53), false)), .mv (.t 4)⟩, 
  ⟨(some 60), (some ((some 53), false)), .bin .leq false (.t 58) (.t 59) (pu (.binOp .leq 3 (.tmp 58) (.tmp 59) 3) 4)⟩, 
  ⟨(some 61), none, .pick (.t 53) (.k (.sc (.bool true))) (.t 60)⟩, 
  ⟨(some 62), none, .mv (.t 61)⟩, 
  ⟨(some 63), (some ((some 62), false)), .sh 2 (.t 1)⟩, 
  ⟨(some 64), (some ((some 62), false)), .ld none (.t 63)⟩, 
  ⟨(some 65), (some ((some 62), false)), .mv (.t 5)⟩, 
  ⟨(some 66), (some ((some 62), false)), .ixs 1 (.t 64) (.t 65)⟩, 
  ⟨(some 67), (some ((some 62), false)), .ld none (.t 66)⟩, 
  ⟨(some 68), (some ((some 62), false)), .sh 3 (.t 1)⟩, 
  ⟨(some 69), (some ((some 62), false)), .ld none (.t 68)⟩, 
  ⟨(some 70), (some ((some 62), false)), .bin .geq false (.t 67) (.t 69) (pu (.binOp .geq 3 (.tmp 67) (.tmp 69) 3) 4)⟩, 
  ⟨(some 71), none, .pick (.t 62) (.k (.sc (.bool true))) (.t 70)⟩])
  (.cond (.t 71) (.seq (.reg [⟨(some 2), none, .mv (.k (.sc (.int .i64 1)))⟩])
   .ret)
  .skip))
  (.reg [⟨(some 72), none, .sh 2 (.t 1)⟩, 
  ⟨(some 73), none, .ld none (.t 72)⟩, 
  ⟨(some 74), none, .mv (.t 5)⟩, 
  ⟨(some 75), none, .ixs 1 (.t 73) (.t 74)⟩, 
  ⟨(some 76), none, .ld none (.t 75)⟩, 
  ⟨(some 4), none, .mv (.t 76)⟩])))))))
  (.reg [⟨(some 77), none, .bin .add false (.t 30) (.k (.sc (.int .i64 1))) (pu (.binOp .add 3 (.tmp 30) (.const (.int .i64 1)) 3) 3)⟩, 
  ⟨(some 30), none, .mv (.t 77)⟩])))))))
 (.seq (.seq (.reg [⟨(some 78), none, .sh 3 (.t 1)⟩, 
 ⟨(some 79), none, .ld none (.t 78)⟩, 
 ⟨(some 80), none, .bin .lss false (.t 79) (.k (.sc (.int .i64 1))) (pu (.binOp .lss 3 (.tmp 79) (.const (.int .i64 1)) 3) 4)⟩, 
 ⟨(some 81), none, .mv (.t 80)⟩, 
 ⟨(some 82), (some ((some 81), false)), .sh 3 (.t 1)⟩, 
 ⟨(some 83), (some ((some 81), false)), .ld none (.t 82)⟩, 
 ⟨(some 84), (some ((some 81), false)), .bin .gtr false (.t 83) (.k (.sc (.int .i64 4611686018427387904))) (pu (.binOp .gtr 3 (.tmp 83) (.const (.int .i64 4611686018427387904)) 3) 4)⟩, 
 ⟨(some 85), none, .pick (.t 81) (.k (.sc (.bool true))) (.t 84)⟩])
 (.cond (.t 85) (.seq (.reg [⟨(some 2), none, .mv (.k (.sc (.int .i64 2)))⟩])
  .ret)
 .skip))
 (.seq (.reg [⟨(some 2), none, .mv (.k (.sc (.int .i64 0)))⟩])
 .ret)))))))))
def k10 : List Nat := [0, 1, 2, 3, 4, 5, 6, 7, 11, 18, 22, 28, 29, 30, 31, 38, 43, 71, 85]
theorem ic10 : factsI Try.prog 10 = some (86, [.tmp 2], c10) := by kernel_rfl

-- chargenet/chargenetref45.Valid (90 slots)
def c11 : IC :=
 (.seq (.reg [⟨(some 1), none, .bx (.t 0)⟩, 
 ⟨(some 2), none, .mv (.k (.sc (.int .i64 0)))⟩])
 (.seq (.seq (.reg [⟨(some 6), none, .sh 0 (.t 1)⟩, 
 ⟨(some 7), none, .ld none (.t 6)⟩, 
 ⟨(some 8), none, .call 34 [(.t 7)]⟩, 
 ⟨(some 9), none, .un .not (.t 8) (pu (.unOp .not 4 (.tmp 8)) 4)⟩])
 (.cond (.t 9) (.seq (.reg [⟨(some 2), none, .mv (.k (.sc (.int .i64 4)))⟩])
  .ret)
 .skip))
 (.seq (.seq (.reg [⟨(some 10), none, .sh 2 (.t 1)⟩, 
 ⟨(some 11), none, .ld none (.t 10)⟩, 
 ⟨(some 12), none, .len (.t 11) (pu (.call ⟨.builtin .len, #[(.tmp 11)], #[23]⟩) 3)⟩, 
 ⟨(some 13), none, .sh 1 (.t 1)⟩, 
 ⟨(some 14), none, .ld none (.t 13)⟩, 
 ⟨(some 15), none, .len (.t 14) (pu (.call ⟨.builtin .len, #[(.tmp 14)], #[22]⟩) 3)⟩, 
 ⟨(some 16), none, .bin .neq false (.t 12) (.t 15) (pu (.binOp .neq 3 (.tmp 12) (.tmp 15) 3) 4)⟩])
 (.cond (.t 16) (.seq (.reg [⟨(some 2), none, .mv (.k (.sc (.int .i64 1)))⟩])
  .ret)
 .skip))
 (.seq (.seq (.reg [⟨(some 17), none, .sh 1 (.t 1)⟩, 
 ⟨(some 18), none, .ld none (.t 17)⟩, 
 ⟨(some 19), none, .len (.t 18) (pu (.call ⟨.builtin .len, #[(.tmp 18)], #[22]⟩) 3)⟩, 
 ⟨(some 20), none, .bin .gtr false (.t 19) (.k (.sc (.int .i64 256))) (pu (.binOp .gtr 3 (.tmp 19) (.const (.int .i64 256)) 3) 4)⟩])
 (.cond (.t 20) (.seq (.reg [⟨(some 2), none, .mv (.k (.sc (.int .i64 3)))⟩])
  .ret)
 .skip))
 (.seq (.seq (.reg [⟨(some 3), none, .mv (.k (.sc (.int .i64 0)))⟩])
 (.block 0 (.loop (.seq (.seq (.reg [⟨(some 21), none, .mv (.t 3)⟩, 
  ⟨(some 22), none, .sh 1 (.t 1)⟩, 
  ⟨(some 23), none, .ld none (.t 22)⟩, 
  ⟨(some 24), none, .len (.t 23) (pu (.call ⟨.builtin .len, #[(.tmp 23)], #[22]⟩) 3)⟩, 
  ⟨(some 25), none, .bin .lss false (.t 21) (.t 24) (pu (.binOp .lss 3 (.tmp 21) (.tmp 24) 3) 4)⟩])
  (.cond (.t 25) .skip
  (.exit 0)))
  (.seq (.block 1 (.seq (.reg [⟨(some 28), none, .sh 1 (.t 1)⟩, 
  ⟨(some 29), none, .ld none (.t 28)⟩, 
  ⟨(some 30), none, .mv (.t 3)⟩, 
  ⟨(some 31), none, .ixs 6 (.t 29) (.t 30)⟩, 
  ⟨(some 32), none, .ld (some 6) (.t 31)⟩, 
  ⟨(some 4), none, .al (.agg [(.sc (.int .i64 0)), (.sc (.string ⟨#[]⟩)), (.sc (.string ⟨#[]⟩)), (.sc (.int .i64 0)), (.sc (.bool false)), (.sc (.slice none 0 0))]) 6⟩, 
  ⟨none, none, .st 6 (.t 4) (.t 32)⟩])
  (.seq (.seq (.reg [⟨(some 33), none, .ld (some 6) (.t 4)⟩, 
  ⟨(some 34), none, .call 35 [(.t 33)]⟩, 
  ⟨(some 5), none, .mv (.t 34)⟩])
  (.seq (.reg [⟨(some 35), none, .mv (.t 5)⟩, 
  ⟨(some 36), none, .bin .neq false (.t 35) (.k (.sc (.int .i64 0))) (pu (.binOp .neq 28 (.tmp 35) (.const (.int .i64 0)) 28) 4)⟩])
  (.cond (.t 36) (.seq (.reg [⟨(some 37), none, .mv (.t 5)⟩, 
   ⟨(some 2), none, .mv (.t 37)⟩])
   .ret)
  .skip)))
  (.seq (.seq (.reg [⟨(some 38), none, .ld (some 4) (.t 1)⟩, 
  ⟨(some 39), none, .mv (.t 3)⟩, 
  ⟨(some 40), none, .sh 0 (.t 4)⟩, 
  ⟨(some 41), none, .ld none (.t 40)⟩, 
  ⟨(some 42), none, .sh 2 (.t 4)⟩, 
  ⟨(some 43), none, .ld none (.t 42)⟩, 
  ⟨(some 44), none, .sh 1 (.t 4)⟩, 
  ⟨(some 45), none, .ld none (.t 44)⟩, 
  ⟨(some 46), none, .call 36 [(.t 38), (.t 39), (.t 41), (.t 43), (.t 45)]⟩, 
  ⟨(some 47), none, .bin .geq false (.t 46) (.k (.sc (.int .i64 0))) (pu (.binOp .geq 3 (.tmp 46) (.const (.int .i64 0)) 3) 4)⟩])
  (.cond (.t 47) (.seq (.reg [⟨(some 2), none, .mv (.k (.sc (.int .i64 9)))⟩])
   .ret)
  .skip))
  (.seq (.drw [0, 1, 0, 7, 15, 31, 63, 127, 255, 511, 1023, 2047, 1023, 8191, 16383, 1023, 33791, 1023, 132095, 492543, 1016831, 2097151, 4194303, 8388607, 16777215, 33554431, 67108863, 33554431, 268435455, 536870911, 33554431, 1107296255, 4294967295, 8589934591] [⟨(some 48), none, .sh 2 (.t 1)⟩, 
  ⟨(some 49), none, .ld none (.t 48)⟩, 
  ⟨(some 50), none, .mv (.t 3)⟩, 
  ⟨(some 51), none, .ixs 1 (.t 49) (.t 50)⟩, 
  ⟨(some 52), none, .ld none (.t 51)⟩, 
  ⟨(some 53), none, .bin .lss false (.t 52) (.k (.sc (.int .i64 1))) (pu (.binOp .lss 3 (.tmp 52) (.const (.int .i64 1)) 3) 4)⟩, 
  ⟨(some 54), none, .mv (.t 53)⟩, 
  ⟨(some 55), (some ((some 54), false)), .mv (.t 3)⟩, 
  ⟨(some 56), (some ((some 54), false)), .bin .gtr false (.t 55) (.k (.sc (.int .i64 0))) (pu (.binOp .gtr 3 (.tmp 55) (.const (.int .i64 0)) 3) 4)⟩, 
  ⟨(some 57), (some ((some 54), false)), .mv (.t 56)⟩, 
  ⟨(some 58), (some ((some 57), true)), .sh 2 (.t 1)⟩, 
  ⟨(some 59), (some ((some 57), true)), .ld none (.t 58)⟩, 
  ⟨(some 60), (some ((some 57), true)), .mv (.t 3)⟩, 
  ⟨(some 61), (some ((some 57), true)), .ixs 1 (.t 59) (.t 60)⟩, 
  ⟨(some 62), (some ((some 57), true)), .ld none (.t 61)⟩, 
  ⟨(some 63), (some ((some 57), true)), .sh 2 (.t 1)⟩, 
  ⟨(some 64), (some ((some 57), true)), .ld none (.t 63)⟩, 
  ⟨(some 65), (some ((some 57), true)), .mv (.t 3)⟩, 
  ⟨(some 66), (some ((some 57), true)), .bin .sub false (.t 65) (.k (.sc (.int .i64 1))) (pu (.binOp .sub 3 (.tmp 65) (.const (.int .i64 1)) 3) 3)⟩, 
  ⟨(some 67), (some ((some 57), true)), .ixs 1 (.t 64) (.t 66)⟩, 
  ⟨(some 68), (some ((some 57), true)), .ld none (.t 67)⟩, 
  ⟨(some 69), (some ((some 57), true)), .bin .leq false (.t 62) (.t 68) (pu (.binOp .leq 3 (.tmp 62) (.tmp 68) 3) 4)⟩, 
  ⟨(some 70), (some ((some 54), false)), .pick (.t 57) (.t 69) (.k (.sc (.bool false)))⟩, 
  ⟨(some 71), none, .pick (.t 54) (.k (.sc (.bool true))) (.t 70)⟩, 
  ⟨(some 72), none, .mv (.t 71)⟩, 
  ⟨(some 73), (some ((some 72), false)), .sh 2 (.t 1)⟩, 
  ⟨(some 74), (some ((some 72), false)), .ld none (.t 73)⟩, 
  ⟨(some 75), (some ((some 72), false)), .mv (.t 3)⟩, 
  ⟨(some 76), (some ((some 72), false)), .ixs 1 (.t 74) (.t 75)⟩, 
  ⟨(some 77), (some ((some 72), false)), .ld none (.t 76)⟩, 
  ⟨(some 78), (some ((some 72), false)), .sh 3 (.t 1)⟩, 
  ⟨(some 79), (some ((some 72), false)), .ld none (.t 78)⟩, 
  ⟨(some 80), (some ((some 72), false)), .bin .geq false (.t 77) (.t 79) (pu (.binOp .geq 3 (.tmp 77) (.tmp 79) 3) 4)⟩, 
  ⟨(some 81), none, .pick (.t 72) (.k (.sc (.bool true))) (.t 80)⟩])
  (.cond (.t 81) (.seq (.reg [⟨(some 2), none, .mv (.k (.sc (.int .i64 1)))⟩])
   .ret)
  .skip))))))
  (.reg [⟨(some 26), none, .mv (.t 3)⟩, 
  ⟨(some 27), none, .bin .add false (.t 26) (.k (.sc (.int .i64 1))) (pu (.binOp .add 3 (.tmp 26) (.const (.int .i64 1)) 3) 3)⟩, 
  ⟨(some 3), none, .mv (.t 27)⟩]))))))
 (.seq (.seq (.reg [⟨(some 82), none, .sh 3 (.t 1)⟩, 
 ⟨(some 83), none, .ld none (.t 82)⟩, 
 ⟨(some 84), none, .bin .lss false (.t 83) (.k (.sc (.int .i64 1))) (pu (.binOp .lss 3 (.tmp 83) (.const (.int .i64 1)) 3) 4)⟩, 
 ⟨(some 85), none, .mv (.t 84)⟩, 
 ⟨(some 86), (some ((some 85), false)), .sh 3 (.t 1)⟩, 
 ⟨(some 87), (some ((some 85), false)), .ld none (.t 86)⟩, 
 ⟨(some 88), (some ((some 85), false)), .bin .gtr false (.t 87) (.k (.sc (.int .i64 4611686018427387904))) (pu (.binOp .gtr 3 (.tmp 87) (.const (.int .i64 4611686018427387904)) 3) 4)⟩, 
 ⟨(some 89), none, .pick (.t 85) (.k (.sc (.bool true))) (.t 88)⟩])
 (.cond (.t 89) (.seq (.reg [⟨(some 2), none, .mv (.k (.sc (.int .i64 2)))⟩])
  .ret)
 .skip))
 (.seq (.reg [⟨(some 2), none, .mv (.k (.sc (.int .i64 0)))⟩])
 .ret)))))))
def k11 : List Nat := [0, 1, 2, 3, 4, 5, 9, 16, 20, 25, 36, 47, 81, 89]
theorem ic11 : factsI Try.prog 11 = some (90, [.tmp 2], c11) := by kernel_rfl

-- chargenet/chargenetlaw45.long (31 slots)
def c12 : IC :=
 (.seq (.reg [⟨(some 2), none, .mv (.k (.sc (.bool false)))⟩])
 (.seq (.reg [⟨(some 3), none, .mv (.k (.sc (.int .i64 0)))⟩])
 (.seq (.seq (.reg [⟨(some 5), none, .mv (.t 0)⟩, 
 ⟨(some 6), none, .len (.t 5) (pu (.call ⟨.builtin .len, #[(.tmp 5)], #[31]⟩) 3)⟩, 
 ⟨(some 7), none, .mv (.k (.sc (.int .i64 0)))⟩])
 (.block 0 (.loop (.seq (.reg [⟨(some 8), none, .bin .lss false (.t 7) (.t 6) (pu (.binOp .lss 3 (.tmp 7) (.tmp 6) 3) 0)⟩])
  (.seq (.cond (.t 8) .skip
  (.exit 0))
  (.seq (.block 1 (.seq (.reg [⟨(some 9), none, .mv (.t 7)⟩, 
  ⟨(some 4), none, .mv (.t 9)⟩])
  (.seq (.seq (.reg [⟨(some 10), none, .mv (.t 4)⟩, 
  ⟨(some 11), none, .bin .geq false (.t 10) (.k (.sc (.int .i64 100))) (pu (.binOp .geq 3 (.tmp 10) (.const (.int .i64 100)) 3) 4)⟩, 
  ⟨(some 12), none, .mv (.t 11)⟩, 
  ⟨(some 13), (some ((some 12), false)), .mv (.t 0)⟩, 
  ⟨(some 14), (some ((some 12), false)), .mv (.t 4)⟩, 
  ⟨(some 15), (some ((some 12), false)), .ixs 2 (.t 13) (.t 14)⟩, 
  ⟨(some 16), (some ((some 12), false)), .sh 1 (.t 15)⟩, 
  ⟨(some 17), (some ((some 12), false)), .ld none (.t 16)⟩, 
  ⟨(some 18), (some ((some 12), false)), .call 8 [(.t 17)]⟩, 
  ⟨(some 19), none, .pick (.t 12) (.k (.sc (.bool true))) (.t 18)⟩])
  (.cond (.t 19) (.seq (.reg [⟨(some 2), none, .mv (.k (.sc (.bool true)))⟩])
   .ret)
  .skip))
  (.reg [⟨(some 20), none, .mv (.t 3)⟩, 
  ⟨(some 21), none, .mv (.t 0)⟩, 
  ⟨(some 22), none, .mv (.t 4)⟩, 
  ⟨(some 23), none, .ixs 2 (.t 21) (.t 22)⟩, 
  ⟨(some 24), none, .sh 1 (.t 23)⟩, 
  ⟨(some 25), none, .ld none (.t 24)⟩, 
  ⟨(some 26), none, .len (.t 25) (pu (.call ⟨.builtin .len, #[(.tmp 25)], #[22]⟩) 3)⟩, 
  ⟨(some 27), none, .bin .add false (.t 20) (.t 26) (pu (.binOp .add 3 (.tmp 20) (.tmp 26) 3) 3)⟩, 
  ⟨(some 3), none, .mv (.t 27)⟩]))))
  (.reg [⟨(some 28), none, .bin .add false (.t 7) (.k (.sc (.int .i64 1))) (pu (.binOp .add 3 (.tmp 7) (.const (.int .i64 1)) 3) 3)⟩, 
  ⟨(some 7), none, .mv (.t 28)⟩])))))))
 (.seq (.reg [⟨(some 29), none, .mv (.t 3)⟩, 
 ⟨(some 30), none, .bin .gtr false (.t 29) (.k (.sc (.int .i64 600))) (pu (.binOp .gtr 3 (.tmp 29) (.const (.int .i64 600)) 3) 4)⟩, 
 ⟨(some 2), none, .mv (.t 30)⟩])
 .ret))))
def k12 : List Nat := [0, 2, 3, 4, 6, 7, 8, 19]
theorem ic12 : factsI Try.prog 12 = some (31, [.tmp 2], c12) := by kernel_rfl

-- chargenet/chargenetlaw45.play (35 slots)
def c13 : IC :=
 (.seq (.reg [⟨(some 4), none, .al (.agg [(.sc (.string ⟨#[]⟩)), (.sc (.slice none 0 0)), (.sc (.slice none 0 0)), (.sc (.int .i64 0))]) 4⟩, 
 ⟨(some 5), none, .mv (.k (.sc (.bool false)))⟩])
 (.seq (.reg [⟨(some 10), none, .mv (.t 0)⟩, 
 ⟨(some 11), none, .call 28 [(.t 10)]⟩, 
 ⟨(some 9), none, .mv (.t 11)⟩, 
 ⟨(some 12), none, .ext (.t 9) 0⟩, 
 ⟨(some 13), none, .ext (.t 9) 1⟩, 
 ⟨(some 6), none, .al (.agg [(.sc (.string ⟨#[]⟩)), (.sc (.slice none 0 0)), (.sc (.slice none 0 0)), (.sc (.int .i64 0))]) 4⟩, 
 ⟨none, none, .st 4 (.t 6) (.t 12)⟩, 
 ⟨(some 7), none, .mv (.t 13)⟩])
 (.seq (.seq (.reg [⟨(some 14), none, .mv (.t 1)⟩, 
 ⟨(some 15), none, .len (.t 14) (pu (.call ⟨.builtin .len, #[(.tmp 14)], #[31]⟩) 3)⟩, 
 ⟨(some 16), none, .mv (.k (.sc (.int .i64 0)))⟩])
 (.block 0 (.loop (.seq (.reg [⟨(some 17), none, .bin .lss false (.t 16) (.t 15) (pu (.binOp .lss 3 (.tmp 16) (.tmp 15) 3) 0)⟩])
  (.seq (.cond (.t 17) .skip
  (.exit 0))
  (.seq (.block 1 (.seq (.reg [⟨(some 18), none, .mv (.t 16)⟩, 
  ⟨(some 8), none, .mv (.t 18)⟩])
  (.seq (.reg [⟨(some 19), none, .mv (.t 7)⟩, 
  ⟨(some 20), none, .bin .eql false (.t 19) (.k (.sc (.int .i64 0))) (pu (.binOp .eql 28 (.tmp 19) (.const (.int .i64 0)) 28) 4)⟩])
  (.cond (.t 20) (.drw [0, 0, 0, 6, 14, 31, 63, 127, 127, 127, 255] [⟨(some 22), none, .ld (some 4) (.t 6)⟩, 
   ⟨(some 23), none, .mv (.t 1)⟩, 
   ⟨(some 24), none, .mv (.t 8)⟩, 
   ⟨(some 25), none, .ixs 2 (.t 23) (.t 24)⟩, 
   ⟨(some 26), none, .ld (some 2) (.t 25)⟩, 
   ⟨(some 27), none, .call 22 [(.t 22), (.t 26)]⟩, 
   ⟨(some 21), none, .mv (.t 27)⟩, 
   ⟨(some 28), none, .ext (.t 21) 0⟩, 
   ⟨(some 29), none, .ext (.t 21) 1⟩, 
   ⟨(some 30), none, .ext (.t 21) 2⟩, 
   ⟨none, none, .st 4 (.t 6) (.t 28)⟩])
  .skip))))
  (.reg [⟨(some 31), none, .bin .add false (.t 16) (.k (.sc (.int .i64 1))) (pu (.binOp .add 3 (.tmp 16) (.const (.int .i64 1)) 3) 3)⟩, 
  ⟨(some 16), none, .mv (.t 31)⟩])))))))
 (.seq (.reg [⟨(some 32), none, .ld (some 4) (.t 6)⟩, 
 ⟨(some 33), none, .mv (.t 7)⟩, 
 ⟨(some 34), none, .bin .eql false (.t 33) (.k (.sc (.int .i64 0))) (pu (.binOp .eql 28 (.tmp 33) (.const (.int .i64 0)) 28) 4)⟩, 
 ⟨none, none, .st 4 (.t 4) (.t 32)⟩, 
 ⟨(some 5), none, .mv (.t 34)⟩])
 .ret))))
def k13 : List Nat := [0, 1, 4, 5, 6, 7, 8, 15, 16, 17, 20]
theorem ic13 : factsI Try.prog 13 = some (35, [.cell 4 25, .tmp 5], c13) := by kernel_rfl

-- chargenet/directory.Find (32 slots)
def c14 : IC :=
 (.seq (.reg [⟨(some 4), none, .bx (.t 0)⟩, 
 ⟨(some 8), none, .al (.agg [(.sc (.int .i64 0)), (.sc (.string ⟨#[]⟩)), (.sc (.string ⟨#[]⟩)), (.sc (.int .i64 0)), (.sc (.bool false)), (.sc (.slice none 0 0))]) 6⟩, 
 ⟨(some 9), none, .mv (.k (.sc (.bool false)))⟩])
 (.seq (.reg [⟨(some 13), none, .mv (.t 1)⟩, 
 ⟨(some 14), none, .mv (.t 2)⟩, 
 ⟨(some 15), none, .mv (.t 3)⟩, 
 ⟨(some 16), none, .bld [(.sc (.int .i64 0)), (.sc (.string ⟨#[]⟩)), (.sc (.string ⟨#[]⟩))] [(0, 1, (.t 13)), (1, 1, (.t 14)), (2, 1, (.t 15))]⟩, 
 ⟨(some 10), none, .al (.agg [(.sc (.int .i64 0)), (.sc (.string ⟨#[]⟩)), (.sc (.string ⟨#[]⟩))]) 3⟩, 
 ⟨none, none, .st 3 (.t 10) (.t 16)⟩])
 (.seq (.seq (.reg [⟨(some 17), none, .sh 1 (.t 4)⟩, 
 ⟨(some 18), none, .ld none (.t 17)⟩, 
 ⟨(some 19), none, .len (.t 18) (pu (.call ⟨.builtin .len, #[(.tmp 18)], #[22]⟩) 3)⟩, 
 ⟨(some 20), none, .mv (.k (.sc (.int .i64 0)))⟩])
 (.block 0 (.loop (.seq (.reg [⟨(some 21), none, .bin .lss false (.t 20) (.t 19) (pu (.binOp .lss 3 (.tmp 20) (.tmp 19) 3) 0)⟩])
  (.seq (.cond (.t 21) .skip
  (.exit 0))
  (.seq (.block 1 (.seq (.reg [⟨(some 22), none, .ixs 6 (.t 18) (.t 20)⟩, 
  ⟨(some 23), none, .ld (some 6) (.t 22)⟩, 
  ⟨(some 12), none, .al (.agg [(.sc (.int .i64 0)), (.sc (.string ⟨#[]⟩)), (.sc (.string ⟨#[]⟩)), (.sc (.int .i64 0)), (.sc (.bool false)), (.sc (.slice none 0 0))]) 6⟩, 
  ⟨none, none, .st 6 (.t 12) (.t 23)⟩])
  (.seq (.drw [0, 1, 0, 7] [⟨(some 24), none, .ld (some 6) (.t 12)⟩, 
  ⟨(some 25), none, .call 33 [(.t 24)]⟩, 
  ⟨(some 26), none, .ld (some 3) (.t 10)⟩, 
  ⟨(some 27), none, .bin .eql false (.t 25) (.t 26) (pu (.binOp .eql 67 (.tmp 25) (.tmp 26) 67) 4)⟩])
  (.cond (.t 27) (.seq (.reg [⟨(some 28), none, .ld (some 6) (.t 12)⟩, 
   ⟨(some 29), none, .call 37 [(.t 28)]⟩, 
   ⟨none, none, .st 6 (.t 8) (.t 29)⟩, 
   ⟨(some 9), none, .mv (.k (.sc (.bool true)))⟩])
   .ret)
  .skip))))
  (.reg [⟨(some 30), none, .bin .add false (.t 20) (.k (.sc (.int .i64 1))) (pu (.binOp .add 3 (.tmp 20) (.const (.int .i64 1)) 3) 3)⟩, 
  ⟨(some 20), none, .mv (.t 30)⟩])))))))
 (.seq (.reg [⟨(some 31), none, .bld [(.sc (.int .i64 0)), (.sc (.string ⟨#[]⟩)), (.sc (.string ⟨#[]⟩)), (.sc (.int .i64 0)), (.sc (.bool false)), (.sc (.slice none 0 0))] []⟩, 
 ⟨none, none, .st 6 (.t 8) (.t 31)⟩, 
 ⟨(some 9), none, .mv (.k (.sc (.bool false)))⟩])
 .ret))))
def k14 : List Nat := [0, 1, 2, 3, 4, 8, 9, 10, 12, 18, 19, 20, 21, 27]
theorem ic14 : factsI Try.prog 14 = some (32, [.cell 8 37, .tmp 9], c14) := by kernel_rfl

-- chargenet/chargenetref45.Find (27 slots)
def c15 : IC :=
 (.seq (.reg [⟨(some 4), none, .bx (.t 0)⟩, 
 ⟨(some 8), none, .al (.agg [(.sc (.int .i64 0)), (.sc (.string ⟨#[]⟩)), (.sc (.string ⟨#[]⟩)), (.sc (.int .i64 0)), (.sc (.bool false)), (.sc (.slice none 0 0))]) 6⟩, 
 ⟨(some 9), none, .mv (.k (.sc (.bool false)))⟩])
 (.seq (.reg [⟨(some 11), none, .ld (some 4) (.t 4)⟩, 
 ⟨(some 12), none, .sh 1 (.t 4)⟩, 
 ⟨(some 13), none, .ld none (.t 12)⟩, 
 ⟨(some 14), none, .len (.t 13) (pu (.call ⟨.builtin .len, #[(.tmp 13)], #[22]⟩) 3)⟩, 
 ⟨(some 15), none, .mv (.t 1)⟩, 
 ⟨(some 16), none, .mv (.t 2)⟩, 
 ⟨(some 17), none, .mv (.t 3)⟩, 
 ⟨(some 18), none, .call 36 [(.t 11), (.t 14), (.t 15), (.t 16), (.t 17)]⟩, 
 ⟨(some 10), none, .mv (.t 18)⟩])
 (.seq (.seq (.reg [⟨(some 19), none, .mv (.t 10)⟩, 
 ⟨(some 20), none, .bin .lss false (.t 19) (.k (.sc (.int .i64 0))) (pu (.binOp .lss 3 (.tmp 19) (.const (.int .i64 0)) 3) 4)⟩])
 (.cond (.t 20) (.seq (.reg [⟨(some 21), none, .bld [(.sc (.int .i64 0)), (.sc (.string ⟨#[]⟩)), (.sc (.string ⟨#[]⟩)), (.sc (.int .i64 0)), (.sc (.bool false)), (.sc (.slice none 0 0))] []⟩, 
  ⟨none, none, .st 6 (.t 8) (.t 21)⟩, 
  ⟨(some 9), none, .mv (.k (.sc (.bool false)))⟩])
  .ret)
 .skip))
 (.seq (.reg [⟨(some 22), none, .sh 1 (.t 4)⟩, 
 ⟨(some 23), none, .ld none (.t 22)⟩, 
 ⟨(some 24), none, .mv (.t 10)⟩, 
 ⟨(some 25), none, .ixs 6 (.t 23) (.t 24)⟩, 
 ⟨(some 26), none, .ld (some 6) (.t 25)⟩, 
 ⟨none, none, .st 6 (.t 8) (.t 26)⟩, 
 ⟨(some 9), none, .mv (.k (.sc (.bool true)))⟩])
 .ret))))
def k15 : List Nat := [0, 1, 2, 3, 4, 8, 9, 10, 20]
theorem ic15 : factsI Try.prog 15 = some (27, [.cell 8 37, .tmp 9], c15) := by kernel_rfl

-- chargenet/directory.Since (41 slots)
def c16 : IC :=
 (.seq (.reg [⟨(some 2), none, .bx (.t 0)⟩, 
 ⟨(some 4), none, .mv (.k (.sc (.slice none 0 0)))⟩, 
 ⟨(some 5), none, .mv (.k (.sc (.int .i64 0)))⟩])
 (.seq (.reg [⟨(some 6), none, .mv (.k (.sc (.slice none 0 0)))⟩])
 (.seq (.seq (.reg [⟨(some 9), none, .sh 1 (.t 2)⟩, 
 ⟨(some 10), none, .ld none (.t 9)⟩, 
 ⟨(some 11), none, .len (.t 10) (pu (.call ⟨.builtin .len, #[(.tmp 10)], #[22]⟩) 3)⟩, 
 ⟨(some 12), none, .mv (.k (.sc (.int .i64 0)))⟩])
 (.block 0 (.loop (.seq (.reg [⟨(some 13), none, .bin .lss false (.t 12) (.t 11) (pu (.binOp .lss 3 (.tmp 12) (.tmp 11) 3) 0)⟩])
  (.seq (.cond (.t 13) .skip
  (.exit 0))
  (.seq (.block 1 (.seq (.reg [⟨(some 14), none, .mv (.t 12)⟩, 
  ⟨(some 15), none, .ixs 6 (.t 10) (.t 12)⟩, 
  ⟨(some 16), none, .ld (some 6) (.t 15)⟩, 
  ⟨(some 8), none, .al (.agg [(.sc (.int .i64 0)), (.sc (.string ⟨#[]⟩)), (.sc (.string ⟨#[]⟩)), (.sc (.int .i64 0)), (.sc (.bool false)), (.sc (.slice none 0 0))]) 6⟩, 
  ⟨(some 7), none, .mv (.t 14)⟩, 
  ⟨none, none, .st 6 (.t 8) (.t 16)⟩])
  (.seq (.reg [⟨(some 17), none, .mv (.t 7)⟩, 
  ⟨(some 18), none, .sh 2 (.t 2)⟩, 
  ⟨(some 19), none, .ld none (.t 18)⟩, 
  ⟨(some 20), none, .len (.t 19) (pu (.call ⟨.builtin .len, #[(.tmp 19)], #[23]⟩) 3)⟩, 
  ⟨(some 21), none, .bin .lss false (.t 17) (.t 20) (pu (.binOp .lss 3 (.tmp 17) (.tmp 20) 3) 4)⟩, 
  ⟨(some 22), none, .mv (.t 21)⟩, 
  ⟨(some 23), (some ((some 22), true)), .sh 2 (.t 2)⟩, 
  ⟨(some 24), (some ((some 22), true)), .ld none (.t 23)⟩, 
  ⟨(some 25), (some ((some 22), true)), .mv (.t 7)⟩, 
  ⟨(some 26), (some ((some 22), true)), .ixs 1 (.t 24) (.t 25)⟩, 
  ⟨(some 27), (some ((some 22), true)), .ld none (.t 26)⟩, 
  ⟨(some 28), (some ((some 22), true)), .mv (.t 1)⟩, 
  ⟨(some 29), (some ((some 22), true)), .bin .gtr false (.t 27) (.t 28) (pu (.binOp .gtr 3 (.tmp 27) (.tmp 28) 3) 4)⟩, 
  ⟨(some 30), none, .pick (.t 22) (.t 29) (.k (.sc (.bool false)))⟩])
  (.cond (.t 30) (.reg [⟨(some 31), none, .mv (.t 6)⟩, 
   ⟨(some 32), none, .ld (some 6) (.t 8)⟩, 
   ⟨(some 33), none, .call 37 [(.t 32)]⟩, 
   ⟨(some 34), none, .bsl 6 1 true [(.sc (.int .i64 0)), (.sc (.string ⟨#[]⟩)), (.sc (.string ⟨#[]⟩)), (.sc (.int .i64 0)), (.sc (.bool false)), (.sc (.slice none 0 0))] [(0, 6, (.t 33))]⟩, 
   ⟨(some 35), none, .app 6 80 (.t 31) (.t 34)⟩, 
   ⟨(some 6), none, .mv (.t 35)⟩])
  .skip))))
  (.reg [⟨(some 36), none, .bin .add false (.t 12) (.k (.sc (.int .i64 1))) (pu (.binOp .add 3 (.tmp 12) (.const (.int .i64 1)) 3) 3)⟩, 
  ⟨(some 12), none, .mv (.t 36)⟩])))))))
 (.seq (.drw [0, 0, 2, 6, 1, 31] [⟨(some 37), none, .mv (.t 6)⟩, 
 ⟨(some 38), none, .sh 3 (.t 2)⟩, 
 ⟨(some 39), none, .ld none (.t 38)⟩, 
 ⟨(some 40), none, .bin .sub false (.t 39) (.k (.sc (.int .i64 1))) (pu (.binOp .sub 3 (.tmp 39) (.const (.int .i64 1)) 3) 3)⟩, 
 ⟨(some 4), none, .mv (.t 37)⟩, 
 ⟨(some 5), none, .mv (.t 40)⟩])
 .ret))))
def k16 : List Nat := [0, 1, 2, 4, 5, 6, 7, 8, 10, 11, 12, 13, 30]
theorem ic16 : factsI Try.prog 16 = some (41, [.tmp 4, .tmp 5], c16) := by kernel_rfl

-- chargenet/chargenetref45.Since (34 slots)
def c17 : IC :=
 (.seq (.reg [⟨(some 2), none, .bx (.t 0)⟩, 
 ⟨(some 4), none, .mv (.k (.sc (.slice none 0 0)))⟩, 
 ⟨(some 5), none, .mv (.k (.sc (.int .i64 0)))⟩])
 (.seq (.reg [⟨(some 6), none, .mv (.k (.sc (.slice none 0 0)))⟩])
 (.seq (.seq (.reg [⟨(some 7), none, .mv (.k (.sc (.int .i64 0)))⟩])
 (.block 0 (.loop (.seq (.seq (.reg [⟨(some 8), none, .mv (.t 7)⟩, 
  ⟨(some 9), none, .sh 1 (.t 2)⟩, 
  ⟨(some 10), none, .ld none (.t 9)⟩, 
  ⟨(some 11), none, .len (.t 10) (pu (.call ⟨.builtin .len, #[(.tmp 10)], #[22]⟩) 3)⟩, 
  ⟨(some 12), none, .bin .lss false (.t 8) (.t 11) (pu (.binOp .lss 3 (.tmp 8) (.tmp 11) 3) 4)⟩])
  (.cond (.t 12) .skip
  (.exit 0)))
  (.seq (.block 1 (.seq (.reg [⟨(some 15), none, .sh 2 (.t 2)⟩, 
  ⟨(some 16), none, .ld none (.t 15)⟩, 
  ⟨(some 17), none, .mv (.t 7)⟩, 
  ⟨(some 18), none, .ixs 1 (.t 16) (.t 17)⟩, 
  ⟨(some 19), none, .ld none (.t 18)⟩, 
  ⟨(some 20), none, .mv (.t 1)⟩, 
  ⟨(some 21), none, .bin .gtr false (.t 19) (.t 20) (pu (.binOp .gtr 3 (.tmp 19) (.tmp 20) 3) 4)⟩])
  (.cond (.t 21) (.reg [⟨(some 22), none, .mv (.t 6)⟩, 
   ⟨(some 23), none, .sh 1 (.t 2)⟩, 
   ⟨(some 24), none, .ld none (.t 23)⟩, 
   ⟨(some 25), none, .mv (.t 7)⟩, 
   ⟨(some 26), none, .ixs 6 (.t 24) (.t 25)⟩, 
   ⟨(some 27), none, .ld (some 6) (.t 26)⟩, 
   ⟨(some 28), none, .bsl 6 1 true [(.sc (.int .i64 0)), (.sc (.string ⟨#[]⟩)), (.sc (.string ⟨#[]⟩)), (.sc (.int .i64 0)), (.sc (.bool false)), (.sc (.slice none 0 0))] [(0, 6, (.t 27))]⟩, 
   ⟨(some 29), none, .app 6 80 (.t 22) (.t 28)⟩, 
   ⟨(some 6), none, .mv (.t 29)⟩])
  .skip)))
  (.reg [⟨(some 13), none, .mv (.t 7)⟩, 
  ⟨(some 14), none, .bin .add false (.t 13) (.k (.sc (.int .i64 1))) (pu (.binOp .add 3 (.tmp 13) (.const (.int .i64 1)) 3) 3)⟩, 
  ⟨(some 7), none, .mv (.t 14)⟩]))))))
 (.seq (.drw [0, 0, 2, 6, 1, 31] [⟨(some 30), none, .mv (.t 6)⟩, 
 ⟨(some 31), none, .sh 3 (.t 2)⟩, 
 ⟨(some 32), none, .ld none (.t 31)⟩, 
 ⟨(some 33), none, .bin .sub false (.t 32) (.k (.sc (.int .i64 1))) (pu (.binOp .sub 3 (.tmp 32) (.const (.int .i64 1)) 3) 3)⟩, 
 ⟨(some 4), none, .mv (.t 30)⟩, 
 ⟨(some 5), none, .mv (.t 33)⟩])
 .ret))))
def k17 : List Nat := [0, 1, 2, 4, 5, 6, 7, 12, 21]
theorem ic17 : factsI Try.prog 17 = some (34, [.tmp 4, .tmp 5], c17) := by kernel_rfl

-- chargenet/chargenetlaw45.sameObject (45 slots)
def c18 : IC :=
 (.seq (.reg [⟨(some 2), none, .bx (.t 0)⟩, 
 ⟨(some 3), none, .bx (.t 1)⟩, 
 ⟨(some 4), none, .mv (.k (.sc (.bool false)))⟩])
 (.seq (.reg [⟨(some 5), none, .sh 0 (.t 2)⟩, 
 ⟨(some 6), none, .ld none (.t 5)⟩, 
 ⟨(some 7), none, .sh 0 (.t 3)⟩, 
 ⟨(some 8), none, .ld none (.t 7)⟩, 
 ⟨(some 9), none, .bin .eql false (.t 6) (.t 8) (pu (.binOp .eql 3 (.tmp 6) (.tmp 8) 3) 4)⟩, 
 ⟨(some 10), none, .mv (.t 9)⟩, 
 ⟨(some 11), (some ((some 10), true)), .sh 1 (.t 2)⟩, 
 ⟨(some 12), (some ((some 10), true)), .ld none (.t 11)⟩, 
 ⟨(some 13), (some ((some 10), true)), .sh 1 (.t 3)⟩, 
 ⟨(some 14), (some ((some 10), true)), .ld none (.t 13)⟩, 
 ⟨(some 15), (some ((some 10), true)), .bin .eql false (.t 12) (.t 14) (pu (.binOp .eql 9 (.tmp 12) (.tmp 14) 9) 4)⟩, 
 ⟨(some 16), none, .pick (.t 10) (.t 15) (.k (.sc (.bool false)))⟩, 
 ⟨(some 17), none, .mv (.t 16)⟩, 
 ⟨(some 18), (some ((some 17), true)), .sh 2 (.t 2)⟩, 
 ⟨(some 19), (some ((some 17), true)), .ld none (.t 18)⟩, 
 ⟨(some 20), (some ((some 17), true)), .sh 2 (.t 3)⟩, 
 ⟨(some 21), (some ((some 17), true)), .ld none (.t 20)⟩, 
 ⟨(some 22), (some ((some 17), true)), .bin .eql false (.t 19) (.t 21) (pu (.binOp .eql 9 (.tmp 19) (.tmp 21) 9) 4)⟩, 
 ⟨(some 23), none, .pick (.t 17) (.t 22) (.k (.sc (.bool false)))⟩, 
 ⟨(some 24), none, .mv (.t 23)⟩, 
 ⟨(some 25), (some ((some 24), true)), .sh 3 (.t 2)⟩, 
 ⟨(some 26), (some ((some 24), true)), .ld none (.t 25)⟩, 
 ⟨(some 27), (some ((some 24), true)), .sh 3 (.t 3)⟩, 
 ⟨(some 28), (some ((some 24), true)), .ld none (.t 27)⟩, 
 ⟨(some 29), (some ((some 24), true)), .bin .eql false (.t 26) (.t 28) (pu (.binOp .eql 3 (.tmp 26) (.tmp 28) 3) 4)⟩, 
 ⟨(some 30), none, .pick (.t 24) (.t 29) (.k (.sc (.bool false)))⟩, 
 ⟨(some 31), none, .mv (.t 30)⟩, 
 ⟨(some 32), (some ((some 31), true)), .sh 4 (.t 2)⟩, 
 ⟨(some 33), (some ((some 31), true)), .ld none (.t 32)⟩, 
 ⟨(some 34), (some ((some 31), true)), .sh 4 (.t 3)⟩, 
 ⟨(some 35), (some ((some 31), true)), .ld none (.t 34)⟩, 
 ⟨(some 36), (some ((some 31), true)), .bin .eql true (.t 33) (.t 35) (pu (.binOp .eql 4 (.tmp 33) (.tmp 35) 4) 4)⟩, 
 ⟨(some 37), none, .pick (.t 31) (.t 36) (.k (.sc (.bool false)))⟩, 
 ⟨(some 38), none, .mv (.t 37)⟩, 
 ⟨(some 39), (some ((some 38), true)), .sh 5 (.t 2)⟩, 
 ⟨(some 40), (some ((some 38), true)), .ld none (.t 39)⟩, 
 ⟨(some 41), (some ((some 38), true)), .sh 5 (.t 3)⟩, 
 ⟨(some 42), (some ((some 38), true)), .ld none (.t 41)⟩, 
 ⟨(some 43), (some ((some 38), true)), .call 38 [(.t 40), (.t 42)]⟩, 
 ⟨(some 44), none, .pick (.t 38) (.t 43) (.k (.sc (.bool false)))⟩, 
 ⟨(some 4), none, .mv (.t 44)⟩])
 .ret))
def k18 : List Nat := [0, 1, 2, 3, 4]
theorem ic18 : factsI Try.prog 18 = some (45, [.tmp 4], c18) := by kernel_rfl

-- chargenet/chargenetlaw45.sameObjects (8 slots)
def c19 : IC :=
 (.seq (.reg [⟨(some 4), none, .mv (.k (.sc (.bool false)))⟩])
 (.seq (.reg [⟨(some 5), none, .mv (.t 0)⟩, 
 ⟨(some 6), none, .mv (.t 1)⟩, 
 ⟨(some 7), none, .call 39 [(.t 5), (.t 6), (.k (.sc (.func (.func 18) #[] #[])))]⟩, 
 ⟨(some 4), none, .mv (.t 7)⟩])
 .ret))
def k19 : List Nat := [0, 1, 4]
theorem ic19 : factsI Try.prog 19 = some (8, [.tmp 4], c19) := by kernel_rfl

-- chargenet/directory.Merge (66 slots)
def c20 : IC :=
 (.seq (.reg [⟨(some 2), none, .bx (.t 0)⟩, 
 ⟨(some 4), none, .al (.agg [(.sc (.string ⟨#[]⟩)), (.sc (.slice none 0 0)), (.sc (.slice none 0 0)), (.sc (.int .i64 0))]) 4⟩, 
 ⟨(some 5), none, .mv (.k (.sc (.int .i64 0)))⟩])
 (.seq (.reg [⟨(some 12), none, .ld (some 4) (.t 2)⟩, 
 ⟨(some 13), none, .call 40 [(.t 12)]⟩, 
 ⟨(some 6), none, .al (.agg [(.sc (.map none)), (.sc (.int .i64 0))]) 2⟩, 
 ⟨none, none, .st 2 (.t 6) (.t 13)⟩])
 (.seq (.reg [⟨(some 7), none, .mv (.k (.sc (.int .i64 0)))⟩])
 (.seq (.seq (.reg [⟨(some 14), none, .mv (.t 1)⟩, 
 ⟨(some 15), none, .len (.t 14) (pu (.call ⟨.builtin .len, #[(.tmp 14)], #[22]⟩) 3)⟩, 
 ⟨(some 16), none, .mv (.k (.sc (.int .i64 0)))⟩])
 (.block 0 (.loop (.seq (.reg [⟨(some 17), none, .bin .lss false (.t 16) (.t 15) (pu (.binOp .lss 3 (.tmp 16) (.tmp 15) 3) 0)⟩])
  (.seq (.cond (.t 17) .skip
  (.exit 0))
  (.seq (.block 1 (.seq (.reg [⟨(some 18), none, .ixs 6 (.t 14) (.t 16)⟩, 
  ⟨(some 19), none, .ld (some 6) (.t 18)⟩, 
  ⟨(some 9), none, .al (.agg [(.sc (.int .i64 0)), (.sc (.string ⟨#[]⟩)), (.sc (.string ⟨#[]⟩)), (.sc (.int .i64 0)), (.sc (.bool false)), (.sc (.slice none 0 0))]) 6⟩, 
  ⟨none, none, .st 6 (.t 9) (.t 19)⟩])
  (.seq (.seq (.reg [⟨(some 20), none, .ld (some 6) (.t 9)⟩, 
  ⟨(some 21), none, .call 32 [(.t 20)]⟩, 
  ⟨(some 22), none, .bin .neq false (.t 21) (.k (.sc (.int .i64 0))) (pu (.binOp .neq 28 (.tmp 21) (.const (.int .i64 0)) 28) 4)⟩, 
  ⟨(some 23), none, .mv (.t 22)⟩, 
  ⟨(some 24), (some ((some 23), false)), .sh 2 (.t 9)⟩, 
  ⟨(some 25), (some ((some 23), false)), .ld none (.t 24)⟩, 
  ⟨(some 26), (some ((some 23), false)), .sh 0 (.t 2)⟩, 
  ⟨(some 27), (some ((some 23), false)), .ld none (.t 26)⟩, 
  ⟨(some 28), (some ((some 23), false)), .bin .eql false (.t 25) (.t 27) (pu (.binOp .eql 9 (.tmp 25) (.tmp 27) 9) 4)⟩, 
  ⟨(some 29), none, .pick (.t 23) (.k (.sc (.bool true))) (.t 28)⟩])
  (.cond (.t 29) (.exit 1)
  .skip))
  (.seq (.drw [0, 1, 0, 4, 15, 31, 63, 63, 0, 383, 1023] [⟨(some 31), none, .sh 0 (.t 6)⟩, 
  ⟨(some 32), none, .ld none (.t 31)⟩, 
  ⟨(some 33), none, .ld (some 6) (.t 9)⟩, 
  ⟨(some 34), none, .call 33 [(.t 33)]⟩, 
  ⟨(some 35), none, .mlk true [(.i .i64), .s, .s] (.agg [(.sc (.int .i64 0)), (.sc (.string ⟨#[]⟩)), (.sc (.string ⟨#[]⟩)), (.sc (.int .i64 0)), (.sc (.bool false)), (.sc (.slice none 0 0)), (.sc (.int .i64 0))]) true (.t 32) (.t 34) (pu (.lookup 73 (.tmp 32) (.tmp 34) true) 79)⟩, 
  ⟨(some 30), none, .mv (.t 35)⟩, 
  ⟨(some 36), none, .ext (.t 30) 0⟩, 
  ⟨(some 37), none, .ext (.t 30) 1⟩, 
  ⟨(some 10), none, .al (.agg [(.sc (.int .i64 0)), (.sc (.string ⟨#[]⟩)), (.sc (.string ⟨#[]⟩)), (.sc (.int .i64 0)), (.sc (.bool false)), (.sc (.slice none 0 0)), (.sc (.int .i64 0))]) 7⟩, 
  ⟨none, none, .st 7 (.t 10) (.t 36)⟩, 
  ⟨(some 11), none, .mv (.t 37)⟩])
  (.seq (.seq (.reg [⟨(some 38), none, .mv (.t 11)⟩, 
  ⟨(some 39), none, .mv (.t 38)⟩, 
  ⟨(some 40), (some ((some 39), true)), .sh 0 (.t 10)⟩, 
  ⟨(some 41), (some ((some 39), true)), .sh 3 (.t 40)⟩, 
  ⟨(some 42), (some ((some 39), true)), .ld none (.t 41)⟩, 
  ⟨(some 43), (some ((some 39), true)), .sh 3 (.t 9)⟩, 
  ⟨(some 44), (some ((some 39), true)), .ld none (.t 43)⟩, 
  ⟨(some 45), (some ((some 39), true)), .bin .geq false (.t 42) (.t 44) (pu (.binOp .geq 3 (.tmp 42) (.tmp 44) 3) 4)⟩, 
  ⟨(some 46), none, .pick (.t 39) (.t 45) (.k (.sc (.bool false)))⟩, 
  ⟨(some 47), none, .mv (.t 46)⟩, 
  ⟨(some 48), (some ((some 47), false)), .mv (.t 11)⟩, 
  ⟨(some 49), (some ((some 47), false)), .un .not (.t 48) (pu (.unOp .not 4 (.tmp 48)) 4)⟩, 
  ⟨(some 50), (some ((some 47), false)), .mv (.t 49)⟩, 
  ⟨(some 51), (some ((some 50), true)), .sh 0 (.t 6)⟩, 
  ⟨(some 52), (some ((some 50), true)), .ld none (.t 51)⟩, 
  ⟨(some 53), (some ((some 50), true)), .mln (.t 52) (pu (.call ⟨.builtin .len, #[(.tmp 52)], #[73]⟩) 3)⟩, 
  ⟨(some 54), (some ((some 50), true)), .bin .geq false (.t 53) (.k (.sc (.int .i64 256))) (pu (.binOp .geq 3 (.tmp 53) (.const (.int .i64 256)) 3) 4)⟩, 
  ⟨(some 55), (some ((some 47), false)), .pick (.t 50) (.t 54) (.k (.sc (.bool false)))⟩, 
  ⟨(some 56), none, .pick (.t 47) (.k (.sc (.bool true))) (.t 55)⟩])
  (.cond (.t 56) (.exit 1)
  .skip))
  (.seq (.reg [⟨(some 57), none, .ld (some 6) (.t 9)⟩, 
  ⟨(some 58), none, .call 41 [(.t 6), (.t 57)]⟩])
  (.reg [⟨(some 59), none, .mv (.t 7)⟩, 
  ⟨(some 60), none, .bin .add false (.t 59) (.k (.sc (.int .i64 1))) (pu (.binOp .add 3 (.tmp 59) (.const (.int .i64 1)) 3) 3)⟩, 
  ⟨(some 7), none, .mv (.t 60)⟩])))))))
  (.reg [⟨(some 61), none, .bin .add false (.t 16) (.k (.sc (.int .i64 1))) (pu (.binOp .add 3 (.tmp 16) (.const (.int .i64 1)) 3) 3)⟩, 
  ⟨(some 16), none, .mv (.t 61)⟩])))))))
 (.seq (.reg [⟨(some 62), none, .sh 0 (.t 2)⟩, 
 ⟨(some 63), none, .ld none (.t 62)⟩, 
 ⟨(some 64), none, .call 42 [(.t 6), (.t 63)]⟩, 
 ⟨(some 65), none, .mv (.t 7)⟩, 
 ⟨none, none, .st 4 (.t 4) (.t 64)⟩, 
 ⟨(some 5), none, .mv (.t 65)⟩])
 .ret)))))
def k20 : List Nat := [0, 1, 2, 4, 5, 6, 7, 9, 10, 11, 14, 15, 16, 17, 29, 56]
theorem ic20 : factsI Try.prog 20 = some (66, [.cell 4 25, .tmp 5], c20) := by kernel_rfl

-- chargenet/chargenetlaw45.same (31 slots)
def c21 : IC :=
 (.seq (.reg [⟨(some 2), none, .bx (.t 0)⟩, 
 ⟨(some 3), none, .bx (.t 1)⟩, 
 ⟨(some 4), none, .mv (.k (.sc (.bool false)))⟩])
 (.seq (.reg [⟨(some 5), none, .sh 0 (.t 2)⟩, 
 ⟨(some 6), none, .ld none (.t 5)⟩, 
 ⟨(some 7), none, .sh 0 (.t 3)⟩, 
 ⟨(some 8), none, .ld none (.t 7)⟩, 
 ⟨(some 9), none, .bin .eql false (.t 6) (.t 8) (pu (.binOp .eql 9 (.tmp 6) (.tmp 8) 9) 4)⟩, 
 ⟨(some 10), none, .mv (.t 9)⟩, 
 ⟨(some 11), (some ((some 10), true)), .sh 3 (.t 2)⟩, 
 ⟨(some 12), (some ((some 10), true)), .ld none (.t 11)⟩, 
 ⟨(some 13), (some ((some 10), true)), .sh 3 (.t 3)⟩, 
 ⟨(some 14), (some ((some 10), true)), .ld none (.t 13)⟩, 
 ⟨(some 15), (some ((some 10), true)), .bin .eql false (.t 12) (.t 14) (pu (.binOp .eql 3 (.tmp 12) (.tmp 14) 3) 4)⟩, 
 ⟨(some 16), none, .pick (.t 10) (.t 15) (.k (.sc (.bool false)))⟩, 
 ⟨(some 17), none, .mv (.t 16)⟩, 
 ⟨(some 18), (some ((some 17), true)), .sh 2 (.t 2)⟩, 
 ⟨(some 19), (some ((some 17), true)), .ld none (.t 18)⟩, 
 ⟨(some 20), (some ((some 17), true)), .sh 2 (.t 3)⟩, 
 ⟨(some 21), (some ((some 17), true)), .ld none (.t 20)⟩, 
 ⟨(some 22), (some ((some 17), true)), .call 30 [(.t 19), (.t 21)]⟩, 
 ⟨(some 23), none, .pick (.t 17) (.t 22) (.k (.sc (.bool false)))⟩, 
 ⟨(some 24), none, .mv (.t 23)⟩, 
 ⟨(some 25), (some ((some 24), true)), .sh 1 (.t 2)⟩, 
 ⟨(some 26), (some ((some 24), true)), .ld none (.t 25)⟩, 
 ⟨(some 27), (some ((some 24), true)), .sh 1 (.t 3)⟩, 
 ⟨(some 28), (some ((some 24), true)), .ld none (.t 27)⟩, 
 ⟨(some 29), (some ((some 24), true)), .call 19 [(.t 26), (.t 28)]⟩, 
 ⟨(some 30), none, .pick (.t 24) (.t 29) (.k (.sc (.bool false)))⟩, 
 ⟨(some 4), none, .mv (.t 30)⟩])
 .ret))
def k21 : List Nat := [0, 1, 2, 3, 4]
theorem ic21 : factsI Try.prog 21 = some (31, [.tmp 4], c21) := by kernel_rfl

-- chargenet/chargenetlaw45.call (42 slots)
def c22 : IC :=
 (.seq (.reg [⟨(some 2), none, .bx (.t 0)⟩, 
 ⟨(some 3), none, .bx (.t 1)⟩, 
 ⟨(some 4), none, .al (.agg [(.sc (.string ⟨#[]⟩)), (.sc (.slice none 0 0)), (.sc (.slice none 0 0)), (.sc (.int .i64 0))]) 4⟩, 
 ⟨(some 5), none, .mv (.k (.sc (.int .i64 0)))⟩, 
 ⟨(some 6), none, .mv (.k (.sc (.int .i64 0)))⟩])
 (.seq (.reg [⟨(some 7), none, .mv (.k (.sc (.int .i64 0)))⟩, 
 ⟨(some 8), none, .mv (.k (.sc (.int .i64 0)))⟩])
 (.seq (.block 0 (.seq (.reg [⟨(some 10), none, .sh 0 (.t 3)⟩, 
 ⟨(some 11), none, .ld none (.t 10)⟩, 
 ⟨(some 12), none, .bin .eql false (.t 11) (.k (.sc (.int .i64 1))) (pu (.binOp .eql 3 (.tmp 11) (.const (.int .i64 1)) 3) 4)⟩, 
 ⟨(some 13), none, .mv (.t 12)⟩, 
 ⟨(some 14), (some ((some 13), true)), .sh 1 (.t 3)⟩, 
 ⟨(some 15), (some ((some 13), true)), .ld none (.t 14)⟩, 
 ⟨(some 16), (some ((some 13), true)), .len (.t 15) (pu (.call ⟨.builtin .len, #[(.tmp 15)], #[22]⟩) 3)⟩, 
 ⟨(some 17), (some ((some 13), true)), .bin .gtr false (.t 16) (.k (.sc (.int .i64 0))) (pu (.binOp .gtr 3 (.tmp 16) (.const (.int .i64 0)) 3) 4)⟩, 
 ⟨(some 18), none, .pick (.t 13) (.t 17) (.k (.sc (.bool false)))⟩, 
 ⟨(some 9), none, .mv (.t 18)⟩])
 (.cond (.t 9) (.drw [0, 0, 2, 6, 14, 31, 63, 127, 127, 255, 1023] [⟨(some 20), none, .ld (some 4) (.t 2)⟩, 
  ⟨(some 21), none, .sh 1 (.t 3)⟩, 
  ⟨(some 22), none, .ld none (.t 21)⟩, 
  ⟨(some 23), none, .ixs 6 (.t 22) (.k (.sc (.int .i64 0)))⟩, 
  ⟨(some 24), none, .ld (some 6) (.t 23)⟩, 
  ⟨(some 25), none, .call 29 [(.t 20), (.t 24)]⟩, 
  ⟨(some 19), none, .mv (.t 25)⟩, 
  ⟨(some 26), none, .ext (.t 19) 0⟩, 
  ⟨(some 27), none, .ext (.t 19) 1⟩, 
  ⟨none, none, .st 4 (.t 2) (.t 26)⟩, 
  ⟨(some 8), none, .mv (.t 27)⟩])
 (.seq (.reg [⟨(some 29), none, .sh 0 (.t 3)⟩, 
  ⟨(some 30), none, .ld none (.t 29)⟩, 
  ⟨(some 31), none, .bin .eql false (.t 30) (.k (.sc (.int .i64 2))) (pu (.binOp .eql 3 (.tmp 30) (.const (.int .i64 2)) 3) 4)⟩, 
  ⟨(some 28), none, .mv (.t 31)⟩])
  (.cond (.t 28) (.reg [⟨(some 33), none, .ld (some 4) (.t 2)⟩, 
   ⟨(some 34), none, .sh 1 (.t 3)⟩, 
   ⟨(some 35), none, .ld none (.t 34)⟩, 
   ⟨(some 36), none, .call 20 [(.t 33), (.t 35)]⟩, 
   ⟨(some 32), none, .mv (.t 36)⟩, 
   ⟨(some 37), none, .ext (.t 32) 0⟩, 
   ⟨(some 38), none, .ext (.t 32) 1⟩, 
   ⟨none, none, .st 4 (.t 2) (.t 37)⟩, 
   ⟨(some 7), none, .mv (.t 38)⟩])
  .skip)))))
 (.seq (.reg [⟨(some 39), none, .ld (some 4) (.t 2)⟩, 
 ⟨(some 40), none, .mv (.t 7)⟩, 
 ⟨(some 41), none, .mv (.t 8)⟩, 
 ⟨none, none, .st 4 (.t 4) (.t 39)⟩, 
 ⟨(some 5), none, .mv (.t 40)⟩, 
 ⟨(some 6), none, .mv (.t 41)⟩])
 .ret))))
def k22 : List Nat := [0, 1, 2, 3, 4, 5, 6, 7, 8, 9, 28]
theorem ic22 : factsI Try.prog 22 = some (42, [.cell 4 25, .tmp 5, .tmp 6], c22) := by kernel_rfl

-- chargenet/chargenetlaw45.contains (8 slots)
def c23 : IC :=
 (.seq (.reg [⟨(some 3), none, .bx (.t 1)⟩, 
 ⟨(some 4), none, .mv (.k (.sc (.bool false)))⟩])
 (.seq (.reg [⟨(some 5), none, .mv (.t 0)⟩, 
 ⟨(some 6), none, .mkf (.func 44) [] [(.t 3)]⟩, 
 ⟨(some 7), none, .call 43 [(.t 5), (.t 6)]⟩, 
 ⟨(some 4), none, .mv (.t 7)⟩])
 .ret))
def k23 : List Nat := [0, 1, 3, 4]
theorem ic23 : factsI Try.prog 23 = some (8, [.tmp 4], c23) := by kernel_rfl

-- chargenet/chargenetlaw45.DirectoryAgree$1 (6 slots)
def c24 : IC :=
 (.seq (.reg [⟨(some 2), none, .mv (.k (.sc (.slice none 0 0)))⟩])
 (.seq (.reg [⟨(some 3), none, .mv (.t 0)⟩, 
 ⟨(some 4), none, .call 26 [(.t 3)]⟩, 
 ⟨(some 5), none, .call 25 [(.t 4), (.k (.sc (.func (.func 27) #[] #[])))]⟩, 
 ⟨(some 2), none, .mv (.t 5)⟩])
 .ret))
def k24 : List Nat := [0, 2]
theorem ic24 : factsI Try.prog 24 = some (6, [.tmp 2], c24) := by kernel_rfl

-- slices.DeleteFunc[[]chargenet/chargenetlaw45.Op,chargenet/chargenetlaw45.Op] (42 slots)
def c25 : IC :=
 (.seq (.reg [⟨(some 4), none, .mv (.k (.sc (.slice none 0 0)))⟩])
 (.seq (.reg [⟨(some 8), none, .mv (.t 0)⟩, 
 ⟨(some 9), none, .mv (.t 1)⟩, 
 ⟨(some 10), none, .call 45 [(.t 8), (.t 9)]⟩, 
 ⟨(some 5), none, .mv (.t 10)⟩])
 (.seq (.seq (.reg [⟨(some 11), none, .mv (.t 5)⟩, 
 ⟨(some 12), none, .bin .eql false (.t 11) (.k (.sc (.int .i64 (-1)))) (pu (.binOp .eql 3 (.tmp 11) (.const (.int .i64 (-1))) 3) 4)⟩])
 (.cond (.t 12) (.seq (.reg [⟨(some 13), none, .mv (.t 0)⟩, 
  ⟨(some 4), none, .mv (.t 13)⟩])
  .ret)
 .skip))
 (.seq (.seq (.reg [⟨(some 14), none, .mv (.t 5)⟩, 
 ⟨(some 15), none, .bin .add false (.t 14) (.k (.sc (.int .i64 1))) (pu (.binOp .add 3 (.tmp 14) (.const (.int .i64 1)) 3) 3)⟩, 
 ⟨(some 6), none, .mv (.t 15)⟩])
 (.block 0 (.loop (.seq (.seq (.reg [⟨(some 16), none, .mv (.t 6)⟩, 
  ⟨(some 17), none, .mv (.t 0)⟩, 
  ⟨(some 18), none, .len (.t 17) (pu (.call ⟨.builtin .len, #[(.tmp 17)], #[31]⟩) 3)⟩, 
  ⟨(some 19), none, .bin .lss false (.t 16) (.t 18) (pu (.binOp .lss 3 (.tmp 16) (.tmp 18) 3) 4)⟩])
  (.cond (.t 19) .skip
  (.exit 0)))
  (.seq (.block 1 (.seq (.reg [⟨(some 22), none, .mv (.t 0)⟩, 
  ⟨(some 23), none, .mv (.t 6)⟩, 
  ⟨(some 24), none, .ixs 2 (.t 22) (.t 23)⟩, 
  ⟨(some 25), none, .ld (some 2) (.t 24)⟩, 
  ⟨(some 7), none, .al (.agg [(.sc (.int .i64 0)), (.sc (.slice none 0 0))]) 2⟩, 
  ⟨none, none, .st 2 (.t 7) (.t 25)⟩])
  (.seq (.reg [⟨(some 26), none, .mv (.t 1)⟩, 
  ⟨(some 27), none, .ld (some 2) (.t 7)⟩, 
  ⟨(some 28), none, .callv (.t 26) [(.t 27)]⟩, 
  ⟨(some 29), none, .un .not (.t 28) (pu (.unOp .not 4 (.tmp 28)) 4)⟩])
  (.cond (.t 29) (.seq (.reg [⟨(some 30), none, .mv (.t 0)⟩, 
   ⟨(some 31), none, .mv (.t 5)⟩, 
   ⟨(some 32), none, .ld (some 2) (.t 7)⟩, 
   ⟨(some 33), none, .ixs 2 (.t 30) (.t 31)⟩, 
   ⟨none, none, .st 2 (.t 33) (.t 32)⟩])
   (.reg [⟨(some 34), none, .mv (.t 5)⟩, 
   ⟨(some 35), none, .bin .add false (.t 34) (.k (.sc (.int .i64 1))) (pu (.binOp .add 3 (.tmp 34) (.const (.int .i64 1)) 3) 3)⟩, 
   ⟨(some 5), none, .mv (.t 35)⟩]))
  .skip))))
  (.reg [⟨(some 20), none, .mv (.t 6)⟩, 
  ⟨(some 21), none, .bin .add false (.t 20) (.k (.sc (.int .i64 1))) (pu (.binOp .add 3 (.tmp 20) (.const (.int .i64 1)) 3) 3)⟩, 
  ⟨(some 6), none, .mv (.t 21)⟩]))))))
 (.seq (.reg [⟨(some 36), none, .mv (.t 0)⟩, 
 ⟨(some 37), none, .mv (.t 5)⟩, 
 ⟨(some 38), none, .sl 2 (.t 36) (some (.t 37)) none none (pu (.slice 31 (.tmp 36) (some (.tmp 37)) none none) 31)⟩, 
 ⟨none, none, .pur (pu (.call ⟨.builtin .clear, #[(.tmp 38)], #[31]⟩) 0)⟩])
 (.seq (.reg [⟨(some 39), none, .mv (.t 0)⟩, 
 ⟨(some 40), none, .mv (.t 5)⟩, 
 ⟨(some 41), none, .sl 2 (.t 39) none (some (.t 40)) none (pu (.slice 31 (.tmp 39) none (some (.tmp 40)) none) 31)⟩, 
 ⟨(some 4), none, .mv (.t 41)⟩])
 .ret))))))
def k25 : List Nat := [0, 1, 4, 5, 6, 7, 12, 19, 29]
theorem ic25 : factsI Try.prog 25 = some (42, [.tmp 4], c25) := by kernel_rfl

-- slices.Clone[[]chargenet/chargenetlaw45.Op,chargenet/chargenetlaw45.Op] (8 slots)
def c26 : IC :=
 (.seq (.reg [⟨(some 2), none, .mv (.k (.sc (.slice none 0 0)))⟩])
 (.seq (.seq (.reg [⟨(some 3), none, .mv (.t 0)⟩, 
 ⟨(some 4), none, .bin .eql false (.t 3) (.k (.sc (.slice none 0 0))) (pu (.binOp .eql 31 (.tmp 3) (.const (.slice none 0 0)) 31) 4)⟩])
 (.cond (.t 4) (.seq (.reg [⟨(some 2), none, .mv (.k (.sc (.slice none 0 0)))⟩])
  .ret)
 .skip))
 (.seq (.reg [⟨(some 5), none, .bsl 2 0 true [] []⟩, 
 ⟨(some 6), none, .mv (.t 0)⟩, 
 ⟨(some 7), none, .app 2 32 (.t 5) (.t 6)⟩, 
 ⟨(some 2), none, .mv (.t 7)⟩])
 .ret)))
def k26 : List Nat := [0, 2, 4]
theorem ic26 : factsI Try.prog 26 = some (8, [.tmp 2], c26) := by kernel_rfl

-- chargenet/chargenetlaw45.DirectoryAgree$1$1 (6 slots)
def c27 : IC :=
 (.seq (.reg [⟨(some 1), none, .bx (.t 0)⟩, 
 ⟨(some 2), none, .mv (.k (.sc (.bool false)))⟩])
 (.seq (.reg [⟨(some 3), none, .sh 0 (.t 1)⟩, 
 ⟨(some 4), none, .ld none (.t 3)⟩, 
 ⟨(some 5), none, .bin .neq false (.t 4) (.k (.sc (.int .i64 1))) (pu (.binOp .neq 3 (.tmp 4) (.const (.int .i64 1)) 3) 4)⟩, 
 ⟨(some 2), none, .mv (.t 5)⟩])
 .ret))
def k27 : List Nat := [0, 1, 2]
theorem ic27 : factsI Try.prog 27 = some (6, [.tmp 2], c27) := by kernel_rfl

-- chargenet/directory.New (10 slots)
def c28 : IC :=
 (.seq (.reg [⟨(some 2), none, .al (.agg [(.sc (.string ⟨#[]⟩)), (.sc (.slice none 0 0)), (.sc (.slice none 0 0)), (.sc (.int .i64 0))]) 4⟩, 
 ⟨(some 3), none, .mv (.k (.sc (.int .i64 0)))⟩])
 (.seq (.seq (.reg [⟨(some 4), none, .mv (.t 0)⟩, 
 ⟨(some 5), none, .call 31 [(.t 4)]⟩, 
 ⟨(some 6), none, .un .not (.t 5) (pu (.unOp .not 4 (.tmp 5)) 4)⟩])
 (.cond (.t 6) (.seq (.reg [⟨(some 7), none, .bld [(.sc (.string ⟨#[]⟩)), (.sc (.slice none 0 0)), (.sc (.slice none 0 0)), (.sc (.int .i64 0))] []⟩, 
  ⟨none, none, .st 4 (.t 2) (.t 7)⟩, 
  ⟨(some 3), none, .mv (.k (.sc (.int .i64 4)))⟩])
  .ret)
 .skip))
 (.seq (.reg [⟨(some 8), none, .mv (.t 0)⟩, 
 ⟨(some 9), none, .bld [(.sc (.string ⟨#[]⟩)), (.sc (.slice none 0 0)), (.sc (.slice none 0 0)), (.sc (.int .i64 0))] [(0, 1, (.t 8)), (3, 1, (.k (.sc (.int .i64 1))))]⟩, 
 ⟨none, none, .st 4 (.t 2) (.t 9)⟩, 
 ⟨(some 3), none, .mv (.k (.sc (.int .i64 0)))⟩])
 .ret)))
def k28 : List Nat := [0, 2, 3, 6]
theorem ic28 : factsI Try.prog 28 = some (10, [.cell 2 25, .tmp 3], c28) := by kernel_rfl

-- chargenet/directory.Put (56 slots)
def c29 : IC :=
 (.seq (.reg [⟨(some 2), none, .bx (.t 0)⟩, 
 ⟨(some 3), none, .bx (.t 1)⟩, 
 ⟨(some 4), none, .al (.agg [(.sc (.string ⟨#[]⟩)), (.sc (.slice none 0 0)), (.sc (.slice none 0 0)), (.sc (.int .i64 0))]) 4⟩, 
 ⟨(some 5), none, .mv (.k (.sc (.int .i64 0)))⟩])
 (.seq (.seq (.reg [⟨(some 10), none, .ld (some 6) (.t 3)⟩, 
 ⟨(some 11), none, .call 32 [(.t 10)]⟩, 
 ⟨(some 6), none, .mv (.t 11)⟩])
 (.seq (.reg [⟨(some 12), none, .mv (.t 6)⟩, 
 ⟨(some 13), none, .bin .neq false (.t 12) (.k (.sc (.int .i64 0))) (pu (.binOp .neq 28 (.tmp 12) (.const (.int .i64 0)) 28) 4)⟩])
 (.cond (.t 13) (.seq (.reg [⟨(some 14), none, .ld (some 4) (.t 2)⟩, 
  ⟨(some 15), none, .mv (.t 6)⟩, 
  ⟨none, none, .st 4 (.t 4) (.t 14)⟩, 
  ⟨(some 5), none, .mv (.t 15)⟩])
  .ret)
 .skip)))
 (.seq (.seq (.reg [⟨(some 16), none, .sh 2 (.t 3)⟩, 
 ⟨(some 17), none, .ld none (.t 16)⟩, 
 ⟨(some 18), none, .sh 0 (.t 2)⟩, 
 ⟨(some 19), none, .ld none (.t 18)⟩, 
 ⟨(some 20), none, .bin .neq false (.t 17) (.t 19) (pu (.binOp .neq 9 (.tmp 17) (.tmp 19) 9) 4)⟩])
 (.cond (.t 20) (.seq (.reg [⟨(some 21), none, .ld (some 4) (.t 2)⟩, 
  ⟨none, none, .st 4 (.t 4) (.t 21)⟩, 
  ⟨(some 5), none, .mv (.k (.sc (.int .i64 15)))⟩])
  .ret)
 .skip))
 (.seq (.reg [⟨(some 22), none, .ld (some 4) (.t 2)⟩, 
 ⟨(some 23), none, .call 40 [(.t 22)]⟩, 
 ⟨(some 7), none, .al (.agg [(.sc (.map none)), (.sc (.int .i64 0))]) 2⟩, 
 ⟨none, none, .st 2 (.t 7) (.t 23)⟩])
 (.seq (.drw [0, 1, 0, 4, 15, 31, 63, 63, 0, 383, 1023] [⟨(some 25), none, .sh 0 (.t 7)⟩, 
 ⟨(some 26), none, .ld none (.t 25)⟩, 
 ⟨(some 27), none, .ld (some 6) (.t 3)⟩, 
 ⟨(some 28), none, .call 33 [(.t 27)]⟩, 
 ⟨(some 29), none, .mlk true [(.i .i64), .s, .s] (.agg [(.sc (.int .i64 0)), (.sc (.string ⟨#[]⟩)), (.sc (.string ⟨#[]⟩)), (.sc (.int .i64 0)), (.sc (.bool false)), (.sc (.slice none 0 0)), (.sc (.int .i64 0))]) true (.t 26) (.t 28) (pu (.lookup 73 (.tmp 26) (.tmp 28) true) 79)⟩, 
 ⟨(some 24), none, .mv (.t 29)⟩, 
 ⟨(some 30), none, .ext (.t 24) 0⟩, 
 ⟨(some 31), none, .ext (.t 24) 1⟩, 
 ⟨(some 8), none, .al (.agg [(.sc (.int .i64 0)), (.sc (.string ⟨#[]⟩)), (.sc (.string ⟨#[]⟩)), (.sc (.int .i64 0)), (.sc (.bool false)), (.sc (.slice none 0 0)), (.sc (.int .i64 0))]) 7⟩, 
 ⟨none, none, .st 7 (.t 8) (.t 30)⟩, 
 ⟨(some 9), none, .mv (.t 31)⟩])
 (.seq (.seq (.reg [⟨(some 32), none, .mv (.t 9)⟩, 
 ⟨(some 33), none, .mv (.t 32)⟩, 
 ⟨(some 34), (some ((some 33), true)), .sh 3 (.t 3)⟩, 
 ⟨(some 35), (some ((some 33), true)), .ld none (.t 34)⟩, 
 ⟨(some 36), (some ((some 33), true)), .sh 0 (.t 8)⟩, 
 ⟨(some 37), (some ((some 33), true)), .sh 3 (.t 36)⟩, 
 ⟨(some 38), (some ((some 33), true)), .ld none (.t 37)⟩, 
 ⟨(some 39), (some ((some 33), true)), .bin .leq false (.t 35) (.t 38) (pu (.binOp .leq 3 (.tmp 35) (.tmp 38) 3) 4)⟩, 
 ⟨(some 40), none, .pick (.t 33) (.t 39) (.k (.sc (.bool false)))⟩])
 (.cond (.t 40) (.seq (.reg [⟨(some 41), none, .ld (some 4) (.t 2)⟩, 
  ⟨none, none, .st 4 (.t 4) (.t 41)⟩, 
  ⟨(some 5), none, .mv (.k (.sc (.int .i64 11)))⟩])
  .ret)
 .skip))
 (.seq (.seq (.reg [⟨(some 42), none, .mv (.t 9)⟩, 
 ⟨(some 43), none, .un .not (.t 42) (pu (.unOp .not 4 (.tmp 42)) 4)⟩, 
 ⟨(some 44), none, .mv (.t 43)⟩, 
 ⟨(some 45), (some ((some 44), true)), .sh 0 (.t 7)⟩, 
 ⟨(some 46), (some ((some 44), true)), .ld none (.t 45)⟩, 
 ⟨(some 47), (some ((some 44), true)), .mln (.t 46) (pu (.call ⟨.builtin .len, #[(.tmp 46)], #[73]⟩) 3)⟩, 
 ⟨(some 48), (some ((some 44), true)), .bin .geq false (.t 47) (.k (.sc (.int .i64 256))) (pu (.binOp .geq 3 (.tmp 47) (.const (.int .i64 256)) 3) 4)⟩, 
 ⟨(some 49), none, .pick (.t 44) (.t 48) (.k (.sc (.bool false)))⟩])
 (.cond (.t 49) (.seq (.reg [⟨(some 50), none, .ld (some 4) (.t 2)⟩, 
  ⟨none, none, .st 4 (.t 4) (.t 50)⟩, 
  ⟨(some 5), none, .mv (.k (.sc (.int .i64 3)))⟩])
  .ret)
 .skip))
 (.seq (.reg [⟨(some 51), none, .ld (some 6) (.t 3)⟩, 
 ⟨(some 52), none, .call 41 [(.t 7), (.t 51)]⟩])
 (.seq (.reg [⟨(some 53), none, .sh 0 (.t 2)⟩, 
 ⟨(some 54), none, .ld none (.t 53)⟩, 
 ⟨(some 55), none, .call 42 [(.t 7), (.t 54)]⟩, 
 ⟨none, none, .st 4 (.t 4) (.t 55)⟩, 
 ⟨(some 5), none, .mv (.k (.sc (.int .i64 0)))⟩])
 .ret)))))))))
def k29 : List Nat := [0, 1, 2, 3, 4, 5, 6, 7, 8, 9, 13, 20, 40, 49]
theorem ic29 : factsI Try.prog 29 = some (56, [.cell 4 25, .tmp 5], c29) := by kernel_rfl

-- slices.Equal[[]int,int] (26 slots)
def c30 : IC :=
 (.seq (.reg [⟨(some 4), none, .mv (.k (.sc (.bool false)))⟩])
 (.seq (.seq (.reg [⟨(some 6), none, .mv (.t 0)⟩, 
 ⟨(some 7), none, .len (.t 6) (pu (.call ⟨.builtin .len, #[(.tmp 6)], #[23]⟩) 3)⟩, 
 ⟨(some 8), none, .mv (.t 1)⟩, 
 ⟨(some 9), none, .len (.t 8) (pu (.call ⟨.builtin .len, #[(.tmp 8)], #[23]⟩) 3)⟩, 
 ⟨(some 10), none, .bin .neq false (.t 7) (.t 9) (pu (.binOp .neq 3 (.tmp 7) (.tmp 9) 3) 4)⟩])
 (.cond (.t 10) (.seq (.reg [⟨(some 4), none, .mv (.k (.sc (.bool false)))⟩])
  .ret)
 .skip))
 (.seq (.seq (.reg [⟨(some 11), none, .mv (.t 0)⟩, 
 ⟨(some 12), none, .len (.t 11) (pu (.call ⟨.builtin .len, #[(.tmp 11)], #[23]⟩) 3)⟩, 
 ⟨(some 13), none, .mv (.k (.sc (.int .i64 0)))⟩])
 (.block 0 (.loop (.seq (.reg [⟨(some 14), none, .bin .lss false (.t 13) (.t 12) (pu (.binOp .lss 3 (.tmp 13) (.tmp 12) 3) 0)⟩])
  (.seq (.cond (.t 14) .skip
  (.exit 0))
  (.seq (.block 1 (.seq (.reg [⟨(some 15), none, .mv (.t 13)⟩, 
  ⟨(some 5), none, .mv (.t 15)⟩])
  (.seq (.drw [0, 0, 3, 7, 0, 0, 48, 112, 255] [⟨(some 16), none, .mv (.t 0)⟩, 
  ⟨(some 17), none, .mv (.t 5)⟩, 
  ⟨(some 18), none, .ixs 1 (.t 16) (.t 17)⟩, 
  ⟨(some 19), none, .ld none (.t 18)⟩, 
  ⟨(some 20), none, .mv (.t 1)⟩, 
  ⟨(some 21), none, .mv (.t 5)⟩, 
  ⟨(some 22), none, .ixs 1 (.t 20) (.t 21)⟩, 
  ⟨(some 23), none, .ld none (.t 22)⟩, 
  ⟨(some 24), none, .bin .neq false (.t 19) (.t 23) (pu (.binOp .neq 3 (.tmp 19) (.tmp 23) 3) 4)⟩])
  (.cond (.t 24) (.seq (.reg [⟨(some 4), none, .mv (.k (.sc (.bool false)))⟩])
   .ret)
  .skip))))
  (.reg [⟨(some 25), none, .bin .add false (.t 13) (.k (.sc (.int .i64 1))) (pu (.binOp .add 3 (.tmp 13) (.const (.int .i64 1)) 3) 3)⟩, 
  ⟨(some 13), none, .mv (.t 25)⟩])))))))
 (.seq (.reg [⟨(some 4), none, .mv (.k (.sc (.bool true)))⟩])
 .ret))))
def k30 : List Nat := [0, 1, 4, 5, 10, 12, 13, 14, 24]
theorem ic30 : factsI Try.prog 30 = some (26, [.tmp 4], c30) := by kernel_rfl

-- chargenet/ident.Valid (28 slots)
def c31 : IC :=
 (.seq (.reg [⟨(some 2), none, .mv (.k (.sc (.bool false)))⟩])
 (.seq (.seq (.reg [⟨(some 5), none, .mv (.t 0)⟩, 
 ⟨(some 6), none, .lens (.t 5) (pu (.call ⟨.builtin .len, #[(.tmp 5)], #[9]⟩) 3)⟩, 
 ⟨(some 7), none, .bin .lss false (.t 6) (.k (.sc (.int .i64 1))) (pu (.binOp .lss 3 (.tmp 6) (.const (.int .i64 1)) 3) 4)⟩, 
 ⟨(some 8), none, .mv (.t 7)⟩, 
 ⟨(some 9), (some ((some 8), false)), .mv (.t 0)⟩, 
 ⟨(some 10), (some ((some 8), false)), .lens (.t 9) (pu (.call ⟨.builtin .len, #[(.tmp 9)], #[9]⟩) 3)⟩, 
 ⟨(some 11), (some ((some 8), false)), .bin .gtr false (.t 10) (.k (.sc (.int .i64 36))) (pu (.binOp .gtr 3 (.tmp 10) (.const (.int .i64 36)) 3) 4)⟩, 
 ⟨(some 12), none, .pick (.t 8) (.k (.sc (.bool true))) (.t 11)⟩])
 (.cond (.t 12) (.seq (.reg [⟨(some 2), none, .mv (.k (.sc (.bool false)))⟩])
  .ret)
 .skip))
 (.seq (.seq (.reg [⟨(some 13), none, .mv (.t 0)⟩, 
 ⟨(some 14), none, .rng (.t 13)⟩])
 (.block 0 (.loop (.seq (.reg [⟨(some 15), none, .nxt (.t 14)⟩, 
  ⟨(some 16), none, .ext (.t 15) 0⟩])
  (.seq (.cond (.t 16) .skip
  (.exit 0))
  (.block 1 (.seq (.reg [⟨(some 17), none, .ext (.t 15) 2⟩, 
  ⟨(some 4), none, .mv (.t 17)⟩])
  (.seq (.seq (.reg [⟨(some 18), none, .mv (.t 4)⟩])
  (.block 2 (.seq (.seq (.reg [⟨(some 20), none, .bin .eql false (.t 18) (.k (.sc (.int .i32 45))) (pu (.binOp .eql 21 (.tmp 18) (.const (.int .i32 45)) 21) 4)⟩, 
  ⟨(some 19), none, .mv (.t 20)⟩])
  (.cond (.t 19) .skip
  (.seq (.reg [⟨(some 21), none, .bin .eql false (.t 18) (.k (.sc (.int .i32 95))) (pu (.binOp .eql 21 (.tmp 18) (.const (.int .i32 95)) 21) 4)⟩, 
   ⟨(some 19), none, .mv (.t 21)⟩])
   (.cond (.t 19) .skip
   (.seq (.reg [⟨(some 22), none, .bin .eql false (.t 18) (.k (.sc (.int .i32 46))) (pu (.binOp .eql 21 (.tmp 18) (.const (.int .i32 46)) 21) 4)⟩, 
    ⟨(some 19), none, .mv (.t 22)⟩])
    (.cond (.t 19) .skip
    (.seq (.reg [⟨(some 23), none, .bin .eql false (.t 18) (.k (.sc (.int .i32 58))) (pu (.binOp .eql 21 (.tmp 18) (.const (.int .i32 58)) 21) 4)⟩, 
     ⟨(some 19), none, .mv (.t 23)⟩])
     (.cond (.t 19) .skip
     (.reg [⟨(some 24), none, .bin .eql false (.t 18) (.k (.sc (.int .i32 42))) (pu (.binOp .eql 21 (.tmp 18) (.const (.int .i32 42)) 21) 4)⟩, 
      ⟨(some 19), none, .mv (.t 24)⟩])))))))))
  (.cond (.t 19) (.exit 1)
  .skip))))
  (.seq (.reg [⟨(some 25), none, .mv (.t 4)⟩, 
  ⟨(some 26), none, .call 46 [(.t 25)]⟩, 
  ⟨(some 27), none, .bin .lss false (.t 26) (.k (.sc (.int .i64 0))) (pu (.binOp .lss 3 (.tmp 26) (.const (.int .i64 0)) 3) 4)⟩])
  (.cond (.t 27) (.seq (.reg [⟨(some 2), none, .mv (.k (.sc (.bool false)))⟩])
   .ret)
  .skip))))))))))
 (.seq (.reg [⟨(some 2), none, .mv (.k (.sc (.bool true)))⟩])
 .ret))))
def k31 : List Nat := [0, 2, 4, 12, 14, 15, 16, 18, 19, 27]
theorem ic31 : factsI Try.prog 31 = some (28, [.tmp 2], c31) := by kernel_rfl

-- chargenet/directory.check (33 slots)
def c32 : IC :=
 (.seq (.reg [⟨(some 1), none, .bx (.t 0)⟩, 
 ⟨(some 2), none, .mv (.k (.sc (.int .i64 0)))⟩])
 (.seq (.seq (.reg [⟨(some 3), none, .sh 0 (.t 1)⟩, 
 ⟨(some 4), none, .ld none (.t 3)⟩, 
 ⟨(some 5), none, .bin .lss false (.t 4) (.k (.sc (.int .i64 1))) (pu (.binOp .lss 3 (.tmp 4) (.const (.int .i64 1)) 3) 4)⟩, 
 ⟨(some 6), none, .mv (.t 5)⟩, 
 ⟨(some 7), (some ((some 6), false)), .sh 0 (.t 1)⟩, 
 ⟨(some 8), (some ((some 6), false)), .ld none (.t 7)⟩, 
 ⟨(some 9), (some ((some 6), false)), .bin .gtr false (.t 8) (.k (.sc (.int .i64 8))) (pu (.binOp .gtr 3 (.tmp 8) (.const (.int .i64 8)) 3) 4)⟩, 
 ⟨(some 10), none, .pick (.t 6) (.k (.sc (.bool true))) (.t 9)⟩])
 (.cond (.t 10) (.seq (.reg [⟨(some 2), none, .mv (.k (.sc (.int .i64 2)))⟩])
  .ret)
 .skip))
 (.seq (.seq (.reg [⟨(some 11), none, .sh 1 (.t 1)⟩, 
 ⟨(some 12), none, .ld none (.t 11)⟩, 
 ⟨(some 13), none, .call 31 [(.t 12)]⟩, 
 ⟨(some 14), none, .un .not (.t 13) (pu (.unOp .not 4 (.tmp 13)) 4)⟩, 
 ⟨(some 15), none, .mv (.t 14)⟩, 
 ⟨(some 16), (some ((some 15), false)), .sh 2 (.t 1)⟩, 
 ⟨(some 17), (some ((some 15), false)), .ld none (.t 16)⟩, 
 ⟨(some 18), (some ((some 15), false)), .call 31 [(.t 17)]⟩, 
 ⟨(some 19), (some ((some 15), false)), .un .not (.t 18) (pu (.unOp .not 4 (.tmp 18)) 4)⟩, 
 ⟨(some 20), none, .pick (.t 15) (.k (.sc (.bool true))) (.t 19)⟩])
 (.cond (.t 20) (.seq (.reg [⟨(some 2), none, .mv (.k (.sc (.int .i64 4)))⟩])
  .ret)
 .skip))
 (.seq (.seq (.reg [⟨(some 21), none, .sh 3 (.t 1)⟩, 
 ⟨(some 22), none, .ld none (.t 21)⟩, 
 ⟨(some 23), none, .bin .lss false (.t 22) (.k (.sc (.int .i64 1))) (pu (.binOp .lss 3 (.tmp 22) (.const (.int .i64 1)) 3) 4)⟩, 
 ⟨(some 24), none, .mv (.t 23)⟩, 
 ⟨(some 25), (some ((some 24), false)), .sh 3 (.t 1)⟩, 
 ⟨(some 26), (some ((some 24), false)), .ld none (.t 25)⟩, 
 ⟨(some 27), (some ((some 24), false)), .bin .gtr false (.t 26) (.k (.sc (.int .i64 2147483647))) (pu (.binOp .gtr 3 (.tmp 26) (.const (.int .i64 2147483647)) 3) 4)⟩, 
 ⟨(some 28), none, .pick (.t 24) (.k (.sc (.bool true))) (.t 27)⟩])
 (.cond (.t 28) (.seq (.reg [⟨(some 2), none, .mv (.k (.sc (.int .i64 2)))⟩])
  .ret)
 .skip))
 (.seq (.seq (.reg [⟨(some 29), none, .sh 5 (.t 1)⟩, 
 ⟨(some 30), none, .ld none (.t 29)⟩, 
 ⟨(some 31), none, .len (.t 30) (pu (.call ⟨.builtin .len, #[(.tmp 30)], #[35]⟩) 3)⟩, 
 ⟨(some 32), none, .bin .gtr false (.t 31) (.k (.sc (.int .i64 4096))) (pu (.binOp .gtr 3 (.tmp 31) (.const (.int .i64 4096)) 3) 4)⟩])
 (.cond (.t 32) (.seq (.reg [⟨(some 2), none, .mv (.k (.sc (.int .i64 3)))⟩])
  .ret)
 .skip))
 (.seq (.reg [⟨(some 2), none, .mv (.k (.sc (.int .i64 0)))⟩])
 .ret))))))
def k32 : List Nat := [0, 1, 2, 10, 20, 28, 32]
theorem ic32 : factsI Try.prog 32 = some (33, [.tmp 2], c32) := by kernel_rfl

-- chargenet/directory.keyOf (10 slots)
def c33 : IC :=
 (.seq (.reg [⟨(some 1), none, .bx (.t 0)⟩, 
 ⟨(some 2), none, .al (.agg [(.sc (.int .i64 0)), (.sc (.string ⟨#[]⟩)), (.sc (.string ⟨#[]⟩))]) 3⟩])
 (.seq (.reg [⟨(some 3), none, .sh 0 (.t 1)⟩, 
 ⟨(some 4), none, .ld none (.t 3)⟩, 
 ⟨(some 5), none, .sh 2 (.t 1)⟩, 
 ⟨(some 6), none, .ld none (.t 5)⟩, 
 ⟨(some 7), none, .sh 1 (.t 1)⟩, 
 ⟨(some 8), none, .ld none (.t 7)⟩, 
 ⟨(some 9), none, .bld [(.sc (.int .i64 0)), (.sc (.string ⟨#[]⟩)), (.sc (.string ⟨#[]⟩))] [(0, 1, (.t 4)), (1, 1, (.t 6)), (2, 1, (.t 8))]⟩, 
 ⟨none, none, .st 3 (.t 2) (.t 9)⟩])
 .ret))
def k33 : List Nat := [0, 1, 2]
theorem ic33 : factsI Try.prog 33 = some (10, [.cell 2 67], c33) := by kernel_rfl

-- chargenet/chargenetref01.Valid (45 slots)
def c34 : IC :=
 (.seq (.reg [⟨(some 2), none, .mv (.k (.sc (.bool false)))⟩])
 (.seq (.seq (.reg [⟨(some 5), none, .mv (.t 0)⟩, 
 ⟨(some 6), none, .lens (.t 5) (pu (.call ⟨.builtin .len, #[(.tmp 5)], #[9]⟩) 3)⟩, 
 ⟨(some 7), none, .bin .lss false (.t 6) (.k (.sc (.int .i64 1))) (pu (.binOp .lss 3 (.tmp 6) (.const (.int .i64 1)) 3) 4)⟩, 
 ⟨(some 8), none, .mv (.t 7)⟩, 
 ⟨(some 9), (some ((some 8), false)), .mv (.t 0)⟩, 
 ⟨(some 10), (some ((some 8), false)), .lens (.t 9) (pu (.call ⟨.builtin .len, #[(.tmp 9)], #[9]⟩) 3)⟩, 
 ⟨(some 11), (some ((some 8), false)), .bin .gtr false (.t 10) (.k (.sc (.int .i64 36))) (pu (.binOp .gtr 3 (.tmp 10) (.const (.int .i64 36)) 3) 4)⟩, 
 ⟨(some 12), none, .pick (.t 8) (.k (.sc (.bool true))) (.t 11)⟩])
 (.cond (.t 12) (.seq (.reg [⟨(some 2), none, .mv (.k (.sc (.bool false)))⟩])
  .ret)
 .skip))
 (.seq (.seq (.reg [⟨(some 3), none, .mv (.k (.sc (.int .i64 0)))⟩])
 (.block 0 (.loop (.seq (.seq (.reg [⟨(some 13), none, .mv (.t 3)⟩, 
  ⟨(some 14), none, .mv (.t 0)⟩, 
  ⟨(some 15), none, .lens (.t 14) (pu (.call ⟨.builtin .len, #[(.tmp 14)], #[9]⟩) 3)⟩, 
  ⟨(some 16), none, .bin .lss false (.t 13) (.t 15) (pu (.binOp .lss 3 (.tmp 13) (.tmp 15) 3) 4)⟩])
  (.cond (.t 16) .skip
  (.exit 0)))
  (.seq (.block 1 (.seq (.reg [⟨(some 19), none, .mv (.t 0)⟩, 
  ⟨(some 20), none, .mv (.t 3)⟩, 
  ⟨(some 21), none, .pur (pu (.index 9 (.tmp 19) (.tmp 20)) 5)⟩, 
  ⟨(some 4), none, .mv (.t 21)⟩])
  (.seq (.reg [⟨(some 22), none, .mv (.t 4)⟩, 
  ⟨(some 23), none, .call 47 [(.t 22)]⟩, 
  ⟨(some 24), none, .bin .lss false (.t 23) (.k (.sc (.int .i64 0))) (pu (.binOp .lss 3 (.tmp 23) (.const (.int .i64 0)) 3) 4)⟩, 
  ⟨(some 25), none, .mv (.t 24)⟩, 
  ⟨(some 26), (some ((some 25), true)), .mv (.t 4)⟩, 
  ⟨(some 27), (some ((some 25), true)), .bin .neq false (.t 26) (.k (.sc (.int .u8 45))) (pu (.binOp .neq 5 (.tmp 26) (.const (.int .u8 45)) 5) 4)⟩, 
  ⟨(some 28), none, .pick (.t 25) (.t 27) (.k (.sc (.bool false)))⟩, 
  ⟨(some 29), none, .mv (.t 28)⟩, 
  ⟨(some 30), (some ((some 29), true)), .mv (.t 4)⟩, 
  ⟨(some 31), (some ((some 29), true)), .bin .neq false (.t 30) (.k (.sc (.int .u8 95))) (pu (.binOp .neq 5 (.tmp 30) (.const (.int .u8 95)) 5) 4)⟩, 
  ⟨(some 32), none, .pick (.t 29) (.t 31) (.k (.sc (.bool false)))⟩, 
  ⟨(some 33), none, .mv (.t 32)⟩, 
  ⟨(some 34), (some ((some 33), true)), .mv (.t 4)⟩, 
  ⟨(some 35), (some ((some 33), true)), .bin .neq false (.t 34) (.k (.sc (.int .u8 46))) (pu (.binOp .neq 5 (.tmp 34) (.const (.int .u8 46)) 5) 4)⟩, 
  ⟨(some 36), none, .pick (.t 33) (.t 35) (.k (.sc (.bool false)))⟩, 
  ⟨(some 37), none, .mv (.t 36)⟩, 
  ⟨(some 38), (some ((some 37), true)), .mv (.t 4)⟩, 
  ⟨(some 39), (some ((some 37), true)), .bin .neq false (.t 38) (.k (.sc (.int .u8 58))) (pu (.binOp .neq 5 (.tmp 38) (.const (.int .u8 58)) 5) 4)⟩, 
  ⟨(some 40), none, .pick (.t 37) (.t 39) (.k (.sc (.bool false)))⟩, 
  ⟨(some 41), none, .mv (.t 40)⟩, 
  ⟨(some 42), (some ((some 41), true)), .mv (.t 4)⟩, 
  ⟨(some 43), (some ((some 41), true)), .bin .neq false (.t 42) (.k (.sc (.int .u8 42))) (pu (.binOp .neq 5 (.tmp 42) (.const (.int .u8 42)) 5) 4)⟩, 
  ⟨(some 44), none, .pick (.t 41) (.t 43) (.k (.sc (.bool false)))⟩])
  (.cond (.t 44) (.seq (.reg [⟨(some 2), none, .mv (.k (.sc (.bool false)))⟩])
   .ret)
  .skip))))
  (.reg [⟨(some 17), none, .mv (.t 3)⟩, 
  ⟨(some 18), none, .bin .add false (.t 17) (.k (.sc (.int .i64 1))) (pu (.binOp .add 3 (.tmp 17) (.const (.int .i64 1)) 3) 3)⟩, 
  ⟨(some 3), none, .mv (.t 18)⟩]))))))
 (.seq (.reg [⟨(some 2), none, .mv (.k (.sc (.bool true)))⟩])
 .ret))))
def k34 : List Nat := [0, 2, 3, 4, 12, 16, 44]
theorem ic34 : factsI Try.prog 34 = some (45, [.tmp 2], c34) := by kernel_rfl

-- chargenet/chargenetref45.Right (33 slots)
def c35 : IC :=
 (.seq (.reg [⟨(some 1), none, .bx (.t 0)⟩, 
 ⟨(some 2), none, .mv (.k (.sc (.int .i64 0)))⟩])
 (.seq (.seq (.reg [⟨(some 3), none, .sh 0 (.t 1)⟩, 
 ⟨(some 4), none, .ld none (.t 3)⟩, 
 ⟨(some 5), none, .bin .lss false (.t 4) (.k (.sc (.int .i64 1))) (pu (.binOp .lss 3 (.tmp 4) (.const (.int .i64 1)) 3) 4)⟩, 
 ⟨(some 6), none, .mv (.t 5)⟩, 
 ⟨(some 7), (some ((some 6), false)), .sh 0 (.t 1)⟩, 
 ⟨(some 8), (some ((some 6), false)), .ld none (.t 7)⟩, 
 ⟨(some 9), (some ((some 6), false)), .bin .gtr false (.t 8) (.k (.sc (.int .i64 8))) (pu (.binOp .gtr 3 (.tmp 8) (.const (.int .i64 8)) 3) 4)⟩, 
 ⟨(some 10), none, .pick (.t 6) (.k (.sc (.bool true))) (.t 9)⟩])
 (.cond (.t 10) (.seq (.reg [⟨(some 2), none, .mv (.k (.sc (.int .i64 2)))⟩])
  .ret)
 .skip))
 (.seq (.seq (.reg [⟨(some 11), none, .sh 1 (.t 1)⟩, 
 ⟨(some 12), none, .ld none (.t 11)⟩, 
 ⟨(some 13), none, .call 34 [(.t 12)]⟩, 
 ⟨(some 14), none, .un .not (.t 13) (pu (.unOp .not 4 (.tmp 13)) 4)⟩, 
 ⟨(some 15), none, .mv (.t 14)⟩, 
 ⟨(some 16), (some ((some 15), false)), .sh 2 (.t 1)⟩, 
 ⟨(some 17), (some ((some 15), false)), .ld none (.t 16)⟩, 
 ⟨(some 18), (some ((some 15), false)), .call 34 [(.t 17)]⟩, 
 ⟨(some 19), (some ((some 15), false)), .un .not (.t 18) (pu (.unOp .not 4 (.tmp 18)) 4)⟩, 
 ⟨(some 20), none, .pick (.t 15) (.k (.sc (.bool true))) (.t 19)⟩])
 (.cond (.t 20) (.seq (.reg [⟨(some 2), none, .mv (.k (.sc (.int .i64 4)))⟩])
  .ret)
 .skip))
 (.seq (.seq (.reg [⟨(some 21), none, .sh 3 (.t 1)⟩, 
 ⟨(some 22), none, .ld none (.t 21)⟩, 
 ⟨(some 23), none, .bin .lss false (.t 22) (.k (.sc (.int .i64 1))) (pu (.binOp .lss 3 (.tmp 22) (.const (.int .i64 1)) 3) 4)⟩, 
 ⟨(some 24), none, .mv (.t 23)⟩, 
 ⟨(some 25), (some ((some 24), false)), .sh 3 (.t 1)⟩, 
 ⟨(some 26), (some ((some 24), false)), .ld none (.t 25)⟩, 
 ⟨(some 27), (some ((some 24), false)), .bin .gtr false (.t 26) (.k (.sc (.int .i64 2147483647))) (pu (.binOp .gtr 3 (.tmp 26) (.const (.int .i64 2147483647)) 3) 4)⟩, 
 ⟨(some 28), none, .pick (.t 24) (.k (.sc (.bool true))) (.t 27)⟩])
 (.cond (.t 28) (.seq (.reg [⟨(some 2), none, .mv (.k (.sc (.int .i64 2)))⟩])
  .ret)
 .skip))
 (.seq (.seq (.reg [⟨(some 29), none, .sh 5 (.t 1)⟩, 
 ⟨(some 30), none, .ld none (.t 29)⟩, 
 ⟨(some 31), none, .len (.t 30) (pu (.call ⟨.builtin .len, #[(.tmp 30)], #[35]⟩) 3)⟩, 
 ⟨(some 32), none, .bin .gtr false (.t 31) (.k (.sc (.int .i64 4096))) (pu (.binOp .gtr 3 (.tmp 31) (.const (.int .i64 4096)) 3) 4)⟩])
 (.cond (.t 32) (.seq (.reg [⟨(some 2), none, .mv (.k (.sc (.int .i64 3)))⟩])
  .ret)
 .skip))
 (.seq (.reg [⟨(some 2), none, .mv (.k (.sc (.int .i64 0)))⟩])
 .ret))))))
def k35 : List Nat := [0, 1, 2, 10, 20, 28, 32]
theorem ic35 : factsI Try.prog 35 = some (33, [.tmp 2], c35) := by kernel_rfl

-- chargenet/chargenetref45.index (40 slots)
def c36 : IC :=
 (.seq (.reg [⟨(some 5), none, .bx (.t 0)⟩, 
 ⟨(some 10), none, .mv (.k (.sc (.int .i64 0)))⟩])
 (.seq (.seq (.reg [⟨(some 11), none, .mv (.k (.sc (.int .i64 0)))⟩])
 (.block 0 (.loop (.seq (.seq (.reg [⟨(some 13), none, .mv (.t 11)⟩, 
  ⟨(some 14), none, .mv (.t 1)⟩, 
  ⟨(some 15), none, .bin .lss false (.t 13) (.t 14) (pu (.binOp .lss 3 (.tmp 13) (.tmp 14) 3) 4)⟩])
  (.cond (.t 15) .skip
  (.exit 0)))
  (.seq (.block 1 (.seq (.reg [⟨(some 18), none, .sh 1 (.t 5)⟩, 
  ⟨(some 19), none, .ld none (.t 18)⟩, 
  ⟨(some 20), none, .mv (.t 11)⟩, 
  ⟨(some 21), none, .ixs 6 (.t 19) (.t 20)⟩, 
  ⟨(some 22), none, .ld (some 6) (.t 21)⟩, 
  ⟨(some 12), none, .al (.agg [(.sc (.int .i64 0)), (.sc (.string ⟨#[]⟩)), (.sc (.string ⟨#[]⟩)), (.sc (.int .i64 0)), (.sc (.bool false)), (.sc (.slice none 0 0))]) 6⟩, 
  ⟨none, none, .st 6 (.t 12) (.t 22)⟩])
  (.seq (.reg [⟨(some 23), none, .sh 0 (.t 12)⟩, 
  ⟨(some 24), none, .ld none (.t 23)⟩, 
  ⟨(some 25), none, .mv (.t 2)⟩, 
  ⟨(some 26), none, .bin .eql false (.t 24) (.t 25) (pu (.binOp .eql 3 (.tmp 24) (.tmp 25) 3) 4)⟩, 
  ⟨(some 27), none, .mv (.t 26)⟩, 
  ⟨(some 28), (some ((some 27), true)), .sh 2 (.t 12)⟩, 
  ⟨(some 29), (some ((some 27), true)), .ld none (.t 28)⟩, 
  ⟨(some 30), (some ((some 27), true)), .mv (.t 3)⟩, 
  ⟨(some 31), (some ((some 27), true)), .bin .eql false (.t 29) (.t 30) (pu (.binOp .eql 9 (.tmp 29) (.tmp 30) 9) 4)⟩, 
  ⟨(some 32), none, .pick (.t 27) (.t 31) (.k (.sc (.bool false)))⟩, 
  ⟨(some 33), none, .mv (.t 32)⟩, 
  ⟨(some 34), (some ((some 33), true)), .sh 1 (.t 12)⟩, 
  ⟨(some 35), (some ((some 33), true)), .ld none (.t 34)⟩, 
  ⟨(some 36), (some ((some 33), true)), .mv (.t 4)⟩, 
  ⟨(some 37), (some ((some 33), true)), .bin .eql false (.t 35) (.t 36) (pu (.binOp .eql 9 (.tmp 35) (.tmp 36) 9) 4)⟩, 
  ⟨(some 38), none, .pick (.t 33) (.t 37) (.k (.sc (.bool false)))⟩])
  (.cond (.t 38) (.seq (.reg [⟨(some 39), none, .mv (.t 11)⟩, 
   ⟨(some 10), none, .mv (.t 39)⟩])
   .ret)
  .skip))))
  (.reg [⟨(some 16), none, .mv (.t 11)⟩, 
  ⟨(some 17), none, .bin .add false (.t 16) (.k (.sc (.int .i64 1))) (pu (.binOp .add 3 (.tmp 16) (.const (.int .i64 1)) 3) 3)⟩, 
  ⟨(some 11), none, .mv (.t 17)⟩]))))))
 (.seq (.reg [⟨(some 10), none, .mv (.k (.sc (.int .i64 (-1))))⟩])
 .ret)))
def k36 : List Nat := [0, 1, 2, 3, 4, 5, 10, 11, 12, 15, 38]
theorem ic36 : factsI Try.prog 36 = some (40, [.tmp 10], c36) := by kernel_rfl

-- chargenet/directory.fresh (8 slots)
def c37 : IC :=
 (.seq (.reg [⟨(some 1), none, .bx (.t 0)⟩, 
 ⟨(some 2), none, .al (.agg [(.sc (.int .i64 0)), (.sc (.string ⟨#[]⟩)), (.sc (.string ⟨#[]⟩)), (.sc (.int .i64 0)), (.sc (.bool false)), (.sc (.slice none 0 0))]) 6⟩])
 (.seq (.reg [⟨(some 3), none, .sh 5 (.t 1)⟩, 
 ⟨(some 4), none, .ld none (.t 3)⟩, 
 ⟨(some 5), none, .app 1 1 (.k (.sc (.slice none 0 0))) (.t 4)⟩, 
 ⟨(some 6), none, .sh 5 (.t 1)⟩, 
 ⟨none, none, .st 1 (.t 6) (.t 5)⟩])
 (.seq (.reg [⟨(some 7), none, .ld (some 6) (.t 1)⟩, 
 ⟨none, none, .st 6 (.t 2) (.t 7)⟩])
 .ret)))
def k37 : List Nat := [0, 1, 2]
theorem ic37 : factsI Try.prog 37 = some (8, [.cell 2 37], c37) := by kernel_rfl

-- bytes.Equal (10 slots)
def c38 : IC :=
 (.seq (.reg [⟨(some 4), none, .mv (.k (.sc (.bool false)))⟩])
 (.seq (.reg [⟨(some 5), none, .mv (.t 0)⟩, 
 ⟨(some 6), none, .pur (pu (.convert 35 9 (.tmp 5)) 9)⟩, 
 ⟨(some 7), none, .mv (.t 1)⟩, 
 ⟨(some 8), none, .pur (pu (.convert 35 9 (.tmp 7)) 9)⟩, 
 ⟨(some 9), none, .bin .eql false (.t 6) (.t 8) (pu (.binOp .eql 9 (.tmp 6) (.tmp 8) 9) 4)⟩, 
 ⟨(some 4), none, .mv (.t 9)⟩])
 .ret))
def k38 : List Nat := [0, 1, 4]
theorem ic38 : factsI Try.prog 38 = some (10, [.tmp 4], c38) := by kernel_rfl

-- slices.EqualFunc[[]chargenet/api.Object,[]chargenet/api.Object,chargenet/api.Object,chargenet/api.Object] (32 slots)
def c39 : IC :=
 (.seq (.reg [⟨(some 6), none, .mv (.k (.sc (.bool false)))⟩])
 (.seq (.seq (.reg [⟨(some 10), none, .mv (.t 0)⟩, 
 ⟨(some 11), none, .len (.t 10) (pu (.call ⟨.builtin .len, #[(.tmp 10)], #[22]⟩) 3)⟩, 
 ⟨(some 12), none, .mv (.t 1)⟩, 
 ⟨(some 13), none, .len (.t 12) (pu (.call ⟨.builtin .len, #[(.tmp 12)], #[22]⟩) 3)⟩, 
 ⟨(some 14), none, .bin .neq false (.t 11) (.t 13) (pu (.binOp .neq 3 (.tmp 11) (.tmp 13) 3) 4)⟩])
 (.cond (.t 14) (.seq (.reg [⟨(some 6), none, .mv (.k (.sc (.bool false)))⟩])
  .ret)
 .skip))
 (.seq (.seq (.reg [⟨(some 15), none, .mv (.t 0)⟩, 
 ⟨(some 16), none, .len (.t 15) (pu (.call ⟨.builtin .len, #[(.tmp 15)], #[22]⟩) 3)⟩, 
 ⟨(some 17), none, .mv (.k (.sc (.int .i64 0)))⟩])
 (.block 0 (.loop (.seq (.reg [⟨(some 18), none, .bin .lss false (.t 17) (.t 16) (pu (.binOp .lss 3 (.tmp 17) (.tmp 16) 3) 0)⟩])
  (.seq (.cond (.t 18) .skip
  (.exit 0))
  (.seq (.block 1 (.seq (.reg [⟨(some 19), none, .mv (.t 17)⟩, 
  ⟨(some 20), none, .ixs 6 (.t 15) (.t 17)⟩, 
  ⟨(some 21), none, .ld (some 6) (.t 20)⟩, 
  ⟨(some 8), none, .al (.agg [(.sc (.int .i64 0)), (.sc (.string ⟨#[]⟩)), (.sc (.string ⟨#[]⟩)), (.sc (.int .i64 0)), (.sc (.bool false)), (.sc (.slice none 0 0))]) 6⟩, 
  ⟨(some 7), none, .mv (.t 19)⟩, 
  ⟨none, none, .st 6 (.t 8) (.t 21)⟩])
  (.seq (.reg [⟨(some 22), none, .mv (.t 1)⟩, 
  ⟨(some 23), none, .mv (.t 7)⟩, 
  ⟨(some 24), none, .ixs 6 (.t 22) (.t 23)⟩, 
  ⟨(some 25), none, .ld (some 6) (.t 24)⟩, 
  ⟨(some 9), none, .al (.agg [(.sc (.int .i64 0)), (.sc (.string ⟨#[]⟩)), (.sc (.string ⟨#[]⟩)), (.sc (.int .i64 0)), (.sc (.bool false)), (.sc (.slice none 0 0))]) 6⟩, 
  ⟨none, none, .st 6 (.t 9) (.t 25)⟩])
  (.seq (.reg [⟨(some 26), none, .mv (.t 2)⟩, 
  ⟨(some 27), none, .ld (some 6) (.t 8)⟩, 
  ⟨(some 28), none, .ld (some 6) (.t 9)⟩, 
  ⟨(some 29), none, .callv (.t 26) [(.t 27), (.t 28)]⟩, 
  ⟨(some 30), none, .un .not (.t 29) (pu (.unOp .not 4 (.tmp 29)) 4)⟩])
  (.cond (.t 30) (.seq (.reg [⟨(some 6), none, .mv (.k (.sc (.bool false)))⟩])
   .ret)
  .skip)))))
  (.reg [⟨(some 31), none, .bin .add false (.t 17) (.k (.sc (.int .i64 1))) (pu (.binOp .add 3 (.tmp 17) (.const (.int .i64 1)) 3) 3)⟩, 
  ⟨(some 17), none, .mv (.t 31)⟩])))))))
 (.seq (.reg [⟨(some 6), none, .mv (.k (.sc (.bool true)))⟩])
 .ret))))
def k39 : List Nat := [0, 1, 2, 6, 7, 8, 9, 14, 15, 16, 17, 18, 30]
theorem ic39 : factsI Try.prog 39 = some (32, [.tmp 6], c39) := by kernel_rfl

-- chargenet/directory.open (39 slots)
def c40 : IC :=
 (.seq (.reg [⟨(some 1), none, .bx (.t 0)⟩, 
 ⟨(some 2), none, .al (.agg [(.sc (.map none)), (.sc (.int .i64 0))]) 2⟩])
 (.seq (.drw [0, 1, 3, 7, 0, 16, 63, 0, 255] [⟨(some 6), none, .sh 1 (.t 1)⟩, 
 ⟨(some 7), none, .ld none (.t 6)⟩, 
 ⟨(some 8), none, .len (.t 7) (pu (.call ⟨.builtin .len, #[(.tmp 7)], #[22]⟩) 3)⟩, 
 ⟨(some 9), none, .mmk (some (.t 8))⟩, 
 ⟨(some 10), none, .sh 3 (.t 1)⟩, 
 ⟨(some 11), none, .ld none (.t 10)⟩, 
 ⟨(some 12), none, .bld [(.sc (.map none)), (.sc (.int .i64 0))] [(0, 1, (.t 9)), (1, 1, (.t 11))]⟩, 
 ⟨(some 3), none, .al (.agg [(.sc (.map none)), (.sc (.int .i64 0))]) 2⟩, 
 ⟨none, none, .st 2 (.t 3) (.t 12)⟩])
 (.seq (.seq (.reg [⟨(some 13), none, .sh 1 (.t 1)⟩, 
 ⟨(some 14), none, .ld none (.t 13)⟩, 
 ⟨(some 15), none, .len (.t 14) (pu (.call ⟨.builtin .len, #[(.tmp 14)], #[22]⟩) 3)⟩, 
 ⟨(some 16), none, .mv (.k (.sc (.int .i64 0)))⟩])
 (.block 0 (.loop (.seq (.reg [⟨(some 17), none, .bin .lss false (.t 16) (.t 15) (pu (.binOp .lss 3 (.tmp 16) (.tmp 15) 3) 0)⟩])
  (.seq (.cond (.t 17) .skip
  (.exit 0))
  (.seq (.block 1 (.seq (.reg [⟨(some 18), none, .mv (.t 16)⟩, 
  ⟨(some 19), none, .ixs 6 (.t 14) (.t 16)⟩, 
  ⟨(some 20), none, .ld (some 6) (.t 19)⟩, 
  ⟨(some 5), none, .al (.agg [(.sc (.int .i64 0)), (.sc (.string ⟨#[]⟩)), (.sc (.string ⟨#[]⟩)), (.sc (.int .i64 0)), (.sc (.bool false)), (.sc (.slice none 0 0))]) 6⟩, 
  ⟨(some 4), none, .mv (.t 18)⟩, 
  ⟨none, none, .st 6 (.t 5) (.t 20)⟩])
  (.seq (.seq (.reg [⟨(some 21), none, .mv (.t 4)⟩, 
  ⟨(some 22), none, .sh 2 (.t 1)⟩, 
  ⟨(some 23), none, .ld none (.t 22)⟩, 
  ⟨(some 24), none, .len (.t 23) (pu (.call ⟨.builtin .len, #[(.tmp 23)], #[23]⟩) 3)⟩, 
  ⟨(some 25), none, .bin .geq false (.t 21) (.t 24) (pu (.binOp .geq 3 (.tmp 21) (.tmp 24) 3) 4)⟩])
  (.cond (.t 25) (.exit 0)
  .skip))
  (.drw [0, 1, 0, 4, 0, 0, 32, 0, 224, 480, 1008, 2047] [⟨(some 26), none, .sh 0 (.t 3)⟩, 
  ⟨(some 27), none, .ld none (.t 26)⟩, 
  ⟨(some 28), none, .ld (some 6) (.t 5)⟩, 
  ⟨(some 29), none, .call 33 [(.t 28)]⟩, 
  ⟨(some 30), none, .ld (some 6) (.t 5)⟩, 
  ⟨(some 31), none, .sh 2 (.t 1)⟩, 
  ⟨(some 32), none, .ld none (.t 31)⟩, 
  ⟨(some 33), none, .mv (.t 4)⟩, 
  ⟨(some 34), none, .ixs 1 (.t 32) (.t 33)⟩, 
  ⟨(some 35), none, .ld none (.t 34)⟩, 
  ⟨(some 36), none, .bld [(.sc (.int .i64 0)), (.sc (.string ⟨#[]⟩)), (.sc (.string ⟨#[]⟩)), (.sc (.int .i64 0)), (.sc (.bool false)), (.sc (.slice none 0 0)), (.sc (.int .i64 0))] [(0, 6, (.t 30)), (6, 1, (.t 35))]⟩, 
  ⟨none, none, .mpt true [(.i .i64), .s, .s] (.t 27) (.t 29) (.t 36)⟩]))))
  (.reg [⟨(some 37), none, .bin .add false (.t 16) (.k (.sc (.int .i64 1))) (pu (.binOp .add 3 (.tmp 16) (.const (.int .i64 1)) 3) 3)⟩, 
  ⟨(some 16), none, .mv (.t 37)⟩])))))))
 (.seq (.reg [⟨(some 38), none, .ld (some 2) (.t 3)⟩, 
 ⟨none, none, .st 2 (.t 2) (.t 38)⟩])
 .ret))))
def k40 : List Nat := [0, 1, 2, 3, 4, 5, 14, 15, 16, 17, 25]
theorem ic40 : factsI Try.prog 40 = some (39, [.cell 2 75], c40) := by kernel_rfl

-- (*chargenet/directory.shelf).store (23 slots)
def c41 : IC :=
 (.seq (.reg [⟨(some 3), none, .bx (.t 1)⟩])
 (.seq (.drw [0, 1, 3, 7, 0, 16, 0, 0, 128, 384, 896, 1984, 4095] [⟨(some 4), none, .mv (.t 0)⟩, 
 ⟨(some 5), none, .nck (.t 4) (pu (.nilCheck (.tmp 4)) 0)⟩, 
 ⟨(some 6), none, .sh 0 (.t 5)⟩, 
 ⟨(some 7), none, .ld none (.t 6)⟩, 
 ⟨(some 8), none, .ld (some 6) (.t 3)⟩, 
 ⟨(some 9), none, .call 33 [(.t 8)]⟩, 
 ⟨(some 10), none, .ld (some 6) (.t 3)⟩, 
 ⟨(some 11), none, .mv (.t 0)⟩, 
 ⟨(some 12), none, .nck (.t 11) (pu (.nilCheck (.tmp 11)) 0)⟩, 
 ⟨(some 13), none, .sh 1 (.t 12)⟩, 
 ⟨(some 14), none, .ld none (.t 13)⟩, 
 ⟨(some 15), none, .bld [(.sc (.int .i64 0)), (.sc (.string ⟨#[]⟩)), (.sc (.string ⟨#[]⟩)), (.sc (.int .i64 0)), (.sc (.bool false)), (.sc (.slice none 0 0)), (.sc (.int .i64 0))] [(0, 6, (.t 10)), (6, 1, (.t 14))]⟩, 
 ⟨none, none, .mpt true [(.i .i64), .s, .s] (.t 7) (.t 9) (.t 15)⟩])
 (.reg [⟨(some 16), none, .mv (.t 0)⟩, 
 ⟨(some 17), none, .nck (.t 16) (pu (.nilCheck (.tmp 16)) 0)⟩, 
 ⟨(some 18), none, .sh 1 (.t 17)⟩, 
 ⟨(some 19), none, .ld none (.t 18)⟩, 
 ⟨(some 20), none, .bin .add false (.t 19) (.k (.sc (.int .i64 1))) (pu (.binOp .add 3 (.tmp 19) (.const (.int .i64 1)) 3) 3)⟩, 
 ⟨(some 21), none, .nck (.t 16) (pu (.nilCheck (.tmp 16)) 0)⟩, 
 ⟨(some 22), none, .sh 1 (.t 21)⟩, 
 ⟨none, none, .st 1 (.t 22) (.t 20)⟩])))
def k41 : List Nat := [0, 1, 3]
theorem ic41 : factsI Try.prog 41 = some (23, [], c41) := by kernel_rfl

-- (*chargenet/directory.shelf).close (61 slots)
def c42 : IC :=
 (.seq (.reg [⟨(some 4), none, .al (.agg [(.sc (.string ⟨#[]⟩)), (.sc (.slice none 0 0)), (.sc (.slice none 0 0)), (.sc (.int .i64 0))]) 4⟩])
 (.seq (.reg [⟨(some 11), none, .mv (.t 0)⟩, 
 ⟨(some 12), none, .nck (.t 11) (pu (.nilCheck (.tmp 11)) 0)⟩, 
 ⟨(some 13), none, .sh 0 (.t 12)⟩, 
 ⟨(some 14), none, .ld none (.t 13)⟩, 
 ⟨(some 15), none, .mln (.t 14) (pu (.call ⟨.builtin .len, #[(.tmp 14)], #[73]⟩) 3)⟩, 
 ⟨(some 16), none, .mks 7 88 (.agg [(.sc (.int .i64 0)), (.sc (.string ⟨#[]⟩)), (.sc (.string ⟨#[]⟩)), (.sc (.int .i64 0)), (.sc (.bool false)), (.sc (.slice none 0 0)), (.sc (.int .i64 0))]) (.k (.sc (.int .i64 0))) (.t 15)⟩, 
 ⟨(some 5), none, .mv (.t 16)⟩])
 (.seq (.seq (.reg [⟨(some 17), none, .mv (.t 0)⟩, 
 ⟨(some 18), none, .nck (.t 17) (pu (.nilCheck (.tmp 17)) 0)⟩, 
 ⟨(some 19), none, .sh 0 (.t 18)⟩, 
 ⟨(some 20), none, .ld none (.t 19)⟩, 
 ⟨(some 21), none, .opx (pu (.range 73 (.tmp 20)) 0)⟩])
 (.block 0 (.loop (.seq (.reg [⟨(some 22), none, .opx (pu (.next (.tmp 21) false) 0)⟩, 
  ⟨(some 23), none, .ext (.t 22) 0⟩])
  (.seq (.cond (.t 23) .skip
  (.exit 0))
  (.block 1 (.seq (.reg [⟨(some 24), none, .pur (pu (.entry (.tmp 21)) 0)⟩, 
  ⟨(some 25), none, .ext (.t 24) 1⟩, 
  ⟨(some 7), none, .al (.agg [(.sc (.int .i64 0)), (.sc (.string ⟨#[]⟩)), (.sc (.string ⟨#[]⟩)), (.sc (.int .i64 0)), (.sc (.bool false)), (.sc (.slice none 0 0)), (.sc (.int .i64 0))]) 7⟩, 
  ⟨none, none, .st 7 (.t 7) (.t 25)⟩])
  (.reg [⟨(some 26), none, .mv (.t 5)⟩, 
  ⟨(some 27), none, .ld (some 7) (.t 7)⟩, 
  ⟨(some 28), none, .bsl 7 1 true [(.sc (.int .i64 0)), (.sc (.string ⟨#[]⟩)), (.sc (.string ⟨#[]⟩)), (.sc (.int .i64 0)), (.sc (.bool false)), (.sc (.slice none 0 0)), (.sc (.int .i64 0))] [(0, 7, (.t 27))]⟩, 
  ⟨(some 29), none, .app 7 88 (.t 26) (.t 28)⟩, 
  ⟨(some 5), none, .mv (.t 29)⟩]))))))))
 (.seq (.reg [⟨(some 30), none, .mv (.t 5)⟩, 
 ⟨(some 31), none, .call 48 [(.t 30), (.k (.sc (.func (.func 49) #[] #[])))]⟩])
 (.seq (.reg [⟨(some 32), none, .mv (.t 1)⟩, 
 ⟨(some 33), none, .mv (.t 0)⟩, 
 ⟨(some 34), none, .nck (.t 33) (pu (.nilCheck (.tmp 33)) 0)⟩, 
 ⟨(some 35), none, .sh 1 (.t 34)⟩, 
 ⟨(some 36), none, .ld none (.t 35)⟩, 
 ⟨(some 37), none, .bld [(.sc (.string ⟨#[]⟩)), (.sc (.slice none 0 0)), (.sc (.slice none 0 0)), (.sc (.int .i64 0))] [(0, 1, (.t 32)), (3, 1, (.t 36))]⟩, 
 ⟨(some 8), none, .al (.agg [(.sc (.string ⟨#[]⟩)), (.sc (.slice none 0 0)), (.sc (.slice none 0 0)), (.sc (.int .i64 0))]) 4⟩, 
 ⟨none, none, .st 4 (.t 8) (.t 37)⟩])
 (.seq (.seq (.reg [⟨(some 38), none, .mv (.t 5)⟩, 
 ⟨(some 39), none, .len (.t 38) (pu (.call ⟨.builtin .len, #[(.tmp 38)], #[88]⟩) 3)⟩, 
 ⟨(some 40), none, .mv (.k (.sc (.int .i64 0)))⟩])
 (.block 2 (.loop (.seq (.reg [⟨(some 41), none, .bin .lss false (.t 40) (.t 39) (pu (.binOp .lss 3 (.tmp 40) (.tmp 39) 3) 0)⟩])
  (.seq (.cond (.t 41) .skip
  (.exit 2))
  (.seq (.block 3 (.seq (.reg [⟨(some 42), none, .ixs 7 (.t 38) (.t 40)⟩, 
  ⟨(some 43), none, .ld (some 7) (.t 42)⟩, 
  ⟨(some 10), none, .al (.agg [(.sc (.int .i64 0)), (.sc (.string ⟨#[]⟩)), (.sc (.string ⟨#[]⟩)), (.sc (.int .i64 0)), (.sc (.bool false)), (.sc (.slice none 0 0)), (.sc (.int .i64 0))]) 7⟩, 
  ⟨none, none, .st 7 (.t 10) (.t 43)⟩])
  (.seq (.drw [0, 1, 0, 4, 12, 28, 63, 127, 255] [⟨(some 44), none, .sh 1 (.t 8)⟩, 
  ⟨(some 45), none, .ld none (.t 44)⟩, 
  ⟨(some 46), none, .sh 0 (.t 10)⟩, 
  ⟨(some 47), none, .ld (some 6) (.t 46)⟩, 
  ⟨(some 48), none, .call 37 [(.t 47)]⟩, 
  ⟨(some 49), none, .bsl 6 1 true [(.sc (.int .i64 0)), (.sc (.string ⟨#[]⟩)), (.sc (.string ⟨#[]⟩)), (.sc (.int .i64 0)), (.sc (.bool false)), (.sc (.slice none 0 0))] [(0, 6, (.t 48))]⟩, 
  ⟨(some 50), none, .app 6 80 (.t 45) (.t 49)⟩, 
  ⟨(some 51), none, .sh 1 (.t 8)⟩, 
  ⟨none, none, .st 1 (.t 51) (.t 50)⟩])
  (.reg [⟨(some 52), none, .sh 2 (.t 8)⟩, 
  ⟨(some 53), none, .ld none (.t 52)⟩, 
  ⟨(some 54), none, .sh 6 (.t 10)⟩, 
  ⟨(some 55), none, .ld none (.t 54)⟩, 
  ⟨(some 56), none, .bsl 1 1 false [(.sc (.int .i64 0))] [(0, 1, (.t 55))]⟩, 
  ⟨(some 57), none, .app 1 8 (.t 53) (.t 56)⟩, 
  ⟨(some 58), none, .sh 2 (.t 8)⟩, 
  ⟨none, none, .st 1 (.t 58) (.t 57)⟩]))))
  (.reg [⟨(some 59), none, .bin .add false (.t 40) (.k (.sc (.int .i64 1))) (pu (.binOp .add 3 (.tmp 40) (.const (.int .i64 1)) 3) 3)⟩, 
  ⟨(some 40), none, .mv (.t 59)⟩])))))))
 (.seq (.reg [⟨(some 60), none, .ld (some 4) (.t 8)⟩, 
 ⟨none, none, .st 4 (.t 4) (.t 60)⟩])
 .ret)))))))
def k42 : List Nat := [0, 1, 4, 5, 7, 8, 10, 21, 23, 38, 39, 40, 41]
theorem ic42 : factsI Try.prog 42 = some (61, [.cell 4 25], c42) := by kernel_rfl

-- slices.ContainsFunc[[]chargenet/api.Object,chargenet/api.Object] (9 slots)
def c43 : IC :=
 (.seq (.reg [⟨(some 4), none, .mv (.k (.sc (.bool false)))⟩])
 (.seq (.reg [⟨(some 5), none, .mv (.t 0)⟩, 
 ⟨(some 6), none, .mv (.t 1)⟩, 
 ⟨(some 7), none, .call 53 [(.t 5), (.t 6)]⟩, 
 ⟨(some 8), none, .bin .geq false (.t 7) (.k (.sc (.int .i64 0))) (pu (.binOp .geq 3 (.tmp 7) (.const (.int .i64 0)) 3) 4)⟩, 
 ⟨(some 4), none, .mv (.t 8)⟩])
 .ret))
def k43 : List Nat := [0, 1, 4]
theorem ic43 : factsI Try.prog 43 = some (9, [.tmp 4], c43) := by kernel_rfl

-- chargenet/chargenetlaw45.contains$1 (7 slots)
def c44 : IC :=
 (.seq (.reg [⟨(some 2), none, .bx (.t 0)⟩, 
 ⟨(some 3), none, .mv (.k (.sc (.bool false)))⟩])
 (.seq (.reg [⟨(some 4), none, .ld (some 6) (.t 2)⟩, 
 ⟨(some 5), none, .ld (some 6) (.t 1)⟩, 
 ⟨(some 6), none, .call 18 [(.t 4), (.t 5)]⟩, 
 ⟨(some 3), none, .mv (.t 6)⟩])
 .ret))
def k44 : List Nat := [0, 1, 2, 3]
theorem ic44 : factsI Try.prog 44 = some (7, [.tmp 3], c44) := by kernel_rfl

-- slices.IndexFunc[[]chargenet/chargenetlaw45.Op,chargenet/chargenetlaw45.Op] (19 slots)
def c45 : IC :=
 (.seq (.reg [⟨(some 4), none, .mv (.k (.sc (.int .i64 0)))⟩])
 (.seq (.seq (.reg [⟨(some 6), none, .mv (.t 0)⟩, 
 ⟨(some 7), none, .len (.t 6) (pu (.call ⟨.builtin .len, #[(.tmp 6)], #[31]⟩) 3)⟩, 
 ⟨(some 8), none, .mv (.k (.sc (.int .i64 0)))⟩])
 (.block 0 (.loop (.seq (.reg [⟨(some 9), none, .bin .lss false (.t 8) (.t 7) (pu (.binOp .lss 3 (.tmp 8) (.tmp 7) 3) 0)⟩])
  (.seq (.cond (.t 9) .skip
  (.exit 0))
  (.seq (.block 1 (.seq (.reg [⟨(some 10), none, .mv (.t 8)⟩, 
  ⟨(some 5), none, .mv (.t 10)⟩])
  (.seq (.reg [⟨(some 11), none, .mv (.t 1)⟩, 
  ⟨(some 12), none, .mv (.t 0)⟩, 
  ⟨(some 13), none, .mv (.t 5)⟩, 
  ⟨(some 14), none, .ixs 2 (.t 12) (.t 13)⟩, 
  ⟨(some 15), none, .ld (some 2) (.t 14)⟩, 
  ⟨(some 16), none, .callv (.t 11) [(.t 15)]⟩])
  (.cond (.t 16) (.seq (.reg [⟨(some 17), none, .mv (.t 5)⟩, 
   ⟨(some 4), none, .mv (.t 17)⟩])
   .ret)
  .skip))))
  (.reg [⟨(some 18), none, .bin .add false (.t 8) (.k (.sc (.int .i64 1))) (pu (.binOp .add 3 (.tmp 8) (.const (.int .i64 1)) 3) 3)⟩, 
  ⟨(some 8), none, .mv (.t 18)⟩])))))))
 (.seq (.reg [⟨(some 4), none, .mv (.k (.sc (.int .i64 (-1))))⟩])
 .ret)))
def k45 : List Nat := [0, 1, 4, 5, 7, 8, 9, 16]
theorem ic45 : factsI Try.prog 45 = some (19, [.tmp 4], c45) := by kernel_rfl

-- chargenet/ident.value (35 slots)
def c46 : IC :=
 (.seq (.reg [⟨(some 2), none, .mv (.k (.sc (.int .i64 0)))⟩])
 (.seq (.block 0 (.seq (.reg [⟨(some 4), none, .mv (.t 0)⟩, 
 ⟨(some 5), none, .bin .geq false (.t 4) (.k (.sc (.int .i32 48))) (pu (.binOp .geq 21 (.tmp 4) (.const (.int .i32 48)) 21) 4)⟩, 
 ⟨(some 6), none, .mv (.t 5)⟩, 
 ⟨(some 7), (some ((some 6), true)), .mv (.t 0)⟩, 
 ⟨(some 8), (some ((some 6), true)), .bin .leq false (.t 7) (.k (.sc (.int .i32 57))) (pu (.binOp .leq 21 (.tmp 7) (.const (.int .i32 57)) 21) 4)⟩, 
 ⟨(some 9), none, .pick (.t 6) (.t 8) (.k (.sc (.bool false)))⟩, 
 ⟨(some 3), none, .mv (.t 9)⟩])
 (.cond (.t 3) (.seq (.reg [⟨(some 10), none, .mv (.t 0)⟩, 
  ⟨(some 11), none, .bin .sub false (.t 10) (.k (.sc (.int .i32 48))) (pu (.binOp .sub 21 (.tmp 10) (.const (.int .i32 48)) 21) 21)⟩, 
  ⟨(some 12), none, .pur (pu (.convert 21 3 (.tmp 11)) 3)⟩, 
  ⟨(some 2), none, .mv (.t 12)⟩])
  .ret)
 (.seq (.reg [⟨(some 14), none, .mv (.t 0)⟩, 
  ⟨(some 15), none, .bin .geq false (.t 14) (.k (.sc (.int .i32 65))) (pu (.binOp .geq 21 (.tmp 14) (.const (.int .i32 65)) 21) 4)⟩, 
  ⟨(some 16), none, .mv (.t 15)⟩, 
  ⟨(some 17), (some ((some 16), true)), .mv (.t 0)⟩, 
  ⟨(some 18), (some ((some 16), true)), .bin .leq false (.t 17) (.k (.sc (.int .i32 90))) (pu (.binOp .leq 21 (.tmp 17) (.const (.int .i32 90)) 21) 4)⟩, 
  ⟨(some 19), none, .pick (.t 16) (.t 18) (.k (.sc (.bool false)))⟩, 
  ⟨(some 13), none, .mv (.t 19)⟩])
  (.cond (.t 13) (.seq (.reg [⟨(some 20), none, .mv (.t 0)⟩, 
   ⟨(some 21), none, .bin .sub false (.t 20) (.k (.sc (.int .i32 65))) (pu (.binOp .sub 21 (.tmp 20) (.const (.int .i32 65)) 21) 21)⟩, 
   ⟨(some 22), none, .pur (pu (.convert 21 3 (.tmp 21)) 3)⟩, 
   ⟨(some 23), none, .bin .add false (.t 22) (.k (.sc (.int .i64 10))) (pu (.binOp .add 3 (.tmp 22) (.const (.int .i64 10)) 3) 3)⟩, 
   ⟨(some 2), none, .mv (.t 23)⟩])
   .ret)
  (.seq (.reg [⟨(some 25), none, .mv (.t 0)⟩, 
   ⟨(some 26), none, .bin .geq false (.t 25) (.k (.sc (.int .i32 97))) (pu (.binOp .geq 21 (.tmp 25) (.const (.int .i32 97)) 21) 4)⟩, 
   ⟨(some 27), none, .mv (.t 26)⟩, 
   ⟨(some 28), (some ((some 27), true)), .mv (.t 0)⟩, 
   ⟨(some 29), (some ((some 27), true)), .bin .leq false (.t 28) (.k (.sc (.int .i32 122))) (pu (.binOp .leq 21 (.tmp 28) (.const (.int .i32 122)) 21) 4)⟩, 
   ⟨(some 30), none, .pick (.t 27) (.t 29) (.k (.sc (.bool false)))⟩, 
   ⟨(some 24), none, .mv (.t 30)⟩])
   (.cond (.t 24) (.seq (.reg [⟨(some 31), none, .mv (.t 0)⟩, 
    ⟨(some 32), none, .bin .sub false (.t 31) (.k (.sc (.int .i32 97))) (pu (.binOp .sub 21 (.tmp 31) (.const (.int .i32 97)) 21) 21)⟩, 
    ⟨(some 33), none, .pur (pu (.convert 21 3 (.tmp 32)) 3)⟩, 
    ⟨(some 34), none, .bin .add false (.t 33) (.k (.sc (.int .i64 10))) (pu (.binOp .add 3 (.tmp 33) (.const (.int .i64 10)) 3) 3)⟩, 
    ⟨(some 2), none, .mv (.t 34)⟩])
    .ret)
   .skip)))))))
 (.seq (.reg [⟨(some 2), none, .mv (.k (.sc (.int .i64 (-1))))⟩])
 .ret)))
def k46 : List Nat := [0, 2, 3, 13, 24]
theorem ic46 : factsI Try.prog 46 = some (35, [.tmp 2], c46) := by kernel_rfl

-- chargenet/chargenetref01.Value (14 slots)
def c47 : IC :=
 (.seq (.reg [⟨(some 2), none, .mv (.k (.sc (.int .i64 0)))⟩])
 (.seq (.seq (.reg [⟨(some 3), none, .mv (.k (.sc (.int .i64 0)))⟩])
 (.block 0 (.loop (.seq (.seq (.reg [⟨(some 4), none, .mv (.t 3)⟩, 
  ⟨(some 5), none, .bin .lss false (.t 4) (.k (.sc (.int .i64 36))) (pu (.binOp .lss 3 (.tmp 4) (.const (.int .i64 36)) 3) 4)⟩])
  (.cond (.t 5) .skip
  (.exit 0)))
  (.seq (.block 1 (.seq (.drw [0, 1, 0, 4, 15] [⟨(some 8), none, .mv (.t 3)⟩, 
  ⟨(some 9), none, .pur (pu (.index 9 (.const (.string ⟨#[48, 49, 50, 51, 52, 53, 54, 55, 56, 57, 65, 66, 67, 68, 69, 70, 71, 72, 73, 74, 75, 76, 77, 78, 79, 80, 81, 82, 83, 84, 85, 86, 87, 88, 89, 90]⟩)) (.tmp 8)) 5)⟩, 
  ⟨(some 10), none, .mv (.t 0)⟩, 
  ⟨(some 11), none, .call 54 [(.t 10)]⟩, 
  ⟨(some 12), none, .bin .eql false (.t 9) (.t 11) (pu (.binOp .eql 5 (.tmp 9) (.tmp 11) 5) 4)⟩])
  (.cond (.t 12) (.seq (.reg [⟨(some 13), none, .mv (.t 3)⟩, 
   ⟨(some 2), none, .mv (.t 13)⟩])
   .ret)
  .skip)))
  (.reg [⟨(some 6), none, .mv (.t 3)⟩, 
  ⟨(some 7), none, .bin .add false (.t 6) (.k (.sc (.int .i64 1))) (pu (.binOp .add 3 (.tmp 6) (.const (.int .i64 1)) 3) 3)⟩, 
  ⟨(some 3), none, .mv (.t 7)⟩]))))))
 (.seq (.reg [⟨(some 2), none, .mv (.k (.sc (.int .i64 (-1))))⟩])
 .ret)))
def k47 : List Nat := [0, 2, 3, 5, 12]
theorem ic47 : factsI Try.prog 47 = some (14, [.tmp 2], c47) := by kernel_rfl

-- slices.SortFunc[[]chargenet/directory.marked,chargenet/directory.marked] (14 slots)
def c48 : IC :=
 (.seq (.reg [⟨(some 5), none, .mv (.t 0)⟩, 
 ⟨(some 6), none, .len (.t 5) (pu (.call ⟨.builtin .len, #[(.tmp 5)], #[88]⟩) 3)⟩, 
 ⟨(some 4), none, .mv (.t 6)⟩])
 (.reg [⟨(some 7), none, .mv (.t 0)⟩, 
 ⟨(some 8), none, .mv (.t 4)⟩, 
 ⟨(some 9), none, .mv (.t 4)⟩, 
 ⟨(some 10), none, .pur (pu (.convert 3 98 (.tmp 9)) 98)⟩, 
 ⟨(some 11), none, .call 56 [(.t 10)]⟩, 
 ⟨(some 12), none, .mv (.t 1)⟩, 
 ⟨(some 13), none, .call 55 [(.t 7), (.k (.sc (.int .i64 0))), (.t 8), (.t 11), (.t 12)]⟩]))
def k48 : List Nat := [0, 1, 4]
theorem ic48 : factsI Try.prog 48 = some (14, [], c48) := by kernel_rfl

-- (*chargenet/directory.shelf).close$1 (33 slots)
def c49 : IC :=
 (.seq (.reg [⟨(some 2), none, .bx (.t 0)⟩, 
 ⟨(some 3), none, .bx (.t 1)⟩, 
 ⟨(some 4), none, .mv (.k (.sc (.int .i64 0)))⟩])
 (.seq (.drw [0, 1, 0, 4, 15, 0, 32, 96, 0, 256, 768, 2047, 0, 4096, 12288, 0, 32768, 98304, 262143, 0, 524288, 1572864, 0, 4194304, 12582912, 33554431, 67108863, 134217727, 268435455] [⟨(some 5), none, .sh 6 (.t 2)⟩, 
 ⟨(some 6), none, .ld none (.t 5)⟩, 
 ⟨(some 7), none, .sh 6 (.t 3)⟩, 
 ⟨(some 8), none, .ld none (.t 7)⟩, 
 ⟨(some 9), none, .call 51 [(.t 6), (.t 8)]⟩, 
 ⟨(some 10), none, .sh 0 (.t 2)⟩, 
 ⟨(some 11), none, .sh 0 (.t 10)⟩, 
 ⟨(some 12), none, .ld none (.t 11)⟩, 
 ⟨(some 13), none, .sh 0 (.t 3)⟩, 
 ⟨(some 14), none, .sh 0 (.t 13)⟩, 
 ⟨(some 15), none, .ld none (.t 14)⟩, 
 ⟨(some 16), none, .call 51 [(.t 12), (.t 15)]⟩, 
 ⟨(some 17), none, .sh 0 (.t 2)⟩, 
 ⟨(some 18), none, .sh 2 (.t 17)⟩, 
 ⟨(some 19), none, .ld none (.t 18)⟩, 
 ⟨(some 20), none, .sh 0 (.t 3)⟩, 
 ⟨(some 21), none, .sh 2 (.t 20)⟩, 
 ⟨(some 22), none, .ld none (.t 21)⟩, 
 ⟨(some 23), none, .call 52 [(.t 19), (.t 22)]⟩, 
 ⟨(some 24), none, .sh 0 (.t 2)⟩, 
 ⟨(some 25), none, .sh 1 (.t 24)⟩, 
 ⟨(some 26), none, .ld none (.t 25)⟩, 
 ⟨(some 27), none, .sh 0 (.t 3)⟩, 
 ⟨(some 28), none, .sh 1 (.t 27)⟩, 
 ⟨(some 29), none, .ld none (.t 28)⟩, 
 ⟨(some 30), none, .call 52 [(.t 26), (.t 29)]⟩, 
 ⟨(some 31), none, .bsl 1 4 false [(.sc (.int .i64 0)), (.sc (.int .i64 0)), (.sc (.int .i64 0)), (.sc (.int .i64 0))] [(0, 1, (.t 9)), (1, 1, (.t 16)), (2, 1, (.t 23)), (3, 1, (.t 30))]⟩, 
 ⟨(some 32), none, .call 50 [(.t 31)]⟩, 
 ⟨(some 4), none, .mv (.t 32)⟩])
 .ret))
def k49 : List Nat := [0, 1, 2, 3, 4]
theorem ic49 : factsI Try.prog 49 = some (33, [.tmp 4], c49) := by kernel_rfl

-- cmp.Or[int] (18 slots)
def c50 : IC :=
 (.seq (.reg [⟨(some 2), none, .mv (.k (.sc (.int .i64 0)))⟩])
 (.seq (.reg [⟨(some 3), none, .mv (.k (.sc (.int .i64 0)))⟩])
 (.seq (.seq (.reg [⟨(some 6), none, .mv (.t 0)⟩, 
 ⟨(some 7), none, .len (.t 6) (pu (.call ⟨.builtin .len, #[(.tmp 6)], #[23]⟩) 3)⟩, 
 ⟨(some 8), none, .mv (.k (.sc (.int .i64 0)))⟩])
 (.block 0 (.loop (.seq (.reg [⟨(some 9), none, .bin .lss false (.t 8) (.t 7) (pu (.binOp .lss 3 (.tmp 8) (.tmp 7) 3) 0)⟩])
  (.seq (.cond (.t 9) .skip
  (.exit 0))
  (.seq (.block 1 (.seq (.reg [⟨(some 10), none, .ixs 1 (.t 6) (.t 8)⟩, 
  ⟨(some 11), none, .ld none (.t 10)⟩, 
  ⟨(some 5), none, .mv (.t 11)⟩])
  (.seq (.reg [⟨(some 12), none, .mv (.t 5)⟩, 
  ⟨(some 13), none, .mv (.t 3)⟩, 
  ⟨(some 14), none, .bin .neq false (.t 12) (.t 13) (pu (.binOp .neq 3 (.tmp 12) (.tmp 13) 3) 4)⟩])
  (.cond (.t 14) (.seq (.reg [⟨(some 15), none, .mv (.t 5)⟩, 
   ⟨(some 2), none, .mv (.t 15)⟩])
   .ret)
  .skip))))
  (.reg [⟨(some 16), none, .bin .add false (.t 8) (.k (.sc (.int .i64 1))) (pu (.binOp .add 3 (.tmp 8) (.const (.int .i64 1)) 3) 3)⟩, 
  ⟨(some 8), none, .mv (.t 16)⟩])))))))
 (.seq (.reg [⟨(some 17), none, .mv (.t 3)⟩, 
 ⟨(some 2), none, .mv (.t 17)⟩])
 .ret))))
def k50 : List Nat := [0, 2, 3, 5, 6, 7, 8, 9, 14]
theorem ic50 : factsI Try.prog 50 = some (18, [.tmp 2], c50) := by kernel_rfl

-- cmp.Compare[int] (20 slots)
def c51 : IC :=
 (.seq (.reg [⟨(some 4), none, .mv (.k (.sc (.int .i64 0)))⟩])
 (.seq (.reg [⟨(some 7), none, .mv (.t 0)⟩, 
 ⟨(some 8), none, .call 57 [(.t 7)]⟩, 
 ⟨(some 5), none, .mv (.t 8)⟩])
 (.seq (.reg [⟨(some 9), none, .mv (.t 1)⟩, 
 ⟨(some 10), none, .call 57 [(.t 9)]⟩, 
 ⟨(some 6), none, .mv (.t 10)⟩])
 (.seq (.seq (.reg [⟨(some 11), none, .mv (.t 5)⟩])
 (.cond (.t 11) (.seq (.seq (.reg [⟨(some 12), none, .mv (.t 6)⟩])
  (.cond (.t 12) (.seq (.reg [⟨(some 4), none, .mv (.k (.sc (.int .i64 0)))⟩])
   .ret)
  .skip))
  (.seq (.reg [⟨(some 4), none, .mv (.k (.sc (.int .i64 (-1))))⟩])
  .ret))
 .skip))
 (.seq (.seq (.reg [⟨(some 13), none, .mv (.t 6)⟩])
 (.cond (.t 13) (.seq (.reg [⟨(some 4), none, .mv (.k (.sc (.int .i64 1)))⟩])
  .ret)
 .skip))
 (.seq (.seq (.reg [⟨(some 14), none, .mv (.t 0)⟩, 
 ⟨(some 15), none, .mv (.t 1)⟩, 
 ⟨(some 16), none, .bin .lss false (.t 14) (.t 15) (pu (.binOp .lss 3 (.tmp 14) (.tmp 15) 3) 4)⟩])
 (.cond (.t 16) (.seq (.reg [⟨(some 4), none, .mv (.k (.sc (.int .i64 (-1))))⟩])
  .ret)
 .skip))
 (.seq (.seq (.reg [⟨(some 17), none, .mv (.t 0)⟩, 
 ⟨(some 18), none, .mv (.t 1)⟩, 
 ⟨(some 19), none, .bin .gtr false (.t 17) (.t 18) (pu (.binOp .gtr 3 (.tmp 17) (.tmp 18) 3) 4)⟩])
 (.cond (.t 19) (.seq (.reg [⟨(some 4), none, .mv (.k (.sc (.int .i64 1)))⟩])
  .ret)
 .skip))
 (.seq (.reg [⟨(some 4), none, .mv (.k (.sc (.int .i64 0)))⟩])
 .ret))))))))
def k51 : List Nat := [0, 1, 4, 5, 6, 11, 12, 13, 16, 19]
theorem ic51 : factsI Try.prog 51 = some (20, [.tmp 4], c51) := by kernel_rfl

-- cmp.Compare[string] (20 slots)
def c52 : IC :=
 (.seq (.reg [⟨(some 4), none, .mv (.k (.sc (.int .i64 0)))⟩])
 (.seq (.reg [⟨(some 7), none, .mv (.t 0)⟩, 
 ⟨(some 8), none, .call 58 [(.t 7)]⟩, 
 ⟨(some 5), none, .mv (.t 8)⟩])
 (.seq (.reg [⟨(some 9), none, .mv (.t 1)⟩, 
 ⟨(some 10), none, .call 58 [(.t 9)]⟩, 
 ⟨(some 6), none, .mv (.t 10)⟩])
 (.seq (.seq (.reg [⟨(some 11), none, .mv (.t 5)⟩])
 (.cond (.t 11) (.seq (.seq (.reg [⟨(some 12), none, .mv (.t 6)⟩])
  (.cond (.t 12) (.seq (.reg [⟨(some 4), none, .mv (.k (.sc (.int .i64 0)))⟩])
   .ret)
  .skip))
  (.seq (.reg [⟨(some 4), none, .mv (.k (.sc (.int .i64 (-1))))⟩])
  .ret))
 .skip))
 (.seq (.seq (.reg [⟨(some 13), none, .mv (.t 6)⟩])
 (.cond (.t 13) (.seq (.reg [⟨(some 4), none, .mv (.k (.sc (.int .i64 1)))⟩])
  .ret)
 .skip))
 (.seq (.seq (.reg [⟨(some 14), none, .mv (.t 0)⟩, 
 ⟨(some 15), none, .mv (.t 1)⟩, 
 ⟨(some 16), none, .bin .lss false (.t 14) (.t 15) (pu (.binOp .lss 9 (.tmp 14) (.tmp 15) 9) 4)⟩])
 (.cond (.t 16) (.seq (.reg [⟨(some 4), none, .mv (.k (.sc (.int .i64 (-1))))⟩])
  .ret)
 .skip))
 (.seq (.seq (.reg [⟨(some 17), none, .mv (.t 0)⟩, 
 ⟨(some 18), none, .mv (.t 1)⟩, 
 ⟨(some 19), none, .bin .gtr false (.t 17) (.t 18) (pu (.binOp .gtr 9 (.tmp 17) (.tmp 18) 9) 4)⟩])
 (.cond (.t 19) (.seq (.reg [⟨(some 4), none, .mv (.k (.sc (.int .i64 1)))⟩])
  .ret)
 .skip))
 (.seq (.reg [⟨(some 4), none, .mv (.k (.sc (.int .i64 0)))⟩])
 .ret))))))))
def k52 : List Nat := [0, 1, 4, 5, 6, 11, 12, 13, 16, 19]
theorem ic52 : factsI Try.prog 52 = some (20, [.tmp 4], c52) := by kernel_rfl

-- slices.IndexFunc[[]chargenet/api.Object,chargenet/api.Object] (19 slots)
def c53 : IC :=
 (.seq (.reg [⟨(some 4), none, .mv (.k (.sc (.int .i64 0)))⟩])
 (.seq (.seq (.reg [⟨(some 6), none, .mv (.t 0)⟩, 
 ⟨(some 7), none, .len (.t 6) (pu (.call ⟨.builtin .len, #[(.tmp 6)], #[22]⟩) 3)⟩, 
 ⟨(some 8), none, .mv (.k (.sc (.int .i64 0)))⟩])
 (.block 0 (.loop (.seq (.reg [⟨(some 9), none, .bin .lss false (.t 8) (.t 7) (pu (.binOp .lss 3 (.tmp 8) (.tmp 7) 3) 0)⟩])
  (.seq (.cond (.t 9) .skip
  (.exit 0))
  (.seq (.block 1 (.seq (.reg [⟨(some 10), none, .mv (.t 8)⟩, 
  ⟨(some 5), none, .mv (.t 10)⟩])
  (.seq (.reg [⟨(some 11), none, .mv (.t 1)⟩, 
  ⟨(some 12), none, .mv (.t 0)⟩, 
  ⟨(some 13), none, .mv (.t 5)⟩, 
  ⟨(some 14), none, .ixs 6 (.t 12) (.t 13)⟩, 
  ⟨(some 15), none, .ld (some 6) (.t 14)⟩, 
  ⟨(some 16), none, .callv (.t 11) [(.t 15)]⟩])
  (.cond (.t 16) (.seq (.reg [⟨(some 17), none, .mv (.t 5)⟩, 
   ⟨(some 4), none, .mv (.t 17)⟩])
   .ret)
  .skip))))
  (.reg [⟨(some 18), none, .bin .add false (.t 8) (.k (.sc (.int .i64 1))) (pu (.binOp .add 3 (.tmp 8) (.const (.int .i64 1)) 3) 3)⟩, 
  ⟨(some 8), none, .mv (.t 18)⟩])))))))
 (.seq (.reg [⟨(some 4), none, .mv (.k (.sc (.int .i64 (-1))))⟩])
 .ret)))
def k53 : List Nat := [0, 1, 4, 5, 7, 8, 9, 16]
theorem ic53 : factsI Try.prog 53 = some (19, [.tmp 4], c53) := by kernel_rfl

-- chargenet/chargenetref01.Capital (12 slots)
def c54 : IC :=
 (.seq (.reg [⟨(some 2), none, .mv (.k (.sc (.int .u8 0)))⟩])
 (.seq (.seq (.reg [⟨(some 3), none, .mv (.t 0)⟩, 
 ⟨(some 4), none, .bin .geq false (.t 3) (.k (.sc (.int .u8 97))) (pu (.binOp .geq 5 (.tmp 3) (.const (.int .u8 97)) 5) 4)⟩, 
 ⟨(some 5), none, .mv (.t 4)⟩, 
 ⟨(some 6), (some ((some 5), true)), .mv (.t 0)⟩, 
 ⟨(some 7), (some ((some 5), true)), .bin .leq false (.t 6) (.k (.sc (.int .u8 122))) (pu (.binOp .leq 5 (.tmp 6) (.const (.int .u8 122)) 5) 4)⟩, 
 ⟨(some 8), none, .pick (.t 5) (.t 7) (.k (.sc (.bool false)))⟩])
 (.cond (.t 8) (.seq (.reg [⟨(some 9), none, .mv (.t 0)⟩, 
  ⟨(some 10), none, .bin .sub false (.t 9) (.k (.sc (.int .u8 32))) (pu (.binOp .sub 5 (.tmp 9) (.const (.int .u8 32)) 5) 5)⟩, 
  ⟨(some 2), none, .mv (.t 10)⟩])
  .ret)
 .skip))
 (.seq (.reg [⟨(some 11), none, .mv (.t 0)⟩, 
 ⟨(some 2), none, .mv (.t 11)⟩])
 .ret)))
def k54 : List Nat := [0, 2, 8]
theorem ic54 : factsI Try.prog 54 = some (12, [.tmp 2], c54) := by kernel_rfl

-- slices.pdqsortCmpFunc[chargenet/directory.marked] (148 slots)
def c55 : IC :=
 (.seq (.reg [⟨(some 10), none, .mv (.k (.sc (.bool true)))⟩])
 (.seq (.reg [⟨(some 11), none, .mv (.k (.sc (.bool true)))⟩])
 (.block 0 (.loop (.block 1 (.seq (.reg [⟨(some 21), none, .mv (.t 2)⟩, 
  ⟨(some 22), none, .mv (.t 1)⟩, 
  ⟨(some 23), none, .bin .sub false (.t 21) (.t 22) (pu (.binOp .sub 3 (.tmp 21) (.tmp 22) 3) 3)⟩, 
  ⟨(some 12), none, .mv (.t 23)⟩])
  (.seq (.seq (.reg [⟨(some 24), none, .mv (.t 12)⟩, 
  ⟨(some 25), none, .bin .leq false (.t 24) (.k (.sc (.int .i64 12))) (pu (.binOp .leq 3 (.tmp 24) (.const (.int .i64 12)) 3) 4)⟩])
  (.cond (.t 25) (.seq (.reg [⟨(some 26), none, .mv (.t 0)⟩, 
   ⟨(some 27), none, .mv (.t 1)⟩, 
   ⟨(some 28), none, .mv (.t 2)⟩, 
   ⟨(some 29), none, .mv (.t 4)⟩, 
   ⟨(some 30), none, .call 59 [(.t 26), (.t 27), (.t 28), (.t 29)]⟩])
   .ret)
  .skip))
  (.seq (.seq (.reg [⟨(some 31), none, .mv (.t 3)⟩, 
  ⟨(some 32), none, .bin .eql false (.t 31) (.k (.sc (.int .i64 0))) (pu (.binOp .eql 3 (.tmp 31) (.const (.int .i64 0)) 3) 4)⟩])
  (.cond (.t 32) (.seq (.reg [⟨(some 33), none, .mv (.t 0)⟩, 
   ⟨(some 34), none, .mv (.t 1)⟩, 
   ⟨(some 35), none, .mv (.t 2)⟩, 
   ⟨(some 36), none, .mv (.t 4)⟩, 
   ⟨(some 37), none, .call 60 [(.t 33), (.t 34), (.t 35), (.t 36)]⟩])
   .ret)
  .skip))
  (.seq (.seq (.reg [⟨(some 38), none, .mv (.t 10)⟩, 
  ⟨(some 39), none, .un .not (.t 38) (pu (.unOp .not 4 (.tmp 38)) 4)⟩])
  (.cond (.t 39) (.seq (.reg [⟨(some 40), none, .mv (.t 0)⟩, 
   ⟨(some 41), none, .mv (.t 1)⟩, 
   ⟨(some 42), none, .mv (.t 2)⟩, 
   ⟨(some 43), none, .mv (.t 4)⟩, 
   ⟨(some 44), none, .call 61 [(.t 40), (.t 41), (.t 42), (.t 43)]⟩])
   (.reg [⟨(some 45), none, .mv (.t 3)⟩, 
   ⟨(some 46), none, .bin .sub false (.t 45) (.k (.sc (.int .i64 1))) (pu (.binOp .sub 3 (.tmp 45) (.const (.int .i64 1)) 3) 3)⟩, 
   ⟨(some 3), none, .mv (.t 46)⟩]))
  .skip))
  (.seq (.reg [⟨(some 48), none, .mv (.t 0)⟩, 
  ⟨(some 49), none, .mv (.t 1)⟩, 
  ⟨(some 50), none, .mv (.t 2)⟩, 
  ⟨(some 51), none, .mv (.t 4)⟩, 
  ⟨(some 52), none, .call 62 [(.t 48), (.t 49), (.t 50), (.t 51)]⟩, 
  ⟨(some 47), none, .mv (.t 52)⟩, 
  ⟨(some 53), none, .ext (.t 47) 0⟩, 
  ⟨(some 54), none, .ext (.t 47) 1⟩, 
  ⟨(some 13), none, .mv (.t 53)⟩, 
  ⟨(some 14), none, .mv (.t 54)⟩])
  (.seq (.seq (.reg [⟨(some 55), none, .mv (.t 14)⟩, 
  ⟨(some 56), none, .bin .eql false (.t 55) (.k (.sc (.int .i64 2))) (pu (.binOp .eql 101 (.tmp 55) (.const (.int .i64 2)) 101) 4)⟩])
  (.cond (.t 56) (.seq (.reg [⟨(some 57), none, .mv (.t 0)⟩, 
   ⟨(some 58), none, .mv (.t 1)⟩, 
   ⟨(some 59), none, .mv (.t 2)⟩, 
   ⟨(some 60), none, .mv (.t 4)⟩, 
   ⟨(some 61), none, .call 63 [(.t 57), (.t 58), (.t 59), (.t 60)]⟩])
   (.seq (.reg [⟨(some 62), none, .mv (.t 2)⟩, 
   ⟨(some 63), none, .bin .sub false (.t 62) (.k (.sc (.int .i64 1))) (pu (.binOp .sub 3 (.tmp 62) (.const (.int .i64 1)) 3) 3)⟩, 
   ⟨(some 64), none, .mv (.t 13)⟩, 
   ⟨(some 65), none, .mv (.t 1)⟩, 
   ⟨(some 66), none, .bin .sub false (.t 64) (.t 65) (pu (.binOp .sub 3 (.tmp 64) (.tmp 65) 3) 3)⟩, 
   ⟨(some 67), none, .bin .sub false (.t 63) (.t 66) (pu (.binOp .sub 3 (.tmp 63) (.tmp 66) 3) 3)⟩, 
   ⟨(some 13), none, .mv (.t 67)⟩])
   (.reg [⟨(some 14), none, .mv (.k (.sc (.int .i64 1)))⟩])))
  .skip))
  (.seq (.seq (.reg [⟨(some 68), none, .mv (.t 10)⟩, 
  ⟨(some 69), none, .mv (.t 68)⟩, 
  ⟨(some 70), (some ((some 69), true)), .mv (.t 11)⟩, 
  ⟨(some 71), none, .pick (.t 69) (.t 70) (.k (.sc (.bool false)))⟩, 
  ⟨(some 72), none, .mv (.t 71)⟩, 
  ⟨(some 73), (some ((some 72), true)), .mv (.t 14)⟩, 
  ⟨(some 74), (some ((some 72), true)), .bin .eql false (.t 73) (.k (.sc (.int .i64 1))) (pu (.binOp .eql 101 (.tmp 73) (.const (.int .i64 1)) 101) 4)⟩, 
  ⟨(some 75), none, .pick (.t 72) (.t 74) (.k (.sc (.bool false)))⟩])
  (.cond (.t 75) (.seq (.reg [⟨(some 76), none, .mv (.t 0)⟩, 
   ⟨(some 77), none, .mv (.t 1)⟩, 
   ⟨(some 78), none, .mv (.t 2)⟩, 
   ⟨(some 79), none, .mv (.t 4)⟩, 
   ⟨(some 80), none, .call 64 [(.t 76), (.t 77), (.t 78), (.t 79)]⟩])
   (.cond (.t 80) .ret
   .skip))
  .skip))
  (.seq (.seq (.drw [0, 1, 3, 7, 7, 7, 39, 119, 247, 7, 7, 1543, 3591, 8191, 16383, 32767, 65535] [⟨(some 81), none, .mv (.t 1)⟩, 
  ⟨(some 82), none, .bin .gtr false (.t 81) (.k (.sc (.int .i64 0))) (pu (.binOp .gtr 3 (.tmp 81) (.const (.int .i64 0)) 3) 4)⟩, 
  ⟨(some 83), none, .mv (.t 82)⟩, 
  ⟨(some 84), (some ((some 83), true)), .mv (.t 4)⟩, 
  ⟨(some 85), (some ((some 83), true)), .mv (.t 0)⟩, 
  ⟨(some 86), (some ((some 83), true)), .mv (.t 1)⟩, 
  ⟨(some 87), (some ((some 83), true)), .bin .sub false (.t 86) (.k (.sc (.int .i64 1))) (pu (.binOp .sub 3 (.tmp 86) (.const (.int .i64 1)) 3) 3)⟩, 
  ⟨(some 88), (some ((some 83), true)), .ixs 7 (.t 85) (.t 87)⟩, 
  ⟨(some 89), (some ((some 83), true)), .ld (some 7) (.t 88)⟩, 
  ⟨(some 90), (some ((some 83), true)), .mv (.t 0)⟩, 
  ⟨(some 91), (some ((some 83), true)), .mv (.t 13)⟩, 
  ⟨(some 92), (some ((some 83), true)), .ixs 7 (.t 90) (.t 91)⟩, 
  ⟨(some 93), (some ((some 83), true)), .ld (some 7) (.t 92)⟩, 
  ⟨(some 94), (some ((some 83), true)), .callv (.t 84) [(.t 89), (.t 93)]⟩, 
  ⟨(some 95), (some ((some 83), true)), .bin .lss false (.t 94) (.k (.sc (.int .i64 0))) (pu (.binOp .lss 3 (.tmp 94) (.const (.int .i64 0)) 3) 4)⟩, 
  ⟨(some 96), (some ((some 83), true)), .un .not (.t 95) (pu (.unOp .not 4 (.tmp 95)) 4)⟩, 
  ⟨(some 97), none, .pick (.t 83) (.t 96) (.k (.sc (.bool false)))⟩])
  (.cond (.t 97) (.seq (.reg [⟨(some 98), none, .mv (.t 0)⟩, 
   ⟨(some 99), none, .mv (.t 1)⟩, 
   ⟨(some 100), none, .mv (.t 2)⟩, 
   ⟨(some 101), none, .mv (.t 13)⟩, 
   ⟨(some 102), none, .mv (.t 4)⟩, 
   ⟨(some 103), none, .call 65 [(.t 98), (.t 99), (.t 100), (.t 101), (.t 102)]⟩, 
   ⟨(some 15), none, .mv (.t 103)⟩])
   (.seq (.reg [⟨(some 104), none, .mv (.t 15)⟩, 
   ⟨(some 1), none, .mv (.t 104)⟩])
   (.exit 1)))
  .skip))
  (.seq (.reg [⟨(some 106), none, .mv (.t 0)⟩, 
  ⟨(some 107), none, .mv (.t 1)⟩, 
  ⟨(some 108), none, .mv (.t 2)⟩, 
  ⟨(some 109), none, .mv (.t 13)⟩, 
  ⟨(some 110), none, .mv (.t 4)⟩, 
  ⟨(some 111), none, .call 66 [(.t 106), (.t 107), (.t 108), (.t 109), (.t 110)]⟩, 
  ⟨(some 105), none, .mv (.t 111)⟩, 
  ⟨(some 112), none, .ext (.t 105) 0⟩, 
  ⟨(some 113), none, .ext (.t 105) 1⟩, 
  ⟨(some 16), none, .mv (.t 112)⟩, 
  ⟨(some 17), none, .mv (.t 113)⟩])
  (.seq (.reg [⟨(some 114), none, .mv (.t 17)⟩, 
  ⟨(some 11), none, .mv (.t 114)⟩])
  (.seq (.reg [⟨(some 115), none, .mv (.t 16)⟩, 
  ⟨(some 116), none, .mv (.t 1)⟩, 
  ⟨(some 117), none, .bin .sub false (.t 115) (.t 116) (pu (.binOp .sub 3 (.tmp 115) (.tmp 116) 3) 3)⟩, 
  ⟨(some 118), none, .mv (.t 2)⟩, 
  ⟨(some 119), none, .mv (.t 16)⟩, 
  ⟨(some 120), none, .bin .sub false (.t 118) (.t 119) (pu (.binOp .sub 3 (.tmp 118) (.tmp 119) 3) 3)⟩, 
  ⟨(some 18), none, .mv (.t 117)⟩, 
  ⟨(some 19), none, .mv (.t 120)⟩])
  (.seq (.reg [⟨(some 121), none, .mv (.t 12)⟩, 
  ⟨(some 122), none, .bin .quo false (.t 121) (.k (.sc (.int .i64 8))) (pu (.binOp .quo 3 (.tmp 121) (.const (.int .i64 8)) 3) 3)⟩, 
  ⟨(some 20), none, .mv (.t 122)⟩])
  (.seq (.reg [⟨(some 123), none, .mv (.t 18)⟩, 
  ⟨(some 124), none, .mv (.t 19)⟩, 
  ⟨(some 125), none, .bin .lss false (.t 123) (.t 124) (pu (.binOp .lss 3 (.tmp 123) (.tmp 124) 3) 4)⟩])
  (.cond (.t 125) (.seq (.reg [⟨(some 126), none, .mv (.t 18)⟩, 
   ⟨(some 127), none, .mv (.t 20)⟩, 
   ⟨(some 128), none, .bin .geq false (.t 126) (.t 127) (pu (.binOp .geq 3 (.tmp 126) (.tmp 127) 3) 4)⟩, 
   ⟨(some 10), none, .mv (.t 128)⟩])
   (.seq (.reg [⟨(some 129), none, .mv (.t 0)⟩, 
   ⟨(some 130), none, .mv (.t 1)⟩, 
   ⟨(some 131), none, .mv (.t 16)⟩, 
   ⟨(some 132), none, .mv (.t 3)⟩, 
   ⟨(some 133), none, .mv (.t 4)⟩, 
   ⟨(some 134), none, .call 55 [(.t 129), (.t 130), (.t 131), (.t 132), (.t 133)]⟩])
   (.reg [⟨(some 135), none, .mv (.t 16)⟩, 
   ⟨(some 136), none, .bin .add false (.t 135) (.k (.sc (.int .i64 1))) (pu (.binOp .add 3 (.tmp 135) (.const (.int .i64 1)) 3) 3)⟩, 
   ⟨(some 1), none, .mv (.t 136)⟩])))
  (.seq (.reg [⟨(some 137), none, .mv (.t 19)⟩, 
   ⟨(some 138), none, .mv (.t 20)⟩, 
   ⟨(some 139), none, .bin .geq false (.t 137) (.t 138) (pu (.binOp .geq 3 (.tmp 137) (.tmp 138) 3) 4)⟩, 
   ⟨(some 10), none, .mv (.t 139)⟩])
   (.seq (.reg [⟨(some 140), none, .mv (.t 0)⟩, 
   ⟨(some 141), none, .mv (.t 16)⟩, 
   ⟨(some 142), none, .bin .add false (.t 141) (.k (.sc (.int .i64 1))) (pu (.binOp .add 3 (.tmp 141) (.const (.int .i64 1)) 3) 3)⟩, 
   ⟨(some 143), none, .mv (.t 2)⟩, 
   ⟨(some 144), none, .mv (.t 3)⟩, 
   ⟨(some 145), none, .mv (.t 4)⟩, 
   ⟨(some 146), none, .call 55 [(.t 140), (.t 142), (.t 143), (.t 144), (.t 145)]⟩])
   (.reg [⟨(some 147), none, .mv (.t 16)⟩, 
   ⟨(some 2), none, .mv (.t 147)⟩]))))))))))))))))))))))
def k55 : List Nat := [0, 1, 2, 3, 4, 10, 11, 12, 13, 14, 15, 16, 17, 18, 19, 20, 25, 32, 39, 56, 75, 80, 97, 125]
theorem ic55 : factsI Try.prog 55 = some (148, [], c55) := by kernel_rfl

-- math/bits.Len (8 slots)
def c56 : IC :=
 (.seq (.reg [⟨(some 2), none, .mv (.k (.sc (.int .i64 0)))⟩])
 (.seq (.cond (.k (.sc (.bool false))) (.seq (.reg [⟨(some 3), none, .mv (.t 0)⟩, 
  ⟨(some 4), none, .pur (pu (.convert 98 109 (.tmp 3)) 109)⟩, 
  ⟨(some 5), none, .call 67 [(.t 4)]⟩, 
  ⟨(some 2), none, .mv (.t 5)⟩])
  .ret)
 .skip)
 (.seq (.reg [⟨(some 6), none, .mv (.t 0)⟩, 
 ⟨(some 7), none, .call 68 [(.t 6)]⟩, 
 ⟨(some 2), none, .mv (.t 7)⟩])
 .ret)))
def k56 : List Nat := [0, 2]
theorem ic56 : factsI Try.prog 56 = some (8, [.tmp 2], c56) := by kernel_rfl

-- cmp.isNaN[int] (6 slots)
def c57 : IC :=
 (.seq (.reg [⟨(some 2), none, .mv (.k (.sc (.bool false)))⟩])
 (.seq (.reg [⟨(some 3), none, .mv (.t 0)⟩, 
 ⟨(some 4), none, .mv (.t 0)⟩, 
 ⟨(some 5), none, .bin .neq false (.t 3) (.t 4) (pu (.binOp .neq 3 (.tmp 3) (.tmp 4) 3) 4)⟩, 
 ⟨(some 2), none, .mv (.t 5)⟩])
 .ret))
def k57 : List Nat := [0, 2]
theorem ic57 : factsI Try.prog 57 = some (6, [.tmp 2], c57) := by kernel_rfl

-- cmp.isNaN[string] (6 slots)
def c58 : IC :=
 (.seq (.reg [⟨(some 2), none, .mv (.k (.sc (.bool false)))⟩])
 (.seq (.reg [⟨(some 3), none, .mv (.t 0)⟩, 
 ⟨(some 4), none, .mv (.t 0)⟩, 
 ⟨(some 5), none, .bin .neq false (.t 3) (.t 4) (pu (.binOp .neq 9 (.tmp 3) (.tmp 4) 9) 4)⟩, 
 ⟨(some 2), none, .mv (.t 5)⟩])
 .ret))
def k58 : List Nat := [0, 2]
theorem ic58 : factsI Try.prog 58 = some (6, [.tmp 2], c58) := by kernel_rfl

end Go.Proofs.Ytaagkdmmdgajjaa
