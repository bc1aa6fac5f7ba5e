import Derived.Test.YtnafhnnhhdmnfaaRows
import Derived.Test.YtnafhnnhhdmnfaaIdlM4
namespace Go.Proofs.Ytnafhnnhhdmnfaa
open Go.Idl
-- chargenet/chargenetlaw36.IntakeValids (15 slots)
def c3 : IC :=
 (.seq (.reg [⟨(some 2), none, .mv (.k (.sc (.bool false)))⟩])
 (.seq (.seq (.reg [⟨(some 3), none, .mv (.t 0)⟩, 
 ⟨(some 4), none, .call 9 [(.t 3)]⟩, 
 ⟨(some 5), none, .un .not (.t 4) (pu (.unOp .not 4 (.tmp 4)) 4)⟩])
 (.cond (.t 5) (.seq (.reg [⟨(some 6), none, .call 10 []⟩, 
  ⟨(some 2), none, .mv (.t 6)⟩])
  .ret)
 .skip))
 (.seq (.reg [⟨(some 7), none, .mv (.t 0)⟩, 
 ⟨(some 8), none, .call 11 [(.t 7)]⟩, 
 ⟨(some 9), none, .mv (.t 0)⟩, 
 ⟨(some 10), none, .call 12 [(.t 9)]⟩, 
 ⟨(some 11), none, .bin .eql false (.t 8) (.t 10) (pu (.binOp .eql 25 (.tmp 8) (.tmp 10) 25) 4)⟩, 
 ⟨(some 12), none, .mv (.t 11)⟩, 
 ⟨(some 13), (some ((some 12), true)), .call 10 []⟩, 
 ⟨(some 14), none, .pick (.t 12) (.t 13) (.k (.sc (.bool false)))⟩, 
 ⟨(some 2), none, .mv (.t 14)⟩])
 .ret)))
def k3 : List Nat := [0, 2, 5]
theorem ic3 : factsI Try.prog 3 = some (15, [.tmp 2], c3) := by kernel_rfl

-- chargenet/chargenetlaw36.IntakePuts (52 slots)
def c4 : IC :=
 (.seq (.reg [⟨(some 3), none, .bx (.t 1)⟩, 
 ⟨(some 4), none, .mv (.k (.sc (.bool false)))⟩])
 (.seq (.seq (.reg [⟨(some 9), none, .mv (.t 0)⟩, 
 ⟨(some 10), none, .call 9 [(.t 9)]⟩, 
 ⟨(some 11), none, .un .not (.t 10) (pu (.unOp .not 4 (.tmp 10)) 4)⟩, 
 ⟨(some 12), none, .mv (.t 11)⟩, 
 ⟨(some 13), (some ((some 12), false)), .ld (some 10) (.t 3)⟩, 
 ⟨(some 14), (some ((some 12), false)), .bsl 10 1 true [(.sc (.string ⟨#[]⟩)), (.sc (.string ⟨#[]⟩)), (.sc (.int .i64 0)), (.sc (.int .i64 0)), (.sc (.int .i64 0)), (.sc (.int .i64 0)), (.sc (.string ⟨#[]⟩)), (.sc (.bool false)), (.sc (.int .i64 0)), (.sc (.slice none 0 0))] [(0, 10, (.t 13))]⟩, 
 ⟨(some 15), (some ((some 12), false)), .call 9 [(.t 14)]⟩, 
 ⟨(some 16), (some ((some 12), false)), .un .not (.t 15) (pu (.unOp .not 4 (.tmp 15)) 4)⟩, 
 ⟨(some 17), none, .pick (.t 12) (.k (.sc (.bool true))) (.t 16)⟩, 
 ⟨(some 18), none, .mv (.t 17)⟩, 
 ⟨(some 19), (some ((some 18), false)), .mv (.t 0)⟩, 
 ⟨(some 20), (some ((some 18), false)), .call 12 [(.t 19)]⟩, 
 ⟨(some 21), (some ((some 18), false)), .bin .neq false (.t 20) (.k (.sc (.int .i64 0))) (pu (.binOp .neq 25 (.tmp 20) (.const (.int .i64 0)) 25) 4)⟩, 
 ⟨(some 22), none, .pick (.t 18) (.k (.sc (.bool true))) (.t 21)⟩])
 (.cond (.t 22) (.seq (.reg [⟨(some 23), none, .call 10 []⟩, 
  ⟨(some 4), none, .mv (.t 23)⟩])
  .ret)
 .skip))
 (.seq (.reg [⟨(some 25), none, .mv (.t 0)⟩, 
 ⟨(some 26), none, .ld (some 10) (.t 3)⟩, 
 ⟨(some 27), none, .call 13 [(.t 25), (.t 26)]⟩, 
 ⟨(some 24), none, .mv (.t 27)⟩, 
 ⟨(some 28), none, .ext (.t 24) 0⟩, 
 ⟨(some 29), none, .ext (.t 24) 1⟩, 
 ⟨(some 5), none, .mv (.t 28)⟩, 
 ⟨(some 6), none, .mv (.t 29)⟩])
 (.seq (.reg [⟨(some 31), none, .mv (.t 0)⟩, 
 ⟨(some 32), none, .ld (some 10) (.t 3)⟩, 
 ⟨(some 33), none, .call 14 [(.t 31), (.t 32)]⟩, 
 ⟨(some 30), none, .mv (.t 33)⟩, 
 ⟨(some 34), none, .ext (.t 30) 0⟩, 
 ⟨(some 35), none, .ext (.t 30) 1⟩, 
 ⟨(some 7), none, .mv (.t 34)⟩, 
 ⟨(some 8), none, .mv (.t 35)⟩])
 (.seq (.reg [⟨(some 36), none, .mv (.t 5)⟩, 
 ⟨(some 37), none, .mv (.t 7)⟩, 
 ⟨(some 38), none, .call 15 [(.t 36), (.t 37)]⟩, 
 ⟨(some 39), none, .mv (.t 38)⟩, 
 ⟨(some 40), (some ((some 39), true)), .mv (.t 6)⟩, 
 ⟨(some 41), (some ((some 39), true)), .mv (.t 8)⟩, 
 ⟨(some 42), (some ((some 39), true)), .bin .eql false (.t 40) (.t 41) (pu (.binOp .eql 25 (.tmp 40) (.tmp 41) 25) 4)⟩, 
 ⟨(some 43), none, .pick (.t 39) (.t 42) (.k (.sc (.bool false)))⟩, 
 ⟨(some 44), none, .mv (.t 43)⟩, 
 ⟨(some 45), (some ((some 44), true)), .mv (.t 5)⟩, 
 ⟨(some 46), (some ((some 44), true)), .call 11 [(.t 45)]⟩, 
 ⟨(some 47), (some ((some 44), true)), .bin .eql false (.t 46) (.k (.sc (.int .i64 0))) (pu (.binOp .eql 25 (.tmp 46) (.const (.int .i64 0)) 25) 4)⟩, 
 ⟨(some 48), none, .pick (.t 44) (.t 47) (.k (.sc (.bool false)))⟩, 
 ⟨(some 49), none, .mv (.t 48)⟩, 
 ⟨(some 50), (some ((some 49), true)), .call 10 []⟩, 
 ⟨(some 51), none, .pick (.t 49) (.t 50) (.k (.sc (.bool false)))⟩, 
 ⟨(some 4), none, .mv (.t 51)⟩])
 .ret)))))
def k4 : List Nat := [0, 1, 3, 4, 5, 6, 7, 8, 22]
theorem ic4 : factsI Try.prog 4 = some (52, [.tmp 4], c4) := by kernel_rfl

-- chargenet/chargenetlaw36.IntakeFinds (73 slots)
def c5 : IC :=
 (.seq (.reg [⟨(some 6), none, .mv (.k (.sc (.bool false)))⟩])
 (.seq (.seq (.reg [⟨(some 11), none, .mv (.t 0)⟩, 
 ⟨(some 12), none, .call 9 [(.t 11)]⟩, 
 ⟨(some 13), none, .un .not (.t 12) (pu (.unOp .not 4 (.tmp 12)) 4)⟩, 
 ⟨(some 14), none, .mv (.t 13)⟩, 
 ⟨(some 15), (some ((some 14), false)), .mv (.t 1)⟩, 
 ⟨(some 16), (some ((some 14), false)), .lens (.t 15) (pu (.call ⟨.builtin .len, #[(.tmp 15)], #[9]⟩) 3)⟩, 
 ⟨(some 17), (some ((some 14), false)), .bin .gtr false (.t 16) (.k (.sc (.int .i64 50))) (pu (.binOp .gtr 3 (.tmp 16) (.const (.int .i64 50)) 3) 4)⟩, 
 ⟨(some 18), none, .pick (.t 14) (.k (.sc (.bool true))) (.t 17)⟩, 
 ⟨(some 19), none, .mv (.t 18)⟩, 
 ⟨(some 20), (some ((some 19), false)), .mv (.t 2)⟩, 
 ⟨(some 21), (some ((some 19), false)), .lens (.t 20) (pu (.call ⟨.builtin .len, #[(.tmp 20)], #[9]⟩) 3)⟩, 
 ⟨(some 22), (some ((some 19), false)), .bin .gtr false (.t 21) (.k (.sc (.int .i64 50))) (pu (.binOp .gtr 3 (.tmp 21) (.const (.int .i64 50)) 3) 4)⟩, 
 ⟨(some 23), none, .pick (.t 19) (.k (.sc (.bool true))) (.t 22)⟩, 
 ⟨(some 24), none, .mv (.t 23)⟩, 
 ⟨(some 25), (some ((some 24), false)), .mv (.t 0)⟩, 
 ⟨(some 26), (some ((some 24), false)), .call 12 [(.t 25)]⟩, 
 ⟨(some 27), (some ((some 24), false)), .bin .neq false (.t 26) (.k (.sc (.int .i64 0))) (pu (.binOp .neq 25 (.tmp 26) (.const (.int .i64 0)) 25) 4)⟩, 
 ⟨(some 28), none, .pick (.t 24) (.k (.sc (.bool true))) (.t 27)⟩])
 (.cond (.t 28) (.seq (.reg [⟨(some 29), none, .call 10 []⟩, 
  ⟨(some 6), none, .mv (.t 29)⟩])
  .ret)
 .skip))
 (.seq (.reg [⟨(some 31), none, .mv (.t 0)⟩, 
 ⟨(some 32), none, .mv (.t 1)⟩, 
 ⟨(some 33), none, .mv (.t 2)⟩, 
 ⟨(some 34), none, .call 16 [(.t 31), (.t 32), (.t 33)]⟩, 
 ⟨(some 30), none, .mv (.t 34)⟩, 
 ⟨(some 35), none, .ext (.t 30) 0⟩, 
 ⟨(some 36), none, .ext (.t 30) 1⟩, 
 ⟨(some 7), none, .mv (.t 35)⟩, 
 ⟨(some 8), none, .mv (.t 36)⟩])
 (.seq (.reg [⟨(some 38), none, .mv (.t 0)⟩, 
 ⟨(some 39), none, .mv (.t 1)⟩, 
 ⟨(some 40), none, .mv (.t 2)⟩, 
 ⟨(some 41), none, .call 17 [(.t 38), (.t 39), (.t 40)]⟩, 
 ⟨(some 37), none, .mv (.t 41)⟩, 
 ⟨(some 42), none, .ext (.t 37) 0⟩, 
 ⟨(some 43), none, .ext (.t 37) 1⟩, 
 ⟨(some 9), none, .mv (.t 42)⟩, 
 ⟨(some 10), none, .mv (.t 43)⟩])
 (.seq (.reg [⟨(some 44), none, .mv (.t 0)⟩, 
 ⟨(some 45), none, .mv (.t 1)⟩, 
 ⟨(some 46), none, .mv (.t 2)⟩, 
 ⟨(some 47), none, .call 18 [(.t 44), (.t 45), (.t 46)]⟩, 
 ⟨(some 48), none, .mv (.t 0)⟩, 
 ⟨(some 49), none, .mv (.t 1)⟩, 
 ⟨(some 50), none, .mv (.t 2)⟩, 
 ⟨(some 51), none, .call 19 [(.t 48), (.t 49), (.t 50)]⟩, 
 ⟨(some 52), none, .call 15 [(.t 47), (.t 51)]⟩, 
 ⟨(some 53), none, .mv (.t 52)⟩, 
 ⟨(some 54), (some ((some 53), true)), .mv (.t 7)⟩, 
 ⟨(some 55), (some ((some 53), true)), .mv (.t 9)⟩, 
 ⟨(some 56), (some ((some 53), true)), .call 20 [(.t 54), (.t 55)]⟩, 
 ⟨(some 57), none, .pick (.t 53) (.t 56) (.k (.sc (.bool false)))⟩, 
 ⟨(some 58), none, .mv (.t 57)⟩, 
 ⟨(some 59), (some ((some 58), true)), .mv (.t 8)⟩, 
 ⟨(some 60), (some ((some 58), true)), .mv (.t 10)⟩, 
 ⟨(some 61), (some ((some 58), true)), .bin .eql true (.t 59) (.t 60) (pu (.binOp .eql 4 (.tmp 59) (.tmp 60) 4) 4)⟩, 
 ⟨(some 62), none, .pick (.t 58) (.t 61) (.k (.sc (.bool false)))⟩, 
 ⟨(some 63), none, .mv (.t 62)⟩, 
 ⟨(some 64), (some ((some 63), true)), .mv (.t 0)⟩, 
 ⟨(some 65), (some ((some 63), true)), .call 22 [(.t 64)]⟩, 
 ⟨(some 66), (some ((some 63), true)), .mv (.t 0)⟩, 
 ⟨(some 67), (some ((some 63), true)), .call 23 [(.t 66)]⟩, 
 ⟨(some 68), (some ((some 63), true)), .call 21 [(.t 65), (.t 67)]⟩, 
 ⟨(some 69), none, .pick (.t 63) (.t 68) (.k (.sc (.bool false)))⟩, 
 ⟨(some 70), none, .mv (.t 69)⟩, 
 ⟨(some 71), (some ((some 70), true)), .call 10 []⟩, 
 ⟨(some 72), none, .pick (.t 70) (.t 71) (.k (.sc (.bool false)))⟩, 
 ⟨(some 6), none, .mv (.t 72)⟩])
 .ret)))))
def k5 : List Nat := [0, 1, 2, 6, 7, 8, 9, 10, 28]
theorem ic5 : factsI Try.prog 5 = some (73, [.tmp 6], c5) := by kernel_rfl

-- chargenet/chargenetlaw36.IntakeOrders (96 slots)
def c6 : IC :=
 (.seq (.reg [⟨(some 4), none, .mv (.k (.sc (.bool false)))⟩])
 (.seq (.seq (.reg [⟨(some 14), none, .mv (.t 0)⟩, 
 ⟨(some 15), none, .call 9 [(.t 14)]⟩, 
 ⟨(some 16), none, .un .not (.t 15) (pu (.unOp .not 4 (.tmp 15)) 4)⟩])
 (.cond (.t 16) (.seq (.reg [⟨(some 17), none, .call 10 []⟩, 
  ⟨(some 4), none, .mv (.t 17)⟩])
  .ret)
 .skip))
 (.seq (.reg [⟨(some 19), none, .mv (.t 0)⟩, 
 ⟨(some 20), none, .call 24 [(.t 19), (.k (.sc (.int .i64 0))), (.k (.sc (.bool false)))]⟩, 
 ⟨(some 18), none, .mv (.t 20)⟩, 
 ⟨(some 21), none, .ext (.t 18) 0⟩, 
 ⟨(some 22), none, .ext (.t 18) 1⟩, 
 ⟨(some 5), none, .mv (.t 21)⟩, 
 ⟨(some 6), none, .mv (.t 22)⟩])
 (.seq (.seq (.reg [⟨(some 23), none, .mv (.t 6)⟩, 
 ⟨(some 24), none, .un .not (.t 23) (pu (.unOp .not 4 (.tmp 23)) 4)⟩])
 (.cond (.t 24) (.seq (.reg [⟨(some 25), none, .call 10 []⟩, 
  ⟨(some 4), none, .mv (.t 25)⟩])
  .ret)
 .skip))
 (.seq (.reg [⟨(some 27), none, .mv (.t 0)⟩, 
 ⟨(some 28), none, .mv (.t 1)⟩, 
 ⟨(some 29), none, .pur (pu (.convert 5 3 (.tmp 28)) 3)⟩, 
 ⟨(some 30), none, .call 24 [(.t 27), (.t 29), (.k (.sc (.bool true)))]⟩, 
 ⟨(some 26), none, .mv (.t 30)⟩, 
 ⟨(some 31), none, .ext (.t 26) 0⟩, 
 ⟨(some 32), none, .ext (.t 26) 1⟩, 
 ⟨(some 7), none, .mv (.t 31)⟩, 
 ⟨(some 8), none, .mv (.t 32)⟩])
 (.seq (.reg [⟨(some 34), none, .bsl 10 0 true [] []⟩, 
 ⟨(some 35), none, .mv (.t 0)⟩, 
 ⟨(some 36), none, .app 10 120 (.t 34) (.t 35)⟩, 
 ⟨(some 37), none, .mv (.t 0)⟩, 
 ⟨(some 38), none, .app 10 120 (.t 36) (.t 37)⟩, 
 ⟨(some 39), none, .mv (.t 1)⟩, 
 ⟨(some 40), none, .pur (pu (.convert 5 3 (.tmp 39)) 3)⟩, 
 ⟨(some 41), none, .call 24 [(.t 38), (.t 40), (.k (.sc (.bool false)))]⟩, 
 ⟨(some 33), none, .mv (.t 41)⟩, 
 ⟨(some 42), none, .ext (.t 33) 0⟩, 
 ⟨(some 43), none, .ext (.t 33) 1⟩, 
 ⟨(some 9), none, .mv (.t 42)⟩, 
 ⟨(some 10), none, .mv (.t 43)⟩])
 (.seq (.seq (.reg [⟨(some 44), none, .mv (.t 8)⟩, 
 ⟨(some 45), none, .un .not (.t 44) (pu (.unOp .not 4 (.tmp 44)) 4)⟩, 
 ⟨(some 46), none, .mv (.t 45)⟩, 
 ⟨(some 47), (some ((some 46), false)), .mv (.t 10)⟩, 
 ⟨(some 48), (some ((some 46), false)), .un .not (.t 47) (pu (.unOp .not 4 (.tmp 47)) 4)⟩, 
 ⟨(some 49), none, .pick (.t 46) (.k (.sc (.bool true))) (.t 48)⟩, 
 ⟨(some 50), none, .mv (.t 49)⟩, 
 ⟨(some 51), (some ((some 50), false)), .mv (.t 5)⟩, 
 ⟨(some 52), (some ((some 50), false)), .mv (.t 7)⟩, 
 ⟨(some 53), (some ((some 50), false)), .call 15 [(.t 51), (.t 52)]⟩, 
 ⟨(some 54), (some ((some 50), false)), .un .not (.t 53) (pu (.unOp .not 4 (.tmp 53)) 4)⟩, 
 ⟨(some 55), none, .pick (.t 50) (.k (.sc (.bool true))) (.t 54)⟩, 
 ⟨(some 56), none, .mv (.t 55)⟩, 
 ⟨(some 57), (some ((some 56), false)), .mv (.t 5)⟩, 
 ⟨(some 58), (some ((some 56), false)), .mv (.t 9)⟩, 
 ⟨(some 59), (some ((some 56), false)), .call 15 [(.t 57), (.t 58)]⟩, 
 ⟨(some 60), (some ((some 56), false)), .un .not (.t 59) (pu (.unOp .not 4 (.tmp 59)) 4)⟩, 
 ⟨(some 61), none, .pick (.t 56) (.k (.sc (.bool true))) (.t 60)⟩])
 (.cond (.t 61) (.seq (.reg [⟨(some 4), none, .mv (.k (.sc (.bool false)))⟩])
  .ret)
 .skip))
 (.seq (.seq (.reg [⟨(some 11), none, .mv (.k (.sc (.int .i64 0)))⟩])
 (.block 0 (.loop (.seq (.seq (.reg [⟨(some 62), none, .mv (.t 11)⟩, 
  ⟨(some 63), none, .mv (.t 0)⟩, 
  ⟨(some 64), none, .len (.t 63) (pu (.call ⟨.builtin .len, #[(.tmp 63)], #[22]⟩) 3)⟩, 
  ⟨(some 65), none, .bin .lss false (.t 62) (.t 64) (pu (.binOp .lss 3 (.tmp 62) (.tmp 64) 3) 4)⟩])
  (.cond (.t 65) .skip
  (.exit 0)))
  (.seq (.block 1 (.seq (.reg [⟨(some 69), none, .mv (.t 5)⟩, 
  ⟨(some 70), none, .mv (.t 0)⟩, 
  ⟨(some 71), none, .mv (.t 11)⟩, 
  ⟨(some 72), none, .ixs 10 (.t 70) (.t 71)⟩, 
  ⟨(some 73), none, .ld (some 10) (.t 72)⟩, 
  ⟨(some 74), none, .call 13 [(.t 69), (.t 73)]⟩, 
  ⟨(some 68), none, .mv (.t 74)⟩, 
  ⟨(some 75), none, .ext (.t 68) 0⟩, 
  ⟨(some 76), none, .ext (.t 68) 1⟩, 
  ⟨(some 12), none, .mv (.t 75)⟩, 
  ⟨(some 13), none, .mv (.t 76)⟩])
  (.seq (.drw [0, 1, 3, 7, 7, 7, 55, 119, 247, 7, 7, 1543, 3591, 7687, 16383, 32767, 65535, 131071] [⟨(some 77), none, .mv (.t 13)⟩, 
  ⟨(some 78), none, .bin .neq false (.t 77) (.k (.sc (.int .i64 9))) (pu (.binOp .neq 25 (.tmp 77) (.const (.int .i64 9)) 25) 4)⟩, 
  ⟨(some 79), none, .mv (.t 78)⟩, 
  ⟨(some 80), (some ((some 79), false)), .mv (.t 5)⟩, 
  ⟨(some 81), (some ((some 79), false)), .mv (.t 0)⟩, 
  ⟨(some 82), (some ((some 79), false)), .mv (.t 11)⟩, 
  ⟨(some 83), (some ((some 79), false)), .ixs 10 (.t 81) (.t 82)⟩, 
  ⟨(some 84), (some ((some 79), false)), .sh 0 (.t 83)⟩, 
  ⟨(some 85), (some ((some 79), false)), .ld none (.t 84)⟩, 
  ⟨(some 86), (some ((some 79), false)), .mv (.t 0)⟩, 
  ⟨(some 87), (some ((some 79), false)), .mv (.t 11)⟩, 
  ⟨(some 88), (some ((some 79), false)), .ixs 10 (.t 86) (.t 87)⟩, 
  ⟨(some 89), (some ((some 79), false)), .sh 1 (.t 88)⟩, 
  ⟨(some 90), (some ((some 79), false)), .ld none (.t 89)⟩, 
  ⟨(some 91), (some ((some 79), false)), .call 18 [(.t 80), (.t 85), (.t 90)]⟩, 
  ⟨(some 92), (some ((some 79), false)), .len (.t 91) (pu (.call ⟨.builtin .len, #[(.tmp 91)], #[22]⟩) 3)⟩, 
  ⟨(some 93), (some ((some 79), false)), .bin .eql false (.t 92) (.k (.sc (.int .i64 0))) (pu (.binOp .eql 3 (.tmp 92) (.const (.int .i64 0)) 3) 4)⟩, 
  ⟨(some 94), none, .pick (.t 79) (.k (.sc (.bool true))) (.t 93)⟩])
  (.cond (.t 94) (.seq (.reg [⟨(some 4), none, .mv (.k (.sc (.bool false)))⟩])
   .ret)
  .skip))))
  (.reg [⟨(some 66), none, .mv (.t 11)⟩, 
  ⟨(some 67), none, .bin .add false (.t 66) (.k (.sc (.int .i64 1))) (pu (.binOp .add 3 (.tmp 66) (.const (.int .i64 1)) 3) 3)⟩, 
  ⟨(some 11), none, .mv (.t 67)⟩]))))))
 (.seq (.reg [⟨(some 95), none, .call 10 []⟩, 
 ⟨(some 4), none, .mv (.t 95)⟩])
 .ret)))))))))
def k6 : List Nat := [0, 1, 4, 5, 6, 7, 8, 9, 10, 11, 13, 16, 24, 61, 65, 94]
theorem ic6 : factsI Try.prog 6 = some (96, [.tmp 4], c6) := by kernel_rfl

-- chargenet/chargenetlaw36.IntakeParts (122 slots)
def c7 : IC :=
 (.seq (.reg [⟨(some 2), none, .mv (.k (.sc (.bool false)))⟩])
 (.seq (.seq (.reg [⟨(some 10), none, .mv (.t 0)⟩, 
 ⟨(some 11), none, .call 9 [(.t 10)]⟩, 
 ⟨(some 12), none, .un .not (.t 11) (pu (.unOp .not 4 (.tmp 11)) 4)⟩, 
 ⟨(some 13), none, .mv (.t 12)⟩, 
 ⟨(some 14), (some ((some 13), false)), .mv (.t 0)⟩, 
 ⟨(some 15), (some ((some 13), false)), .call 12 [(.t 14)]⟩, 
 ⟨(some 16), (some ((some 13), false)), .bin .neq false (.t 15) (.k (.sc (.int .i64 0))) (pu (.binOp .neq 25 (.tmp 15) (.const (.int .i64 0)) 25) 4)⟩, 
 ⟨(some 17), none, .pick (.t 13) (.k (.sc (.bool true))) (.t 16)⟩])
 (.cond (.t 17) (.seq (.reg [⟨(some 18), none, .call 10 []⟩, 
  ⟨(some 2), none, .mv (.t 18)⟩])
  .ret)
 .skip))
 (.seq (.reg [⟨(some 19), none, .mv (.t 0)⟩, 
 ⟨(some 20), none, .call 22 [(.t 19)]⟩, 
 ⟨(some 3), none, .mv (.t 20)⟩])
 (.seq (.reg [⟨(some 4), none, .mv (.k (.sc (.slice none 0 0)))⟩])
 (.seq (.seq (.reg [⟨(some 5), none, .mv (.k (.sc (.int .i64 0)))⟩])
 (.block 0 (.loop (.seq (.seq (.reg [⟨(some 21), none, .mv (.t 5)⟩, 
  ⟨(some 22), none, .mv (.t 3)⟩, 
  ⟨(some 23), none, .len (.t 22) (pu (.call ⟨.builtin .len, #[(.tmp 22)], #[40]⟩) 3)⟩, 
  ⟨(some 24), none, .bin .lss false (.t 21) (.t 23) (pu (.binOp .lss 3 (.tmp 21) (.tmp 23) 3) 4)⟩])
  (.cond (.t 24) .skip
  (.exit 0)))
  (.seq (.block 1 (.seq (.seq (.reg [⟨(some 27), none, .mv (.t 3)⟩, 
  ⟨(some 28), none, .mv (.t 5)⟩, 
  ⟨(some 29), none, .ixs 1 (.t 27) (.t 28)⟩, 
  ⟨(some 30), none, .ld none (.t 29)⟩, 
  ⟨(some 31), none, .len (.t 30) (pu (.call ⟨.builtin .len, #[(.tmp 30)], #[46]⟩) 3)⟩, 
  ⟨(some 32), none, .bin .neq false (.t 31) (.k (.sc (.int .i64 2))) (pu (.binOp .neq 3 (.tmp 31) (.const (.int .i64 2)) 3) 4)⟩])
  (.cond (.t 32) (.seq (.reg [⟨(some 2), none, .mv (.k (.sc (.bool false)))⟩])
   .ret)
  .skip))
  (.seq (.drw [0, 0, 0, 6, 14, 30, 62, 0, 0, 384, 896, 1920, 3968, 8191, 16383] [⟨(some 33), none, .mv (.t 0)⟩, 
  ⟨(some 34), none, .mv (.t 3)⟩, 
  ⟨(some 35), none, .mv (.t 5)⟩, 
  ⟨(some 36), none, .ixs 1 (.t 34) (.t 35)⟩, 
  ⟨(some 37), none, .ld none (.t 36)⟩, 
  ⟨(some 38), none, .ixs 1 (.t 37) (.k (.sc (.int .i64 0)))⟩, 
  ⟨(some 39), none, .ld none (.t 38)⟩, 
  ⟨(some 40), none, .mv (.t 3)⟩, 
  ⟨(some 41), none, .mv (.t 5)⟩, 
  ⟨(some 42), none, .ixs 1 (.t 40) (.t 41)⟩, 
  ⟨(some 43), none, .ld none (.t 42)⟩, 
  ⟨(some 44), none, .ixs 1 (.t 43) (.k (.sc (.int .i64 1)))⟩, 
  ⟨(some 45), none, .ld none (.t 44)⟩, 
  ⟨(some 46), none, .call 18 [(.t 33), (.t 39), (.t 45)]⟩, 
  ⟨(some 6), none, .mv (.t 46)⟩])
  (.seq (.reg [⟨(some 47), none, .mv (.t 4)⟩, 
  ⟨(some 48), none, .mv (.t 6)⟩, 
  ⟨(some 49), none, .app 10 120 (.t 47) (.t 48)⟩, 
  ⟨(some 4), none, .mv (.t 49)⟩])
  (.seq (.drw [0, 0, 0, 6, 14, 30, 62, 0, 0, 384, 896, 1920, 3968, 8191, 16383, 32767, 32767, 65535, 262143] [⟨(some 51), none, .mv (.t 0)⟩, 
  ⟨(some 52), none, .mv (.t 3)⟩, 
  ⟨(some 53), none, .mv (.t 5)⟩, 
  ⟨(some 54), none, .ixs 1 (.t 52) (.t 53)⟩, 
  ⟨(some 55), none, .ld none (.t 54)⟩, 
  ⟨(some 56), none, .ixs 1 (.t 55) (.k (.sc (.int .i64 0)))⟩, 
  ⟨(some 57), none, .ld none (.t 56)⟩, 
  ⟨(some 58), none, .mv (.t 3)⟩, 
  ⟨(some 59), none, .mv (.t 5)⟩, 
  ⟨(some 60), none, .ixs 1 (.t 58) (.t 59)⟩, 
  ⟨(some 61), none, .ld none (.t 60)⟩, 
  ⟨(some 62), none, .ixs 1 (.t 61) (.k (.sc (.int .i64 1)))⟩, 
  ⟨(some 63), none, .ld none (.t 62)⟩, 
  ⟨(some 64), none, .call 16 [(.t 51), (.t 57), (.t 63)]⟩, 
  ⟨(some 50), none, .mv (.t 64)⟩, 
  ⟨(some 65), none, .ext (.t 50) 0⟩, 
  ⟨(some 66), none, .ext (.t 50) 1⟩, 
  ⟨(some 7), none, .mv (.t 65)⟩, 
  ⟨(some 8), none, .mv (.t 66)⟩])
  (.seq (.seq (.reg [⟨(some 67), none, .mv (.t 6)⟩, 
  ⟨(some 68), none, .len (.t 67) (pu (.call ⟨.builtin .len, #[(.tmp 67)], #[22]⟩) 3)⟩, 
  ⟨(some 69), none, .bin .eql false (.t 68) (.k (.sc (.int .i64 0))) (pu (.binOp .eql 3 (.tmp 68) (.const (.int .i64 0)) 3) 4)⟩, 
  ⟨(some 70), none, .mv (.t 69)⟩, 
  ⟨(some 71), (some ((some 70), false)), .mv (.t 8)⟩, 
  ⟨(some 72), (some ((some 70), false)), .mv (.t 6)⟩, 
  ⟨(some 73), (some ((some 70), false)), .mv (.t 6)⟩, 
  ⟨(some 74), (some ((some 70), false)), .len (.t 73) (pu (.call ⟨.builtin .len, #[(.tmp 73)], #[22]⟩) 3)⟩, 
  ⟨(some 75), (some ((some 70), false)), .bin .sub false (.t 74) (.k (.sc (.int .i64 1))) (pu (.binOp .sub 3 (.tmp 74) (.const (.int .i64 1)) 3) 3)⟩, 
  ⟨(some 76), (some ((some 70), false)), .ixs 10 (.t 72) (.t 75)⟩, 
  ⟨(some 77), (some ((some 70), false)), .sh 4 (.t 76)⟩, 
  ⟨(some 78), (some ((some 70), false)), .ld none (.t 77)⟩, 
  ⟨(some 79), (some ((some 70), false)), .bin .eql false (.t 78) (.k (.sc (.int .i64 3))) (pu (.binOp .eql 3 (.tmp 78) (.const (.int .i64 3)) 3) 4)⟩, 
  ⟨(some 80), (some ((some 70), false)), .bin .neq true (.t 71) (.t 79) (pu (.binOp .neq 4 (.tmp 71) (.tmp 79) 4) 4)⟩, 
  ⟨(some 81), none, .pick (.t 70) (.k (.sc (.bool true))) (.t 80)⟩])
  (.cond (.t 81) (.seq (.reg [⟨(some 2), none, .mv (.k (.sc (.bool false)))⟩])
   .ret)
  .skip))
  (.seq (.seq (.reg [⟨(some 82), none, .mv (.t 7)⟩, 
  ⟨(some 83), none, .len (.t 82) (pu (.call ⟨.builtin .len, #[(.tmp 82)], #[34]⟩) 3)⟩, 
  ⟨(some 84), none, .bin .gtr false (.t 83) (.k (.sc (.int .i64 0))) (pu (.binOp .gtr 3 (.tmp 83) (.const (.int .i64 0)) 3) 4)⟩])
  (.cond (.t 84) (.exit 1)
  .skip))
  (.seq (.reg [⟨(some 9), none, .mv (.k (.sc (.int .i64 0)))⟩])
  (.block 2 (.loop (.seq (.seq (.reg [⟨(some 85), none, .mv (.t 9)⟩, 
   ⟨(some 86), none, .mv (.t 6)⟩, 
   ⟨(some 87), none, .len (.t 86) (pu (.call ⟨.builtin .len, #[(.tmp 86)], #[22]⟩) 3)⟩, 
   ⟨(some 88), none, .bin .lss false (.t 85) (.t 87) (pu (.binOp .lss 3 (.tmp 85) (.tmp 87) 3) 4)⟩])
   (.cond (.t 88) .skip
   (.exit 2)))
   (.seq (.block 3 (.seq (.drw [0, 0, 3, 7, 15, 0, 63, 127, 255, 511, 1023, 2047, 2047, 8191, 16383, 32767, 2047, 2047, 133119, 460799, 985087, 2033663, 4194303, 8388607, 16777215] [⟨(some 91), none, .mv (.t 6)⟩, 
   ⟨(some 92), none, .mv (.t 9)⟩, 
   ⟨(some 93), none, .ixs 10 (.t 91) (.t 92)⟩, 
   ⟨(some 94), none, .sh 3 (.t 93)⟩, 
   ⟨(some 95), none, .ld none (.t 94)⟩, 
   ⟨(some 96), none, .mv (.t 9)⟩, 
   ⟨(some 97), none, .bin .neq false (.t 95) (.t 96) (pu (.binOp .neq 3 (.tmp 95) (.tmp 96) 3) 4)⟩, 
   ⟨(some 98), none, .mv (.t 97)⟩, 
   ⟨(some 99), (some ((some 98), false)), .mv (.t 9)⟩, 
   ⟨(some 100), (some ((some 98), false)), .bin .gtr false (.t 99) (.k (.sc (.int .i64 0))) (pu (.binOp .gtr 3 (.tmp 99) (.const (.int .i64 0)) 3) 4)⟩, 
   ⟨(some 101), (some ((some 98), false)), .mv (.t 100)⟩, 
   ⟨(some 102), (some ((some 101), true)), .mv (.t 6)⟩, 
   ⟨(some 103), (some ((some 101), true)), .mv (.t 9)⟩, 
   ⟨(some 104), (some ((some 101), true)), .ixs 10 (.t 102) (.t 103)⟩, 
   ⟨(some 105), (some ((some 101), true)), .sh 5 (.t 104)⟩, 
   ⟨(some 106), (some ((some 101), true)), .ld none (.t 105)⟩, 
   ⟨(some 107), (some ((some 101), true)), .mv (.t 6)⟩, 
   ⟨(some 108), (some ((some 101), true)), .mv (.t 9)⟩, 
   ⟨(some 109), (some ((some 101), true)), .bin .sub false (.t 108) (.k (.sc (.int .i64 1))) (pu (.binOp .sub 3 (.tmp 108) (.const (.int .i64 1)) 3) 3)⟩, 
   ⟨(some 110), (some ((some 101), true)), .ixs 10 (.t 107) (.t 109)⟩, 
   ⟨(some 111), (some ((some 101), true)), .sh 5 (.t 110)⟩, 
   ⟨(some 112), (some ((some 101), true)), .ld none (.t 111)⟩, 
   ⟨(some 113), (some ((some 101), true)), .bin .lss false (.t 106) (.t 112) (pu (.binOp .lss 3 (.tmp 106) (.tmp 112) 3) 4)⟩, 
   ⟨(some 114), (some ((some 98), false)), .pick (.t 101) (.t 113) (.k (.sc (.bool false)))⟩, 
   ⟨(some 115), none, .pick (.t 98) (.k (.sc (.bool true))) (.t 114)⟩])
   (.cond (.t 115) (.seq (.reg [⟨(some 2), none, .mv (.k (.sc (.bool false)))⟩])
    .ret)
   .skip)))
   (.reg [⟨(some 89), none, .mv (.t 9)⟩, 
   ⟨(some 90), none, .bin .add false (.t 89) (.k (.sc (.int .i64 1))) (pu (.binOp .add 3 (.tmp 89) (.const (.int .i64 1)) 3) 3)⟩, 
   ⟨(some 9), none, .mv (.t 90)⟩])))))))))))))
  (.reg [⟨(some 25), none, .mv (.t 5)⟩, 
  ⟨(some 26), none, .bin .add false (.t 25) (.k (.sc (.int .i64 1))) (pu (.binOp .add 3 (.tmp 25) (.const (.int .i64 1)) 3) 3)⟩, 
  ⟨(some 5), none, .mv (.t 26)⟩]))))))
 (.seq (.reg [⟨(some 116), none, .mv (.t 4)⟩, 
 ⟨(some 117), none, .mv (.t 0)⟩, 
 ⟨(some 118), none, .call 15 [(.t 116), (.t 117)]⟩, 
 ⟨(some 119), none, .mv (.t 118)⟩, 
 ⟨(some 120), (some ((some 119), true)), .call 10 []⟩, 
 ⟨(some 121), none, .pick (.t 119) (.t 120) (.k (.sc (.bool false)))⟩, 
 ⟨(some 2), none, .mv (.t 121)⟩])
 .ret))))))
def k7 : List Nat := [0, 2, 3, 4, 5, 6, 7, 8, 9, 17, 24, 32, 81, 84, 88, 115]
theorem ic7 : factsI Try.prog 7 = some (122, [.tmp 2], c7) := by kernel_rfl

-- chargenet/chargenetlaw36.IntakeGaps (100 slots)
def c8 : IC :=
 (.seq (.reg [⟨(some 4), none, .mv (.k (.sc (.bool false)))⟩])
 (.seq (.seq (.reg [⟨(some 14), none, .mv (.t 0)⟩, 
 ⟨(some 15), none, .mv (.t 1)⟩, 
 ⟨(some 16), none, .bin .eql false (.t 14) (.t 15) (pu (.binOp .eql 47 (.tmp 14) (.tmp 15) 47) 4)⟩, 
 ⟨(some 17), none, .mv (.t 16)⟩, 
 ⟨(some 18), (some ((some 17), false)), .mv (.t 0)⟩, 
 ⟨(some 19), (some ((some 17), false)), .bin .eql false (.t 18) (.k (.sc (.int .u16 0))) (pu (.binOp .eql 47 (.tmp 18) (.const (.int .u16 0)) 47) 4)⟩, 
 ⟨(some 20), none, .pick (.t 17) (.k (.sc (.bool true))) (.t 19)⟩, 
 ⟨(some 21), none, .mv (.t 20)⟩, 
 ⟨(some 22), (some ((some 21), false)), .mv (.t 1)⟩, 
 ⟨(some 23), (some ((some 21), false)), .bin .eql false (.t 22) (.k (.sc (.int .u16 0))) (pu (.binOp .eql 47 (.tmp 22) (.const (.int .u16 0)) 47) 4)⟩, 
 ⟨(some 24), none, .pick (.t 21) (.k (.sc (.bool true))) (.t 23)⟩, 
 ⟨(some 25), none, .mv (.t 24)⟩, 
 ⟨(some 26), (some ((some 25), false)), .mv (.t 0)⟩, 
 ⟨(some 27), (some ((some 25), false)), .bin .gtr false (.t 26) (.k (.sc (.int .u16 400))) (pu (.binOp .gtr 47 (.tmp 26) (.const (.int .u16 400)) 47) 4)⟩, 
 ⟨(some 28), none, .pick (.t 25) (.k (.sc (.bool true))) (.t 27)⟩, 
 ⟨(some 29), none, .mv (.t 28)⟩, 
 ⟨(some 30), (some ((some 29), false)), .mv (.t 1)⟩, 
 ⟨(some 31), (some ((some 29), false)), .bin .gtr false (.t 30) (.k (.sc (.int .u16 400))) (pu (.binOp .gtr 47 (.tmp 30) (.const (.int .u16 400)) 47) 4)⟩, 
 ⟨(some 32), none, .pick (.t 29) (.k (.sc (.bool true))) (.t 31)⟩])
 (.cond (.t 32) (.seq (.reg [⟨(some 33), none, .call 10 []⟩, 
  ⟨(some 4), none, .mv (.t 33)⟩])
  .ret)
 .skip))
 (.seq (.reg [⟨(some 34), none, .mv (.t 0)⟩, 
 ⟨(some 35), none, .pur (pu (.convert 47 3 (.tmp 34)) 3)⟩, 
 ⟨(some 36), none, .mv (.t 1)⟩, 
 ⟨(some 37), none, .pur (pu (.convert 47 3 (.tmp 36)) 3)⟩, 
 ⟨(some 38), none, .pur (pu (.call ⟨.builtin .min, #[(.tmp 35), (.tmp 37)], #[3, 3]⟩) 3)⟩, 
 ⟨(some 39), none, .mv (.t 0)⟩, 
 ⟨(some 40), none, .pur (pu (.convert 47 3 (.tmp 39)) 3)⟩, 
 ⟨(some 41), none, .mv (.t 1)⟩, 
 ⟨(some 42), none, .pur (pu (.convert 47 3 (.tmp 41)) 3)⟩, 
 ⟨(some 43), none, .pur (pu (.call ⟨.builtin .max, #[(.tmp 40), (.tmp 42)], #[3, 3]⟩) 3)⟩, 
 ⟨(some 5), none, .mv (.t 38)⟩, 
 ⟨(some 6), none, .mv (.t 43)⟩])
 (.seq (.reg [⟨(some 45), none, .mv (.t 6)⟩, 
 ⟨(some 46), none, .call 25 [(.t 45), (.k (.sc (.int .i64 3)))]⟩, 
 ⟨(some 47), none, .call 13 [(.k (.sc (.slice none 0 0))), (.t 46)]⟩, 
 ⟨(some 44), none, .mv (.t 47)⟩, 
 ⟨(some 48), none, .ext (.t 44) 0⟩, 
 ⟨(some 49), none, .ext (.t 44) 1⟩, 
 ⟨(some 7), none, .mv (.t 48)⟩, 
 ⟨(some 8), none, .mv (.t 49)⟩])
 (.seq (.reg [⟨(some 51), none, .mv (.t 7)⟩, 
 ⟨(some 52), none, .mv (.t 5)⟩, 
 ⟨(some 53), none, .call 25 [(.t 52), (.k (.sc (.int .i64 2)))]⟩, 
 ⟨(some 54), none, .call 13 [(.t 51), (.t 53)]⟩, 
 ⟨(some 50), none, .mv (.t 54)⟩, 
 ⟨(some 55), none, .ext (.t 50) 0⟩, 
 ⟨(some 56), none, .ext (.t 50) 1⟩, 
 ⟨(some 7), none, .mv (.t 55)⟩, 
 ⟨(some 9), none, .mv (.t 56)⟩])
 (.seq (.reg [⟨(some 58), none, .mv (.t 7)⟩, 
 ⟨(some 59), none, .call 16 [(.t 58), (.k (.sc (.string ⟨#[83]⟩))), (.k (.sc (.string ⟨#[84]⟩)))]⟩, 
 ⟨(some 57), none, .mv (.t 59)⟩, 
 ⟨(some 60), none, .ext (.t 57) 0⟩, 
 ⟨(some 61), none, .ext (.t 57) 1⟩, 
 ⟨(some 10), none, .mv (.t 60)⟩, 
 ⟨(some 11), none, .mv (.t 61)⟩])
 (.seq (.seq (.reg [⟨(some 62), none, .mv (.t 8)⟩, 
 ⟨(some 63), none, .bin .neq false (.t 62) (.k (.sc (.int .i64 0))) (pu (.binOp .neq 25 (.tmp 62) (.const (.int .i64 0)) 25) 4)⟩, 
 ⟨(some 64), none, .mv (.t 63)⟩, 
 ⟨(some 65), (some ((some 64), false)), .mv (.t 9)⟩, 
 ⟨(some 66), (some ((some 64), false)), .bin .neq false (.t 65) (.k (.sc (.int .i64 0))) (pu (.binOp .neq 25 (.tmp 65) (.const (.int .i64 0)) 25) 4)⟩, 
 ⟨(some 67), none, .pick (.t 64) (.k (.sc (.bool true))) (.t 66)⟩, 
 ⟨(some 68), none, .mv (.t 67)⟩, 
 ⟨(some 69), (some ((some 68), false)), .mv (.t 11)⟩, 
 ⟨(some 70), (some ((some 68), false)), .un .not (.t 69) (pu (.unOp .not 4 (.tmp 69)) 4)⟩, 
 ⟨(some 71), none, .pick (.t 68) (.k (.sc (.bool true))) (.t 70)⟩, 
 ⟨(some 72), none, .mv (.t 71)⟩, 
 ⟨(some 73), (some ((some 72), false)), .mv (.t 10)⟩, 
 ⟨(some 74), (some ((some 72), false)), .len (.t 73) (pu (.call ⟨.builtin .len, #[(.tmp 73)], #[34]⟩) 3)⟩, 
 ⟨(some 75), (some ((some 72), false)), .mv (.t 6)⟩, 
 ⟨(some 76), (some ((some 72), false)), .bin .sub false (.t 75) (.k (.sc (.int .i64 1))) (pu (.binOp .sub 3 (.tmp 75) (.const (.int .i64 1)) 3) 3)⟩, 
 ⟨(some 77), (some ((some 72), false)), .pur (pu (.call ⟨.builtin .min, #[(.tmp 76), (.const (.int .i64 256))], #[3, 3]⟩) 3)⟩, 
 ⟨(some 78), (some ((some 72), false)), .bin .neq false (.t 74) (.t 77) (pu (.binOp .neq 3 (.tmp 74) (.tmp 77) 3) 4)⟩, 
 ⟨(some 79), none, .pick (.t 72) (.k (.sc (.bool true))) (.t 78)⟩])
 (.cond (.t 79) (.seq (.reg [⟨(some 4), none, .mv (.k (.sc (.bool false)))⟩])
  .ret)
 .skip))
 (.seq (.reg [⟨(some 12), none, .mv (.k (.sc (.int .i64 0)))⟩])
 (.seq (.seq (.reg [⟨(some 13), none, .mv (.k (.sc (.int .i64 0)))⟩])
 (.block 0 (.loop (.seq (.seq (.reg [⟨(some 80), none, .mv (.t 13)⟩, 
  ⟨(some 81), none, .mv (.t 10)⟩, 
  ⟨(some 82), none, .len (.t 81) (pu (.call ⟨.builtin .len, #[(.tmp 81)], #[34]⟩) 3)⟩, 
  ⟨(some 83), none, .bin .lss false (.t 80) (.t 82) (pu (.binOp .lss 3 (.tmp 80) (.tmp 82) 3) 4)⟩])
  (.cond (.t 83) .skip
  (.exit 0)))
  (.seq (.block 1 (.seq (.seq (.reg [⟨(some 86), none, .mv (.t 12)⟩, 
  ⟨(some 87), none, .mv (.t 5)⟩, 
  ⟨(some 88), none, .bin .eql false (.t 86) (.t 87) (pu (.binOp .eql 3 (.tmp 86) (.tmp 87) 3) 4)⟩])
  (.cond (.t 88) (.reg [⟨(some 89), none, .mv (.t 12)⟩, 
   ⟨(some 90), none, .bin .add false (.t 89) (.k (.sc (.int .i64 1))) (pu (.binOp .add 3 (.tmp 89) (.const (.int .i64 1)) 3) 3)⟩, 
   ⟨(some 12), none, .mv (.t 90)⟩])
  .skip))
  (.seq (.seq (.reg [⟨(some 91), none, .mv (.t 10)⟩, 
  ⟨(some 92), none, .mv (.t 13)⟩, 
  ⟨(some 93), none, .ixs 1 (.t 91) (.t 92)⟩, 
  ⟨(some 94), none, .ld none (.t 93)⟩, 
  ⟨(some 95), none, .mv (.t 12)⟩, 
  ⟨(some 96), none, .bin .neq false (.t 94) (.t 95) (pu (.binOp .neq 3 (.tmp 94) (.tmp 95) 3) 4)⟩])
  (.cond (.t 96) (.seq (.reg [⟨(some 4), none, .mv (.k (.sc (.bool false)))⟩])
   .ret)
  .skip))
  (.reg [⟨(some 97), none, .mv (.t 12)⟩, 
  ⟨(some 98), none, .bin .add false (.t 97) (.k (.sc (.int .i64 1))) (pu (.binOp .add 3 (.tmp 97) (.const (.int .i64 1)) 3) 3)⟩, 
  ⟨(some 12), none, .mv (.t 98)⟩]))))
  (.reg [⟨(some 84), none, .mv (.t 13)⟩, 
  ⟨(some 85), none, .bin .add false (.t 84) (.k (.sc (.int .i64 1))) (pu (.binOp .add 3 (.tmp 84) (.const (.int .i64 1)) 3) 3)⟩, 
  ⟨(some 13), none, .mv (.t 85)⟩]))))))
 (.seq (.reg [⟨(some 99), none, .call 10 []⟩, 
 ⟨(some 4), none, .mv (.t 99)⟩])
 .ret))))))))))
def k8 : List Nat := [0, 1, 4, 5, 6, 7, 8, 9, 10, 11, 12, 13, 32, 79, 83, 88, 96]
theorem ic8 : factsI Try.prog 8 = some (100, [.tmp 4], c8) := by kernel_rfl

-- chargenet/chargenetlaw36.short (47 slots)
def c9 : IC :=
 (.seq (.reg [⟨(some 2), none, .mv (.k (.sc (.bool false)))⟩])
 (.seq (.seq (.reg [⟨(some 4), none, .mv (.t 0)⟩, 
 ⟨(some 5), none, .len (.t 4) (pu (.call ⟨.builtin .len, #[(.tmp 4)], #[22]⟩) 3)⟩, 
 ⟨(some 6), none, .bin .gtr false (.t 5) (.k (.sc (.int .i64 30))) (pu (.binOp .gtr 3 (.tmp 5) (.const (.int .i64 30)) 3) 4)⟩])
 (.cond (.t 6) (.seq (.reg [⟨(some 2), none, .mv (.k (.sc (.bool false)))⟩])
  .ret)
 .skip))
 (.seq (.seq (.reg [⟨(some 3), none, .mv (.k (.sc (.int .i64 0)))⟩])
 (.block 0 (.loop (.seq (.seq (.reg [⟨(some 7), none, .mv (.t 3)⟩, 
  ⟨(some 8), none, .mv (.t 0)⟩, 
  ⟨(some 9), none, .len (.t 8) (pu (.call ⟨.builtin .len, #[(.tmp 8)], #[22]⟩) 3)⟩, 
  ⟨(some 10), none, .bin .lss false (.t 7) (.t 9) (pu (.binOp .lss 3 (.tmp 7) (.tmp 9) 3) 4)⟩])
  (.cond (.t 10) .skip
  (.exit 0)))
  (.seq (.block 1 (.seq (.reg [⟨(some 13), none, .mv (.t 0)⟩, 
  ⟨(some 14), none, .mv (.t 3)⟩, 
  ⟨(some 15), none, .ixs 10 (.t 13) (.t 14)⟩, 
  ⟨(some 16), none, .sh 0 (.t 15)⟩, 
  ⟨(some 17), none, .ld none (.t 16)⟩, 
  ⟨(some 18), none, .lens (.t 17) (pu (.call ⟨.builtin .len, #[(.tmp 17)], #[9]⟩) 3)⟩, 
  ⟨(some 19), none, .bin .gtr false (.t 18) (.k (.sc (.int .i64 50))) (pu (.binOp .gtr 3 (.tmp 18) (.const (.int .i64 50)) 3) 4)⟩, 
  ⟨(some 20), none, .mv (.t 19)⟩, 
  ⟨(some 21), (some ((some 20), false)), .mv (.t 0)⟩, 
  ⟨(some 22), (some ((some 20), false)), .mv (.t 3)⟩, 
  ⟨(some 23), (some ((some 20), false)), .ixs 10 (.t 21) (.t 22)⟩, 
  ⟨(some 24), (some ((some 20), false)), .sh 1 (.t 23)⟩, 
  ⟨(some 25), (some ((some 20), false)), .ld none (.t 24)⟩, 
  ⟨(some 26), (some ((some 20), false)), .lens (.t 25) (pu (.call ⟨.builtin .len, #[(.tmp 25)], #[9]⟩) 3)⟩, 
  ⟨(some 27), (some ((some 20), false)), .bin .gtr false (.t 26) (.k (.sc (.int .i64 50))) (pu (.binOp .gtr 3 (.tmp 26) (.const (.int .i64 50)) 3) 4)⟩, 
  ⟨(some 28), none, .pick (.t 20) (.k (.sc (.bool true))) (.t 27)⟩, 
  ⟨(some 29), none, .mv (.t 28)⟩, 
  ⟨(some 30), (some ((some 29), false)), .mv (.t 0)⟩, 
  ⟨(some 31), (some ((some 29), false)), .mv (.t 3)⟩, 
  ⟨(some 32), (some ((some 29), false)), .ixs 10 (.t 30) (.t 31)⟩, 
  ⟨(some 33), (some ((some 29), false)), .sh 6 (.t 32)⟩, 
  ⟨(some 34), (some ((some 29), false)), .ld none (.t 33)⟩, 
  ⟨(some 35), (some ((some 29), false)), .lens (.t 34) (pu (.call ⟨.builtin .len, #[(.tmp 34)], #[9]⟩) 3)⟩, 
  ⟨(some 36), (some ((some 29), false)), .bin .gtr false (.t 35) (.k (.sc (.int .i64 50))) (pu (.binOp .gtr 3 (.tmp 35) (.const (.int .i64 50)) 3) 4)⟩, 
  ⟨(some 37), none, .pick (.t 29) (.k (.sc (.bool true))) (.t 36)⟩, 
  ⟨(some 38), none, .mv (.t 37)⟩, 
  ⟨(some 39), (some ((some 38), false)), .mv (.t 0)⟩, 
  ⟨(some 40), (some ((some 38), false)), .mv (.t 3)⟩, 
  ⟨(some 41), (some ((some 38), false)), .ixs 10 (.t 39) (.t 40)⟩, 
  ⟨(some 42), (some ((some 38), false)), .sh 9 (.t 41)⟩, 
  ⟨(some 43), (some ((some 38), false)), .ld none (.t 42)⟩, 
  ⟨(some 44), (some ((some 38), false)), .len (.t 43) (pu (.call ⟨.builtin .len, #[(.tmp 43)], #[27]⟩) 3)⟩, 
  ⟨(some 45), (some ((some 38), false)), .bin .gtr false (.t 44) (.k (.sc (.int .i64 18))) (pu (.binOp .gtr 3 (.tmp 44) (.const (.int .i64 18)) 3) 4)⟩, 
  ⟨(some 46), none, .pick (.t 38) (.k (.sc (.bool true))) (.t 45)⟩])
  (.cond (.t 46) (.seq (.reg [⟨(some 2), none, .mv (.k (.sc (.bool false)))⟩])
   .ret)
  .skip)))
  (.reg [⟨(some 11), none, .mv (.t 3)⟩, 
  ⟨(some 12), none, .bin .add false (.t 11) (.k (.sc (.int .i64 1))) (pu (.binOp .add 3 (.tmp 11) (.const (.int .i64 1)) 3) 3)⟩, 
  ⟨(some 3), none, .mv (.t 12)⟩]))))))
 (.seq (.reg [⟨(some 2), none, .mv (.k (.sc (.bool true)))⟩])
 .ret))))
def k9 : List Nat := [0, 2, 3, 6, 10, 46]
theorem ic9 : factsI Try.prog 9 = some (47, [.tmp 2], c9) := by kernel_rfl

-- chargenet/chargenetlaw36.awake (98 slots)
def c10 : IC :=
 (.seq (.reg [⟨(some 0), none, .mv (.k (.sc (.bool false)))⟩])
 (.seq (.reg [⟨(some 13), none, .call 25 [(.k (.sc (.int .i64 2))), (.k (.sc (.int .i64 2)))]⟩, 
 ⟨(some 14), none, .call 13 [(.k (.sc (.slice none 0 0))), (.t 13)]⟩, 
 ⟨(some 12), none, .mv (.t 14)⟩, 
 ⟨(some 15), none, .ext (.t 12) 0⟩, 
 ⟨(some 16), none, .ext (.t 12) 1⟩, 
 ⟨(some 1), none, .mv (.t 15)⟩, 
 ⟨(some 2), none, .mv (.t 16)⟩])
 (.seq (.reg [⟨(some 18), none, .mv (.t 1)⟩, 
 ⟨(some 19), none, .call 25 [(.k (.sc (.int .i64 0))), (.k (.sc (.int .i64 1)))]⟩, 
 ⟨(some 20), none, .call 13 [(.t 18), (.t 19)]⟩, 
 ⟨(some 17), none, .mv (.t 20)⟩, 
 ⟨(some 21), none, .ext (.t 17) 0⟩, 
 ⟨(some 22), none, .ext (.t 17) 1⟩, 
 ⟨(some 1), none, .mv (.t 21)⟩, 
 ⟨(some 3), none, .mv (.t 22)⟩])
 (.seq (.reg [⟨(some 24), none, .mv (.t 1)⟩, 
 ⟨(some 25), none, .call 25 [(.k (.sc (.int .i64 4))), (.k (.sc (.int .i64 3)))]⟩, 
 ⟨(some 26), none, .call 13 [(.t 24), (.t 25)]⟩, 
 ⟨(some 23), none, .mv (.t 26)⟩, 
 ⟨(some 27), none, .ext (.t 23) 0⟩, 
 ⟨(some 28), none, .ext (.t 23) 1⟩, 
 ⟨(some 1), none, .mv (.t 27)⟩, 
 ⟨(some 4), none, .mv (.t 28)⟩])
 (.seq (.reg [⟨(some 30), none, .mv (.t 1)⟩, 
 ⟨(some 31), none, .call 25 [(.k (.sc (.int .i64 2))), (.k (.sc (.int .i64 2)))]⟩, 
 ⟨(some 32), none, .call 13 [(.t 30), (.t 31)]⟩, 
 ⟨(some 29), none, .mv (.t 32)⟩, 
 ⟨(some 33), none, .ext (.t 29) 0⟩, 
 ⟨(some 34), none, .ext (.t 29) 1⟩, 
 ⟨(some 5), none, .mv (.t 33)⟩, 
 ⟨(some 6), none, .mv (.t 34)⟩])
 (.seq (.reg [⟨(some 36), none, .mv (.t 1)⟩, 
 ⟨(some 37), none, .call 25 [(.k (.sc (.int .i64 5))), (.k (.sc (.int .i64 2)))]⟩, 
 ⟨(some 38), none, .call 13 [(.t 36), (.t 37)]⟩, 
 ⟨(some 35), none, .mv (.t 38)⟩, 
 ⟨(some 39), none, .ext (.t 35) 0⟩, 
 ⟨(some 40), none, .ext (.t 35) 1⟩, 
 ⟨(some 7), none, .mv (.t 39)⟩, 
 ⟨(some 8), none, .mv (.t 40)⟩])
 (.seq (.reg [⟨(some 42), none, .mv (.t 1)⟩, 
 ⟨(some 43), none, .call 16 [(.t 42), (.k (.sc (.string ⟨#[83]⟩))), (.k (.sc (.string ⟨#[84]⟩)))]⟩, 
 ⟨(some 41), none, .mv (.t 43)⟩, 
 ⟨(some 44), none, .ext (.t 41) 0⟩, 
 ⟨(some 45), none, .ext (.t 41) 1⟩, 
 ⟨(some 9), none, .mv (.t 44)⟩, 
 ⟨(some 10), none, .mv (.t 45)⟩])
 (.seq (.reg [⟨(some 46), none, .mv (.t 1)⟩, 
 ⟨(some 47), none, .call 22 [(.t 46)]⟩, 
 ⟨(some 11), none, .mv (.t 47)⟩])
 (.seq (.seq (.reg [⟨(some 48), none, .mv (.t 2)⟩, 
 ⟨(some 49), none, .bin .neq false (.t 48) (.k (.sc (.int .i64 0))) (pu (.binOp .neq 25 (.tmp 48) (.const (.int .i64 0)) 25) 4)⟩, 
 ⟨(some 50), none, .mv (.t 49)⟩, 
 ⟨(some 51), (some ((some 50), false)), .mv (.t 3)⟩, 
 ⟨(some 52), (some ((some 50), false)), .bin .neq false (.t 51) (.k (.sc (.int .i64 0))) (pu (.binOp .neq 25 (.tmp 51) (.const (.int .i64 0)) 25) 4)⟩, 
 ⟨(some 53), none, .pick (.t 50) (.k (.sc (.bool true))) (.t 52)⟩, 
 ⟨(some 54), none, .mv (.t 53)⟩, 
 ⟨(some 55), (some ((some 54), false)), .mv (.t 4)⟩, 
 ⟨(some 56), (some ((some 54), false)), .bin .neq false (.t 55) (.k (.sc (.int .i64 0))) (pu (.binOp .neq 25 (.tmp 55) (.const (.int .i64 0)) 25) 4)⟩, 
 ⟨(some 57), none, .pick (.t 54) (.k (.sc (.bool true))) (.t 56)⟩, 
 ⟨(some 58), none, .mv (.t 57)⟩, 
 ⟨(some 59), (some ((some 58), false)), .mv (.t 6)⟩, 
 ⟨(some 60), (some ((some 58), false)), .bin .neq false (.t 59) (.k (.sc (.int .i64 9))) (pu (.binOp .neq 25 (.tmp 59) (.const (.int .i64 9)) 25) 4)⟩, 
 ⟨(some 61), none, .pick (.t 58) (.k (.sc (.bool true))) (.t 60)⟩, 
 ⟨(some 62), none, .mv (.t 61)⟩, 
 ⟨(some 63), (some ((some 62), false)), .mv (.t 8)⟩, 
 ⟨(some 64), (some ((some 62), false)), .bin .neq false (.t 63) (.k (.sc (.int .i64 1))) (pu (.binOp .neq 25 (.tmp 63) (.const (.int .i64 1)) 25) 4)⟩, 
 ⟨(some 65), none, .pick (.t 62) (.k (.sc (.bool true))) (.t 64)⟩, 
 ⟨(some 66), none, .mv (.t 65)⟩, 
 ⟨(some 67), (some ((some 66), false)), .mv (.t 9)⟩, 
 ⟨(some 68), (some ((some 66), false)), .bsl 1 2 false [(.sc (.int .i64 0)), (.sc (.int .i64 0))] [(0, 1, (.k (.sc (.int .i64 1)))), (1, 1, (.k (.sc (.int .i64 3))))]⟩, 
 ⟨(some 69), (some ((some 66), false)), .call 20 [(.t 67), (.t 68)]⟩, 
 ⟨(some 70), (some ((some 66), false)), .un .not (.t 69) (pu (.unOp .not 4 (.tmp 69)) 4)⟩, 
 ⟨(some 71), none, .pick (.t 66) (.k (.sc (.bool true))) (.t 70)⟩, 
 ⟨(some 72), none, .mv (.t 71)⟩, 
 ⟨(some 73), (some ((some 72), false)), .mv (.t 10)⟩, 
 ⟨(some 74), (some ((some 72), false)), .un .not (.t 73) (pu (.unOp .not 4 (.tmp 73)) 4)⟩, 
 ⟨(some 75), none, .pick (.t 72) (.k (.sc (.bool true))) (.t 74)⟩, 
 ⟨(some 76), none, .mv (.t 75)⟩, 
 ⟨(some 77), (some ((some 76), false)), .mv (.t 11)⟩, 
 ⟨(some 78), (some ((some 76), false)), .bsl 1 2 false [(.sc (.string ⟨#[]⟩)), (.sc (.string ⟨#[]⟩))] [(0, 1, (.k (.sc (.string ⟨#[83]⟩)))), (1, 1, (.k (.sc (.string ⟨#[84]⟩))))]⟩, 
 ⟨(some 79), (some ((some 76), false)), .bsl 1 1 false [(.sc (.slice none 0 0))] [(0, 1, (.t 78))]⟩, 
 ⟨(some 80), (some ((some 76), false)), .call 21 [(.t 77), (.t 79)]⟩, 
 ⟨(some 81), (some ((some 76), false)), .un .not (.t 80) (pu (.unOp .not 4 (.tmp 80)) 4)⟩, 
 ⟨(some 82), none, .pick (.t 76) (.k (.sc (.bool true))) (.t 81)⟩])
 (.cond (.t 82) (.seq (.reg [⟨(some 0), none, .mv (.k (.sc (.bool false)))⟩])
  .ret)
 .skip))
 (.seq (.reg [⟨(some 83), none, .mv (.t 1)⟩, 
 ⟨(some 84), none, .call 18 [(.t 83), (.k (.sc (.string ⟨#[83]⟩))), (.k (.sc (.string ⟨#[84]⟩)))]⟩, 
 ⟨(some 85), none, .len (.t 84) (pu (.call ⟨.builtin .len, #[(.tmp 84)], #[22]⟩) 3)⟩, 
 ⟨(some 86), none, .bin .eql false (.t 85) (.k (.sc (.int .i64 3))) (pu (.binOp .eql 3 (.tmp 85) (.const (.int .i64 3)) 3) 4)⟩, 
 ⟨(some 87), none, .mv (.t 86)⟩, 
 ⟨(some 88), (some ((some 87), true)), .mv (.t 1)⟩, 
 ⟨(some 89), (some ((some 87), true)), .call 11 [(.t 88)]⟩, 
 ⟨(some 90), (some ((some 87), true)), .bin .eql false (.t 89) (.k (.sc (.int .i64 0))) (pu (.binOp .eql 25 (.tmp 89) (.const (.int .i64 0)) 25) 4)⟩, 
 ⟨(some 91), none, .pick (.t 87) (.t 90) (.k (.sc (.bool false)))⟩, 
 ⟨(some 92), none, .mv (.t 91)⟩, 
 ⟨(some 93), (some ((some 92), true)), .bld [(.sc (.string ⟨#[]⟩)), (.sc (.string ⟨#[]⟩)), (.sc (.int .i64 0)), (.sc (.int .i64 0)), (.sc (.int .i64 0)), (.sc (.int .i64 0)), (.sc (.string ⟨#[]⟩)), (.sc (.bool false)), (.sc (.int .i64 0)), (.sc (.slice none 0 0))] []⟩, 
 ⟨(some 94), (some ((some 92), true)), .bsl 10 1 true [(.sc (.string ⟨#[]⟩)), (.sc (.string ⟨#[]⟩)), (.sc (.int .i64 0)), (.sc (.int .i64 0)), (.sc (.int .i64 0)), (.sc (.int .i64 0)), (.sc (.string ⟨#[]⟩)), (.sc (.bool false)), (.sc (.int .i64 0)), (.sc (.slice none 0 0))] [(0, 10, (.t 93))]⟩, 
 ⟨(some 95), (some ((some 92), true)), .call 11 [(.t 94)]⟩, 
 ⟨(some 96), (some ((some 92), true)), .bin .eql false (.t 95) (.k (.sc (.int .i64 4))) (pu (.binOp .eql 25 (.tmp 95) (.const (.int .i64 4)) 25) 4)⟩, 
 ⟨(some 97), none, .pick (.t 92) (.t 96) (.k (.sc (.bool false)))⟩, 
 ⟨(some 0), none, .mv (.t 97)⟩])
 .ret))))))))))
def k10 : List Nat := [0, 1, 2, 3, 4, 6, 8, 9, 10, 11, 82]
theorem ic10 : factsI Try.prog 10 = some (98, [.tmp 0], c10) := by kernel_rfl

-- chargenet/intake.Valid (47 slots)
def c11 : IC :=
 (.seq (.reg [⟨(some 2), none, .mv (.k (.sc (.int .i64 0)))⟩])
 (.seq (.seq (.reg [⟨(some 7), none, .mv (.t 0)⟩, 
 ⟨(some 8), none, .len (.t 7) (pu (.call ⟨.builtin .len, #[(.tmp 7)], #[22]⟩) 3)⟩, 
 ⟨(some 9), none, .bin .gtr false (.t 8) (.k (.sc (.int .i64 4096))) (pu (.binOp .gtr 3 (.tmp 8) (.const (.int .i64 4096)) 3) 4)⟩])
 (.cond (.t 9) (.seq (.reg [⟨(some 2), none, .mv (.k (.sc (.int .i64 3)))⟩])
  .ret)
 .skip))
 (.seq (.seq (.reg [⟨(some 10), none, .mv (.t 0)⟩, 
 ⟨(some 11), none, .len (.t 10) (pu (.call ⟨.builtin .len, #[(.tmp 10)], #[22]⟩) 3)⟩, 
 ⟨(some 12), none, .mv (.k (.sc (.int .i64 0)))⟩])
 (.block 0 (.loop (.seq (.reg [⟨(some 13), none, .bin .lss false (.t 12) (.t 11) (pu (.binOp .lss 3 (.tmp 12) (.tmp 11) 3) 0)⟩])
  (.seq (.cond (.t 13) .skip
  (.exit 0))
  (.seq (.block 1 (.seq (.reg [⟨(some 14), none, .mv (.t 12)⟩, 
  ⟨(some 15), none, .ixs 10 (.t 10) (.t 12)⟩, 
  ⟨(some 16), none, .ld (some 10) (.t 15)⟩, 
  ⟨(some 4), none, .al (.agg [(.sc (.string ⟨#[]⟩)), (.sc (.string ⟨#[]⟩)), (.sc (.int .i64 0)), (.sc (.int .i64 0)), (.sc (.int .i64 0)), (.sc (.int .i64 0)), (.sc (.string ⟨#[]⟩)), (.sc (.bool false)), (.sc (.int .i64 0)), (.sc (.slice none 0 0))]) 10⟩, 
  ⟨(some 3), none, .mv (.t 14)⟩, 
  ⟨none, none, .st 10 (.t 4) (.t 16)⟩])
  (.seq (.seq (.reg [⟨(some 17), none, .ld (some 10) (.t 4)⟩, 
  ⟨(some 18), none, .call 26 [(.t 17)]⟩, 
  ⟨(some 5), none, .mv (.t 18)⟩])
  (.seq (.reg [⟨(some 19), none, .mv (.t 5)⟩, 
  ⟨(some 20), none, .bin .neq false (.t 19) (.k (.sc (.int .i64 0))) (pu (.binOp .neq 25 (.tmp 19) (.const (.int .i64 0)) 25) 4)⟩])
  (.cond (.t 20) (.seq (.reg [⟨(some 21), none, .mv (.t 5)⟩, 
   ⟨(some 2), none, .mv (.t 21)⟩])
   .ret)
  .skip)))
  (.seq (.seq (.reg [⟨(some 22), none, .mv (.t 3)⟩, 
  ⟨(some 23), none, .bin .eql false (.t 22) (.k (.sc (.int .i64 0))) (pu (.binOp .eql 3 (.tmp 22) (.const (.int .i64 0)) 3) 4)⟩])
  (.cond (.t 23) (.exit 1)
  .skip))
  (.seq (.reg [⟨(some 24), none, .mv (.t 0)⟩, 
  ⟨(some 25), none, .mv (.t 3)⟩, 
  ⟨(some 26), none, .bin .sub false (.t 25) (.k (.sc (.int .i64 1))) (pu (.binOp .sub 3 (.tmp 25) (.const (.int .i64 1)) 3) 3)⟩, 
  ⟨(some 27), none, .ixs 10 (.t 24) (.t 26)⟩, 
  ⟨(some 28), none, .ld (some 10) (.t 27)⟩, 
  ⟨(some 6), none, .al (.agg [(.sc (.string ⟨#[]⟩)), (.sc (.string ⟨#[]⟩)), (.sc (.int .i64 0)), (.sc (.int .i64 0)), (.sc (.int .i64 0)), (.sc (.int .i64 0)), (.sc (.string ⟨#[]⟩)), (.sc (.bool false)), (.sc (.int .i64 0)), (.sc (.slice none 0 0))]) 10⟩, 
  ⟨none, none, .st 10 (.t 6) (.t 28)⟩])
  (.seq (.seq (.drw [0, 1, 0, 7, 15, 31] [⟨(some 29), none, .ld (some 10) (.t 6)⟩, 
  ⟨(some 30), none, .call 28 [(.t 29)]⟩, 
  ⟨(some 31), none, .ld (some 10) (.t 4)⟩, 
  ⟨(some 32), none, .call 28 [(.t 31)]⟩, 
  ⟨(some 33), none, .call 27 [(.t 30), (.t 32)]⟩, 
  ⟨(some 34), none, .bin .geq false (.t 33) (.k (.sc (.int .i64 0))) (pu (.binOp .geq 3 (.tmp 33) (.const (.int .i64 0)) 3) 4)⟩])
  (.cond (.t 34) (.seq (.reg [⟨(some 2), none, .mv (.k (.sc (.int .i64 1)))⟩])
   .ret)
  .skip))
  (.seq (.drw [0, 1, 0, 7, 15, 31, 63, 127, 127, 511, 1023] [⟨(some 35), none, .ld (some 10) (.t 6)⟩, 
  ⟨(some 36), none, .call 28 [(.t 35)]⟩, 
  ⟨(some 37), none, .ld (some 10) (.t 4)⟩, 
  ⟨(some 38), none, .call 28 [(.t 37)]⟩, 
  ⟨(some 39), none, .call 29 [(.t 36), (.t 38)]⟩, 
  ⟨(some 40), none, .bin .eql false (.t 39) (.k (.sc (.int .i64 0))) (pu (.binOp .eql 3 (.tmp 39) (.const (.int .i64 0)) 3) 4)⟩, 
  ⟨(some 41), none, .mv (.t 40)⟩, 
  ⟨(some 42), (some ((some 41), true)), .ld (some 10) (.t 6)⟩, 
  ⟨(some 43), (some ((some 41), true)), .ld (some 10) (.t 4)⟩, 
  ⟨(some 44), (some ((some 41), true)), .call 30 [(.t 42), (.t 43)]⟩, 
  ⟨(some 45), none, .pick (.t 41) (.t 44) (.k (.sc (.bool false)))⟩])
  (.cond (.t 45) (.seq (.reg [⟨(some 2), none, .mv (.k (.sc (.int .i64 1)))⟩])
   .ret)
  .skip))))))))
  (.reg [⟨(some 46), none, .bin .add false (.t 12) (.k (.sc (.int .i64 1))) (pu (.binOp .add 3 (.tmp 12) (.const (.int .i64 1)) 3) 3)⟩, 
  ⟨(some 12), none, .mv (.t 46)⟩])))))))
 (.seq (.reg [⟨(some 2), none, .mv (.k (.sc (.int .i64 0)))⟩])
 .ret))))
def k11 : List Nat := [0, 2, 3, 4, 5, 6, 9, 10, 11, 12, 13, 20, 23, 34, 45]
theorem ic11 : factsI Try.prog 11 = some (47, [.tmp 2], c11) := by kernel_rfl

-- chargenet/chargenetref36.Valid (49 slots)
def c12 : IC :=
 (.seq (.reg [⟨(some 2), none, .mv (.k (.sc (.int .i64 0)))⟩])
 (.seq (.seq (.reg [⟨(some 5), none, .mv (.t 0)⟩, 
 ⟨(some 6), none, .len (.t 5) (pu (.call ⟨.builtin .len, #[(.tmp 5)], #[22]⟩) 3)⟩, 
 ⟨(some 7), none, .bin .gtr false (.t 6) (.k (.sc (.int .i64 4096))) (pu (.binOp .gtr 3 (.tmp 6) (.const (.int .i64 4096)) 3) 4)⟩])
 (.cond (.t 7) (.seq (.reg [⟨(some 2), none, .mv (.k (.sc (.int .i64 3)))⟩])
  .ret)
 .skip))
 (.seq (.seq (.reg [⟨(some 3), none, .mv (.k (.sc (.int .i64 0)))⟩])
 (.block 0 (.loop (.seq (.seq (.reg [⟨(some 8), none, .mv (.t 3)⟩, 
  ⟨(some 9), none, .mv (.t 0)⟩, 
  ⟨(some 10), none, .len (.t 9) (pu (.call ⟨.builtin .len, #[(.tmp 9)], #[22]⟩) 3)⟩, 
  ⟨(some 11), none, .bin .lss false (.t 8) (.t 10) (pu (.binOp .lss 3 (.tmp 8) (.tmp 10) 3) 4)⟩])
  (.cond (.t 11) .skip
  (.exit 0)))
  (.seq (.block 1 (.seq (.seq (.reg [⟨(some 14), none, .mv (.t 0)⟩, 
  ⟨(some 15), none, .mv (.t 3)⟩, 
  ⟨(some 16), none, .ixs 10 (.t 14) (.t 15)⟩, 
  ⟨(some 17), none, .ld (some 10) (.t 16)⟩, 
  ⟨(some 18), none, .call 31 [(.t 17)]⟩, 
  ⟨(some 4), none, .mv (.t 18)⟩])
  (.seq (.reg [⟨(some 19), none, .mv (.t 4)⟩, 
  ⟨(some 20), none, .bin .neq false (.t 19) (.k (.sc (.int .i64 0))) (pu (.binOp .neq 25 (.tmp 19) (.const (.int .i64 0)) 25) 4)⟩])
  (.cond (.t 20) (.seq (.reg [⟨(some 21), none, .mv (.t 4)⟩, 
   ⟨(some 2), none, .mv (.t 21)⟩])
   .ret)
  .skip)))
  (.seq (.drw [0, 1, 3, 7, 7, 23, 63, 127, 7, 7, 775, 1799, 4095, 8191, 16383, 32767, 32767, 98303, 262143, 524287, 32767, 32767, 3178495, 7372799, 16777215, 33554431, 67108863] [⟨(some 22), none, .mv (.t 3)⟩, 
  ⟨(some 23), none, .bin .gtr false (.t 22) (.k (.sc (.int .i64 0))) (pu (.binOp .gtr 3 (.tmp 22) (.const (.int .i64 0)) 3) 4)⟩, 
  ⟨(some 24), none, .mv (.t 23)⟩, 
  ⟨(some 25), (some ((some 24), true)), .mv (.t 0)⟩, 
  ⟨(some 26), (some ((some 24), true)), .mv (.t 3)⟩, 
  ⟨(some 27), (some ((some 24), true)), .bin .sub false (.t 26) (.k (.sc (.int .i64 1))) (pu (.binOp .sub 3 (.tmp 26) (.const (.int .i64 1)) 3) 3)⟩, 
  ⟨(some 28), (some ((some 24), true)), .ixs 10 (.t 25) (.t 27)⟩, 
  ⟨(some 29), (some ((some 24), true)), .ld (some 10) (.t 28)⟩, 
  ⟨(some 30), (some ((some 24), true)), .mv (.t 0)⟩, 
  ⟨(some 31), (some ((some 24), true)), .mv (.t 3)⟩, 
  ⟨(some 32), (some ((some 24), true)), .ixs 10 (.t 30) (.t 31)⟩, 
  ⟨(some 33), (some ((some 24), true)), .ld (some 10) (.t 32)⟩, 
  ⟨(some 34), (some ((some 24), true)), .call 32 [(.t 29), (.t 33)]⟩, 
  ⟨(some 35), (some ((some 24), true)), .un .not (.t 34) (pu (.unOp .not 4 (.tmp 34)) 4)⟩, 
  ⟨(some 36), (some ((some 24), true)), .mv (.t 35)⟩, 
  ⟨(some 37), (some ((some 36), false)), .mv (.t 0)⟩, 
  ⟨(some 38), (some ((some 36), false)), .mv (.t 3)⟩, 
  ⟨(some 39), (some ((some 36), false)), .bin .sub false (.t 38) (.k (.sc (.int .i64 1))) (pu (.binOp .sub 3 (.tmp 38) (.const (.int .i64 1)) 3) 3)⟩, 
  ⟨(some 40), (some ((some 36), false)), .ixs 10 (.t 37) (.t 39)⟩, 
  ⟨(some 41), (some ((some 36), false)), .ld (some 10) (.t 40)⟩, 
  ⟨(some 42), (some ((some 36), false)), .mv (.t 0)⟩, 
  ⟨(some 43), (some ((some 36), false)), .mv (.t 3)⟩, 
  ⟨(some 44), (some ((some 36), false)), .ixs 10 (.t 42) (.t 43)⟩, 
  ⟨(some 45), (some ((some 36), false)), .ld (some 10) (.t 44)⟩, 
  ⟨(some 46), (some ((some 36), false)), .call 33 [(.t 41), (.t 45)]⟩, 
  ⟨(some 47), (some ((some 24), true)), .pick (.t 36) (.k (.sc (.bool true))) (.t 46)⟩, 
  ⟨(some 48), none, .pick (.t 24) (.t 47) (.k (.sc (.bool false)))⟩])
  (.cond (.t 48) (.seq (.reg [⟨(some 2), none, .mv (.k (.sc (.int .i64 1)))⟩])
   .ret)
  .skip))))
  (.reg [⟨(some 12), none, .mv (.t 3)⟩, 
  ⟨(some 13), none, .bin .add false (.t 12) (.k (.sc (.int .i64 1))) (pu (.binOp .add 3 (.tmp 12) (.const (.int .i64 1)) 3) 3)⟩, 
  ⟨(some 3), none, .mv (.t 13)⟩]))))))
 (.seq (.reg [⟨(some 2), none, .mv (.k (.sc (.int .i64 0)))⟩])
 .ret))))
def k12 : List Nat := [0, 2, 3, 4, 7, 11, 20, 48]
theorem ic12 : factsI Try.prog 12 = some (49, [.tmp 2], c12) := by kernel_rfl

-- chargenet/intake.Put (91 slots)
def c13 : IC :=
 (.seq (.reg [⟨(some 3), none, .bx (.t 1)⟩, 
 ⟨(some 4), none, .mv (.k (.sc (.slice none 0 0)))⟩, 
 ⟨(some 5), none, .mv (.k (.sc (.int .i64 0)))⟩])
 (.seq (.seq (.reg [⟨(some 15), none, .ld (some 10) (.t 3)⟩, 
 ⟨(some 16), none, .call 26 [(.t 15)]⟩, 
 ⟨(some 6), none, .mv (.t 16)⟩])
 (.seq (.reg [⟨(some 17), none, .mv (.t 6)⟩, 
 ⟨(some 18), none, .bin .neq false (.t 17) (.k (.sc (.int .i64 0))) (pu (.binOp .neq 25 (.tmp 17) (.const (.int .i64 0)) 25) 4)⟩])
 (.cond (.t 18) (.seq (.reg [⟨(some 19), none, .mv (.t 0)⟩, 
  ⟨(some 20), none, .mv (.t 6)⟩, 
  ⟨(some 4), none, .mv (.t 19)⟩, 
  ⟨(some 5), none, .mv (.t 20)⟩])
  .ret)
 .skip)))
 (.seq (.reg [⟨(some 22), none, .mv (.t 0)⟩, 
 ⟨(some 23), none, .sh 0 (.t 3)⟩, 
 ⟨(some 24), none, .ld none (.t 23)⟩, 
 ⟨(some 25), none, .sh 1 (.t 3)⟩, 
 ⟨(some 26), none, .ld none (.t 25)⟩, 
 ⟨(some 27), none, .call 34 [(.t 22), (.t 24), (.t 26)]⟩, 
 ⟨(some 21), none, .mv (.t 27)⟩, 
 ⟨(some 28), none, .ext (.t 21) 0⟩, 
 ⟨(some 29), none, .ext (.t 21) 1⟩, 
 ⟨(some 7), none, .mv (.t 28)⟩, 
 ⟨(some 8), none, .mv (.t 29)⟩])
 (.seq (.seq (.drw [0, 0, 0, 7, 15, 0, 63, 127, 255, 511, 511, 0, 3071, 8191] [⟨(some 31), none, .mv (.t 0)⟩, 
 ⟨(some 32), none, .mv (.t 7)⟩, 
 ⟨(some 33), none, .mv (.t 8)⟩, 
 ⟨(some 34), none, .sl 10 (.t 31) (some (.t 32)) (some (.t 33)) none (pu (.slice 22 (.tmp 31) (some (.tmp 32)) (some (.tmp 33)) none) 22)⟩, 
 ⟨(some 35), none, .call 35 [(.t 34)]⟩, 
 ⟨(some 36), none, .ld (some 10) (.t 3)⟩, 
 ⟨(some 37), none, .call 28 [(.t 36)]⟩, 
 ⟨(some 38), none, .mlk true [.s, .s, (.i .i64)] (.agg [(.sc (.string ⟨#[]⟩)), (.sc (.string ⟨#[]⟩)), (.sc (.int .i64 0)), (.sc (.int .i64 0)), (.sc (.int .i64 0)), (.sc (.int .i64 0)), (.sc (.string ⟨#[]⟩)), (.sc (.bool false)), (.sc (.int .i64 0)), (.sc (.slice none 0 0))]) true (.t 35) (.t 37) (pu (.lookup 59 (.tmp 35) (.tmp 37) true) 58)⟩, 
 ⟨(some 30), none, .mv (.t 38)⟩, 
 ⟨(some 39), none, .ext (.t 30) 0⟩, 
 ⟨(some 40), none, .ext (.t 30) 1⟩, 
 ⟨(some 9), none, .al (.agg [(.sc (.string ⟨#[]⟩)), (.sc (.string ⟨#[]⟩)), (.sc (.int .i64 0)), (.sc (.int .i64 0)), (.sc (.int .i64 0)), (.sc (.int .i64 0)), (.sc (.string ⟨#[]⟩)), (.sc (.bool false)), (.sc (.int .i64 0)), (.sc (.slice none 0 0))]) 10⟩, 
 ⟨none, none, .st 10 (.t 9) (.t 39)⟩, 
 ⟨(some 10), none, .mv (.t 40)⟩])
 (.seq (.reg [⟨(some 41), none, .mv (.t 10)⟩])
 (.cond (.t 41) (.seq (.seq (.reg [⟨(some 42), none, .ld (some 10) (.t 9)⟩, 
  ⟨(some 43), none, .ld (some 10) (.t 3)⟩, 
  ⟨(some 44), none, .call 36 [(.t 42), (.t 43)]⟩])
  (.cond (.t 44) (.seq (.reg [⟨(some 45), none, .mv (.t 0)⟩, 
   ⟨(some 4), none, .mv (.t 45)⟩, 
   ⟨(some 5), none, .mv (.k (.sc (.int .i64 9)))⟩])
   .ret)
  .skip))
  (.seq (.reg [⟨(some 46), none, .mv (.t 0)⟩, 
  ⟨(some 4), none, .mv (.t 46)⟩, 
  ⟨(some 5), none, .mv (.k (.sc (.int .i64 23)))⟩])
  .ret))
 .skip)))
 (.seq (.reg [⟨(some 47), none, .mv (.t 7)⟩, 
 ⟨(some 11), none, .mv (.t 47)⟩])
 (.seq (.seq (.reg [⟨(some 48), none, .mv (.t 0)⟩, 
 ⟨(some 49), none, .mv (.t 7)⟩, 
 ⟨(some 50), none, .mv (.t 8)⟩, 
 ⟨(some 51), none, .sl 10 (.t 48) (some (.t 49)) (some (.t 50)) none (pu (.slice 22 (.tmp 48) (some (.tmp 49)) (some (.tmp 50)) none) 22)⟩, 
 ⟨(some 52), none, .len (.t 51) (pu (.call ⟨.builtin .len, #[(.tmp 51)], #[22]⟩) 3)⟩, 
 ⟨(some 53), none, .mv (.k (.sc (.int .i64 0)))⟩])
 (.block 0 (.loop (.seq (.reg [⟨(some 54), none, .bin .lss false (.t 53) (.t 52) (pu (.binOp .lss 3 (.tmp 53) (.tmp 52) 3) 0)⟩])
  (.seq (.cond (.t 54) .skip
  (.exit 0))
  (.seq (.block 1 (.seq (.reg [⟨(some 55), none, .ixs 10 (.t 51) (.t 53)⟩, 
  ⟨(some 56), none, .ld (some 10) (.t 55)⟩, 
  ⟨(some 13), none, .al (.agg [(.sc (.string ⟨#[]⟩)), (.sc (.string ⟨#[]⟩)), (.sc (.int .i64 0)), (.sc (.int .i64 0)), (.sc (.int .i64 0)), (.sc (.int .i64 0)), (.sc (.string ⟨#[]⟩)), (.sc (.bool false)), (.sc (.int .i64 0)), (.sc (.slice none 0 0))]) 10⟩, 
  ⟨none, none, .st 10 (.t 13) (.t 56)⟩])
  (.seq (.seq (.reg [⟨(some 57), none, .ld (some 10) (.t 13)⟩, 
  ⟨(some 58), none, .ld (some 10) (.t 3)⟩, 
  ⟨(some 59), none, .call 30 [(.t 57), (.t 58)]⟩])
  (.cond (.t 59) (.seq (.reg [⟨(some 60), none, .mv (.t 0)⟩, 
   ⟨(some 4), none, .mv (.t 60)⟩, 
   ⟨(some 5), none, .mv (.k (.sc (.int .i64 1)))⟩])
   .ret)
  .skip))
  (.seq (.reg [⟨(some 61), none, .sh 3 (.t 13)⟩, 
  ⟨(some 62), none, .ld none (.t 61)⟩, 
  ⟨(some 63), none, .sh 3 (.t 3)⟩, 
  ⟨(some 64), none, .ld none (.t 63)⟩, 
  ⟨(some 65), none, .bin .lss false (.t 62) (.t 64) (pu (.binOp .lss 3 (.tmp 62) (.tmp 64) 3) 4)⟩])
  (.cond (.t 65) (.reg [⟨(some 66), none, .mv (.t 11)⟩, 
   ⟨(some 67), none, .bin .add false (.t 66) (.k (.sc (.int .i64 1))) (pu (.binOp .add 3 (.tmp 66) (.const (.int .i64 1)) 3) 3)⟩, 
   ⟨(some 11), none, .mv (.t 67)⟩])
  .skip)))))
  (.reg [⟨(some 68), none, .bin .add false (.t 53) (.k (.sc (.int .i64 1))) (pu (.binOp .add 3 (.tmp 53) (.const (.int .i64 1)) 3) 3)⟩, 
  ⟨(some 53), none, .mv (.t 68)⟩])))))))
 (.seq (.seq (.reg [⟨(some 69), none, .mv (.t 0)⟩, 
 ⟨(some 70), none, .len (.t 69) (pu (.call ⟨.builtin .len, #[(.tmp 69)], #[22]⟩) 3)⟩, 
 ⟨(some 71), none, .bin .geq false (.t 70) (.k (.sc (.int .i64 4096))) (pu (.binOp .geq 3 (.tmp 70) (.const (.int .i64 4096)) 3) 4)⟩])
 (.cond (.t 71) (.seq (.reg [⟨(some 72), none, .mv (.t 0)⟩, 
  ⟨(some 4), none, .mv (.t 72)⟩, 
  ⟨(some 5), none, .mv (.k (.sc (.int .i64 3)))⟩])
  .ret)
 .skip))
 (.seq (.reg [⟨(some 73), none, .mv (.t 0)⟩, 
 ⟨(some 74), none, .len (.t 73) (pu (.call ⟨.builtin .len, #[(.tmp 73)], #[22]⟩) 3)⟩, 
 ⟨(some 75), none, .bin .add false (.t 74) (.k (.sc (.int .i64 1))) (pu (.binOp .add 3 (.tmp 74) (.const (.int .i64 1)) 3) 3)⟩, 
 ⟨(some 76), none, .mks 10 120 (.agg [(.sc (.string ⟨#[]⟩)), (.sc (.string ⟨#[]⟩)), (.sc (.int .i64 0)), (.sc (.int .i64 0)), (.sc (.int .i64 0)), (.sc (.int .i64 0)), (.sc (.string ⟨#[]⟩)), (.sc (.bool false)), (.sc (.int .i64 0)), (.sc (.slice none 0 0))]) (.k (.sc (.int .i64 0))) (.t 75)⟩, 
 ⟨(some 14), none, .mv (.t 76)⟩])
 (.seq (.reg [⟨(some 77), none, .mv (.t 14)⟩, 
 ⟨(some 78), none, .mv (.t 0)⟩, 
 ⟨(some 79), none, .mv (.t 11)⟩, 
 ⟨(some 80), none, .sl 10 (.t 78) none (some (.t 79)) none (pu (.slice 22 (.tmp 78) none (some (.tmp 79)) none) 22)⟩, 
 ⟨(some 81), none, .call 37 [(.t 77), (.t 80)]⟩, 
 ⟨(some 14), none, .mv (.t 81)⟩])
 (.seq (.reg [⟨(some 82), none, .mv (.t 14)⟩, 
 ⟨(some 83), none, .ld (some 10) (.t 3)⟩, 
 ⟨(some 84), none, .bsl 10 1 true [(.sc (.string ⟨#[]⟩)), (.sc (.string ⟨#[]⟩)), (.sc (.int .i64 0)), (.sc (.int .i64 0)), (.sc (.int .i64 0)), (.sc (.int .i64 0)), (.sc (.string ⟨#[]⟩)), (.sc (.bool false)), (.sc (.int .i64 0)), (.sc (.slice none 0 0))] [(0, 10, (.t 83))]⟩, 
 ⟨(some 85), none, .call 37 [(.t 82), (.t 84)]⟩, 
 ⟨(some 14), none, .mv (.t 85)⟩])
 (.seq (.reg [⟨(some 86), none, .mv (.t 14)⟩, 
 ⟨(some 87), none, .mv (.t 0)⟩, 
 ⟨(some 88), none, .mv (.t 11)⟩, 
 ⟨(some 89), none, .sl 10 (.t 87) (some (.t 88)) none none (pu (.slice 22 (.tmp 87) (some (.tmp 88)) none none) 22)⟩, 
 ⟨(some 90), none, .call 37 [(.t 86), (.t 89)]⟩, 
 ⟨(some 4), none, .mv (.t 90)⟩, 
 ⟨(some 5), none, .mv (.k (.sc (.int .i64 0)))⟩])
 .ret)))))))))))
def k13 : List Nat := [0, 1, 3, 4, 5, 6, 7, 8, 9, 10, 11, 13, 14, 18, 41, 44, 51, 52, 53, 54, 59, 65, 71]
theorem ic13 : factsI Try.prog 13 = some (91, [.tmp 4, .tmp 5], c13) := by kernel_rfl

-- chargenet/chargenetref36.Put (84 slots)
def c14 : IC :=
 (.seq (.reg [⟨(some 3), none, .bx (.t 1)⟩, 
 ⟨(some 4), none, .mv (.k (.sc (.slice none 0 0)))⟩, 
 ⟨(some 5), none, .mv (.k (.sc (.int .i64 0)))⟩])
 (.seq (.seq (.reg [⟨(some 11), none, .ld (some 10) (.t 3)⟩, 
 ⟨(some 12), none, .call 31 [(.t 11)]⟩, 
 ⟨(some 6), none, .mv (.t 12)⟩])
 (.seq (.reg [⟨(some 13), none, .mv (.t 6)⟩, 
 ⟨(some 14), none, .bin .neq false (.t 13) (.k (.sc (.int .i64 0))) (pu (.binOp .neq 25 (.tmp 13) (.const (.int .i64 0)) 25) 4)⟩])
 (.cond (.t 14) (.seq (.reg [⟨(some 15), none, .mv (.t 0)⟩, 
  ⟨(some 16), none, .mv (.t 6)⟩, 
  ⟨(some 4), none, .mv (.t 15)⟩, 
  ⟨(some 5), none, .mv (.t 16)⟩])
  .ret)
 .skip)))
 (.seq (.reg [⟨(some 7), none, .mv (.k (.sc (.int .i64 0)))⟩])
 (.seq (.reg [⟨(some 8), none, .mv (.k (.sc (.bool false)))⟩])
 (.seq (.seq (.reg [⟨(some 9), none, .mv (.k (.sc (.int .i64 0)))⟩])
 (.block 0 (.loop (.seq (.seq (.reg [⟨(some 17), none, .mv (.t 9)⟩, 
  ⟨(some 18), none, .mv (.t 0)⟩, 
  ⟨(some 19), none, .len (.t 18) (pu (.call ⟨.builtin .len, #[(.tmp 18)], #[22]⟩) 3)⟩, 
  ⟨(some 20), none, .bin .lss false (.t 17) (.t 19) (pu (.binOp .lss 3 (.tmp 17) (.tmp 19) 3) 4)⟩])
  (.cond (.t 20) .skip
  (.exit 0)))
  (.seq (.block 1 (.seq (.seq (.drw [0, 0, 3, 7, 0, 31, 63, 127, 127, 511, 1023, 2047, 127, 4223, 16383, 32767] [⟨(some 23), none, .mv (.t 0)⟩, 
  ⟨(some 24), none, .mv (.t 9)⟩, 
  ⟨(some 25), none, .ixs 10 (.t 23) (.t 24)⟩, 
  ⟨(some 26), none, .ld (some 10) (.t 25)⟩, 
  ⟨(some 27), none, .ld (some 10) (.t 3)⟩, 
  ⟨(some 28), none, .call 38 [(.t 26), (.t 27)]⟩, 
  ⟨(some 29), none, .mv (.t 28)⟩, 
  ⟨(some 30), (some ((some 29), true)), .mv (.t 0)⟩, 
  ⟨(some 31), (some ((some 29), true)), .mv (.t 9)⟩, 
  ⟨(some 32), (some ((some 29), true)), .ixs 10 (.t 30) (.t 31)⟩, 
  ⟨(some 33), (some ((some 29), true)), .sh 3 (.t 32)⟩, 
  ⟨(some 34), (some ((some 29), true)), .ld none (.t 33)⟩, 
  ⟨(some 35), (some ((some 29), true)), .sh 3 (.t 3)⟩, 
  ⟨(some 36), (some ((some 29), true)), .ld none (.t 35)⟩, 
  ⟨(some 37), (some ((some 29), true)), .bin .eql false (.t 34) (.t 36) (pu (.binOp .eql 3 (.tmp 34) (.tmp 36) 3) 4)⟩, 
  ⟨(some 38), none, .pick (.t 29) (.t 37) (.k (.sc (.bool false)))⟩])
  (.cond (.t 38) (.seq (.seq (.drw [0, 0, 3, 7, 0, 31] [⟨(some 39), none, .mv (.t 0)⟩, 
   ⟨(some 40), none, .mv (.t 9)⟩, 
   ⟨(some 41), none, .ixs 10 (.t 39) (.t 40)⟩, 
   ⟨(some 42), none, .ld (some 10) (.t 41)⟩, 
   ⟨(some 43), none, .ld (some 10) (.t 3)⟩, 
   ⟨(some 44), none, .call 39 [(.t 42), (.t 43)]⟩])
   (.cond (.t 44) (.seq (.reg [⟨(some 45), none, .mv (.t 0)⟩, 
    ⟨(some 4), none, .mv (.t 45)⟩, 
    ⟨(some 5), none, .mv (.k (.sc (.int .i64 9)))⟩])
    .ret)
   .skip))
   (.seq (.reg [⟨(some 46), none, .mv (.t 0)⟩, 
   ⟨(some 4), none, .mv (.t 46)⟩, 
   ⟨(some 5), none, .mv (.k (.sc (.int .i64 23)))⟩])
   .ret))
  .skip))
  (.seq (.drw [0, 1, 3, 3, 15, 31, 3, 127, 255, 511] [⟨(some 47), none, .mv (.t 8)⟩, 
  ⟨(some 48), none, .mv (.t 47)⟩, 
  ⟨(some 49), (some ((some 48), false)), .mv (.t 0)⟩, 
  ⟨(some 50), (some ((some 48), false)), .mv (.t 9)⟩, 
  ⟨(some 51), (some ((some 48), false)), .ixs 10 (.t 49) (.t 50)⟩, 
  ⟨(some 52), (some ((some 48), false)), .ld (some 10) (.t 51)⟩, 
  ⟨(some 53), (some ((some 48), false)), .ld (some 10) (.t 3)⟩, 
  ⟨(some 54), (some ((some 48), false)), .call 33 [(.t 52), (.t 53)]⟩, 
  ⟨(some 55), none, .pick (.t 48) (.k (.sc (.bool true))) (.t 54)⟩, 
  ⟨(some 8), none, .mv (.t 55)⟩])
  (.seq (.drw [0, 0, 3, 7, 0, 31] [⟨(some 56), none, .mv (.t 0)⟩, 
  ⟨(some 57), none, .mv (.t 9)⟩, 
  ⟨(some 58), none, .ixs 10 (.t 56) (.t 57)⟩, 
  ⟨(some 59), none, .ld (some 10) (.t 58)⟩, 
  ⟨(some 60), none, .ld (some 10) (.t 3)⟩, 
  ⟨(some 61), none, .call 32 [(.t 59), (.t 60)]⟩])
  (.cond (.t 61) (.reg [⟨(some 62), none, .mv (.t 9)⟩, 
   ⟨(some 63), none, .bin .add false (.t 62) (.k (.sc (.int .i64 1))) (pu (.binOp .add 3 (.tmp 62) (.const (.int .i64 1)) 3) 3)⟩, 
   ⟨(some 7), none, .mv (.t 63)⟩])
  .skip)))))
  (.reg [⟨(some 21), none, .mv (.t 9)⟩, 
  ⟨(some 22), none, .bin .add false (.t 21) (.k (.sc (.int .i64 1))) (pu (.binOp .add 3 (.tmp 21) (.const (.int .i64 1)) 3) 3)⟩, 
  ⟨(some 9), none, .mv (.t 22)⟩]))))))
 (.seq (.seq (.reg [⟨(some 64), none, .mv (.t 8)⟩])
 (.cond (.t 64) (.seq (.reg [⟨(some 65), none, .mv (.t 0)⟩, 
  ⟨(some 4), none, .mv (.t 65)⟩, 
  ⟨(some 5), none, .mv (.k (.sc (.int .i64 1)))⟩])
  .ret)
 .skip))
 (.seq (.seq (.reg [⟨(some 66), none, .mv (.t 0)⟩, 
 ⟨(some 67), none, .len (.t 66) (pu (.call ⟨.builtin .len, #[(.tmp 66)], #[22]⟩) 3)⟩, 
 ⟨(some 68), none, .bin .geq false (.t 67) (.k (.sc (.int .i64 4096))) (pu (.binOp .geq 3 (.tmp 67) (.const (.int .i64 4096)) 3) 4)⟩])
 (.cond (.t 68) (.seq (.reg [⟨(some 69), none, .mv (.t 0)⟩, 
  ⟨(some 4), none, .mv (.t 69)⟩, 
  ⟨(some 5), none, .mv (.k (.sc (.int .i64 3)))⟩])
  .ret)
 .skip))
 (.seq (.reg [⟨(some 10), none, .mv (.k (.sc (.slice none 0 0)))⟩])
 (.seq (.reg [⟨(some 70), none, .mv (.t 10)⟩, 
 ⟨(some 71), none, .mv (.t 0)⟩, 
 ⟨(some 72), none, .mv (.t 7)⟩, 
 ⟨(some 73), none, .sl 10 (.t 71) none (some (.t 72)) none (pu (.slice 22 (.tmp 71) none (some (.tmp 72)) none) 22)⟩, 
 ⟨(some 74), none, .app 10 120 (.t 70) (.t 73)⟩, 
 ⟨(some 10), none, .mv (.t 74)⟩])
 (.seq (.reg [⟨(some 75), none, .mv (.t 10)⟩, 
 ⟨(some 76), none, .ld (some 10) (.t 3)⟩, 
 ⟨(some 77), none, .bsl 10 1 true [(.sc (.string ⟨#[]⟩)), (.sc (.string ⟨#[]⟩)), (.sc (.int .i64 0)), (.sc (.int .i64 0)), (.sc (.int .i64 0)), (.sc (.int .i64 0)), (.sc (.string ⟨#[]⟩)), (.sc (.bool false)), (.sc (.int .i64 0)), (.sc (.slice none 0 0))] [(0, 10, (.t 76))]⟩, 
 ⟨(some 78), none, .app 10 120 (.t 75) (.t 77)⟩, 
 ⟨(some 10), none, .mv (.t 78)⟩])
 (.seq (.reg [⟨(some 79), none, .mv (.t 10)⟩, 
 ⟨(some 80), none, .mv (.t 0)⟩, 
 ⟨(some 81), none, .mv (.t 7)⟩, 
 ⟨(some 82), none, .sl 10 (.t 80) (some (.t 81)) none none (pu (.slice 22 (.tmp 80) (some (.tmp 81)) none none) 22)⟩, 
 ⟨(some 83), none, .app 10 120 (.t 79) (.t 82)⟩, 
 ⟨(some 4), none, .mv (.t 83)⟩, 
 ⟨(some 5), none, .mv (.k (.sc (.int .i64 0)))⟩])
 .ret)))))))))))
def k14 : List Nat := [0, 1, 3, 4, 5, 6, 7, 8, 9, 10, 14, 20, 38, 44, 61, 64, 68]
theorem ic14 : factsI Try.prog 14 = some (84, [.tmp 4, .tmp 5], c14) := by kernel_rfl

-- chargenet/chargenetref36.Same (27 slots)
def c15 : IC :=
 (.seq (.reg [⟨(some 4), none, .mv (.k (.sc (.bool false)))⟩])
 (.seq (.seq (.reg [⟨(some 6), none, .mv (.t 0)⟩, 
 ⟨(some 7), none, .len (.t 6) (pu (.call ⟨.builtin .len, #[(.tmp 6)], #[22]⟩) 3)⟩, 
 ⟨(some 8), none, .mv (.t 1)⟩, 
 ⟨(some 9), none, .len (.t 8) (pu (.call ⟨.builtin .len, #[(.tmp 8)], #[22]⟩) 3)⟩, 
 ⟨(some 10), none, .bin .neq false (.t 7) (.t 9) (pu (.binOp .neq 3 (.tmp 7) (.tmp 9) 3) 4)⟩])
 (.cond (.t 10) (.seq (.reg [⟨(some 4), none, .mv (.k (.sc (.bool false)))⟩])
  .ret)
 .skip))
 (.seq (.seq (.reg [⟨(some 5), none, .mv (.k (.sc (.int .i64 0)))⟩])
 (.block 0 (.loop (.seq (.seq (.reg [⟨(some 11), none, .mv (.t 5)⟩, 
  ⟨(some 12), none, .mv (.t 0)⟩, 
  ⟨(some 13), none, .len (.t 12) (pu (.call ⟨.builtin .len, #[(.tmp 12)], #[22]⟩) 3)⟩, 
  ⟨(some 14), none, .bin .lss false (.t 11) (.t 13) (pu (.binOp .lss 3 (.tmp 11) (.tmp 13) 3) 4)⟩])
  (.cond (.t 14) .skip
  (.exit 0)))
  (.seq (.block 1 (.seq (.drw [0, 0, 3, 7, 0, 0, 48, 112, 255, 511] [⟨(some 17), none, .mv (.t 0)⟩, 
  ⟨(some 18), none, .mv (.t 5)⟩, 
  ⟨(some 19), none, .ixs 10 (.t 17) (.t 18)⟩, 
  ⟨(some 20), none, .ld (some 10) (.t 19)⟩, 
  ⟨(some 21), none, .mv (.t 1)⟩, 
  ⟨(some 22), none, .mv (.t 5)⟩, 
  ⟨(some 23), none, .ixs 10 (.t 21) (.t 22)⟩, 
  ⟨(some 24), none, .ld (some 10) (.t 23)⟩, 
  ⟨(some 25), none, .call 39 [(.t 20), (.t 24)]⟩, 
  ⟨(some 26), none, .un .not (.t 25) (pu (.unOp .not 4 (.tmp 25)) 4)⟩])
  (.cond (.t 26) (.seq (.reg [⟨(some 4), none, .mv (.k (.sc (.bool false)))⟩])
   .ret)
  .skip)))
  (.reg [⟨(some 15), none, .mv (.t 5)⟩, 
  ⟨(some 16), none, .bin .add false (.t 15) (.k (.sc (.int .i64 1))) (pu (.binOp .add 3 (.tmp 15) (.const (.int .i64 1)) 3) 3)⟩, 
  ⟨(some 5), none, .mv (.t 16)⟩]))))))
 (.seq (.reg [⟨(some 4), none, .mv (.k (.sc (.bool true)))⟩])
 .ret))))
def k15 : List Nat := [0, 1, 4, 5, 10, 14, 26]
theorem ic15 : factsI Try.prog 15 = some (27, [.tmp 4], c15) := by kernel_rfl

-- chargenet/intake.Missing (78 slots)
def c16 : IC :=
 (.seq (.reg [⟨(some 6), none, .mv (.k (.sc (.slice none 0 0)))⟩, 
 ⟨(some 7), none, .mv (.k (.sc (.bool false)))⟩])
 (.seq (.reg [⟨(some 20), none, .mv (.t 0)⟩, 
 ⟨(some 21), none, .mv (.t 1)⟩, 
 ⟨(some 22), none, .mv (.t 2)⟩, 
 ⟨(some 23), none, .call 34 [(.t 20), (.t 21), (.t 22)]⟩, 
 ⟨(some 19), none, .mv (.t 23)⟩, 
 ⟨(some 24), none, .ext (.t 19) 0⟩, 
 ⟨(some 25), none, .ext (.t 19) 1⟩, 
 ⟨(some 8), none, .mv (.t 24)⟩, 
 ⟨(some 9), none, .mv (.t 25)⟩])
 (.seq (.reg [⟨(some 10), none, .mv (.k (.sc (.int .i64 (-1))))⟩, 
 ⟨(some 11), none, .mv (.k (.sc (.bool false)))⟩])
 (.seq (.seq (.reg [⟨(some 26), none, .mv (.t 0)⟩, 
 ⟨(some 27), none, .mv (.t 8)⟩, 
 ⟨(some 28), none, .mv (.t 9)⟩, 
 ⟨(some 29), none, .sl 10 (.t 26) (some (.t 27)) (some (.t 28)) none (pu (.slice 22 (.tmp 26) (some (.tmp 27)) (some (.tmp 28)) none) 22)⟩, 
 ⟨(some 30), none, .len (.t 29) (pu (.call ⟨.builtin .len, #[(.tmp 29)], #[22]⟩) 3)⟩, 
 ⟨(some 31), none, .mv (.k (.sc (.int .i64 0)))⟩])
 (.block 0 (.loop (.seq (.reg [⟨(some 32), none, .bin .lss false (.t 31) (.t 30) (pu (.binOp .lss 3 (.tmp 31) (.tmp 30) 3) 0)⟩])
  (.seq (.cond (.t 32) .skip
  (.exit 0))
  (.seq (.block 1 (.seq (.reg [⟨(some 33), none, .ixs 10 (.t 29) (.t 31)⟩, 
  ⟨(some 34), none, .ld (some 10) (.t 33)⟩, 
  ⟨(some 13), none, .al (.agg [(.sc (.string ⟨#[]⟩)), (.sc (.string ⟨#[]⟩)), (.sc (.int .i64 0)), (.sc (.int .i64 0)), (.sc (.int .i64 0)), (.sc (.int .i64 0)), (.sc (.string ⟨#[]⟩)), (.sc (.bool false)), (.sc (.int .i64 0)), (.sc (.slice none 0 0))]) 10⟩, 
  ⟨none, none, .st 10 (.t 13) (.t 34)⟩])
  (.seq (.reg [⟨(some 35), none, .mv (.t 10)⟩, 
  ⟨(some 36), none, .sh 3 (.t 13)⟩, 
  ⟨(some 37), none, .ld none (.t 36)⟩, 
  ⟨(some 38), none, .pur (pu (.call ⟨.builtin .max, #[(.tmp 35), (.tmp 37)], #[3, 3]⟩) 3)⟩, 
  ⟨(some 10), none, .mv (.t 38)⟩])
  (.reg [⟨(some 39), none, .mv (.t 11)⟩, 
  ⟨(some 40), none, .mv (.t 39)⟩, 
  ⟨(some 41), (some ((some 40), false)), .sh 4 (.t 13)⟩, 
  ⟨(some 42), (some ((some 40), false)), .ld none (.t 41)⟩, 
  ⟨(some 43), (some ((some 40), false)), .bin .eql false (.t 42) (.k (.sc (.int .i64 3))) (pu (.binOp .eql 3 (.tmp 42) (.const (.int .i64 3)) 3) 4)⟩, 
  ⟨(some 44), none, .pick (.t 40) (.k (.sc (.bool true))) (.t 43)⟩, 
  ⟨(some 11), none, .mv (.t 44)⟩]))))
  (.reg [⟨(some 45), none, .bin .add false (.t 31) (.k (.sc (.int .i64 1))) (pu (.binOp .add 3 (.tmp 31) (.const (.int .i64 1)) 3) 3)⟩, 
  ⟨(some 31), none, .mv (.t 45)⟩])))))))
 (.seq (.reg [⟨(some 46), none, .mv (.t 0)⟩, 
 ⟨(some 47), none, .mv (.t 8)⟩, 
 ⟨(some 48), none, .mv (.t 9)⟩, 
 ⟨(some 49), none, .sl 10 (.t 46) (some (.t 47)) (some (.t 48)) none (pu (.slice 22 (.tmp 46) (some (.tmp 47)) (some (.tmp 48)) none) 22)⟩, 
 ⟨(some 50), none, .call 35 [(.t 49)]⟩, 
 ⟨(some 14), none, .mv (.t 50)⟩])
 (.seq (.reg [⟨(some 15), none, .mv (.k (.sc (.slice none 0 0)))⟩])
 (.seq (.seq (.reg [⟨(some 16), none, .mv (.k (.sc (.int .i64 0)))⟩])
 (.block 2 (.loop (.seq (.seq (.reg [⟨(some 51), none, .mv (.t 16)⟩, 
  ⟨(some 52), none, .mv (.t 10)⟩, 
  ⟨(some 53), none, .bin .lss false (.t 51) (.t 52) (pu (.binOp .lss 3 (.tmp 51) (.tmp 52) 3) 4)⟩, 
  ⟨(some 54), none, .mv (.t 53)⟩, 
  ⟨(some 55), (some ((some 54), true)), .mv (.t 15)⟩, 
  ⟨(some 56), (some ((some 54), true)), .len (.t 55) (pu (.call ⟨.builtin .len, #[(.tmp 55)], #[34]⟩) 3)⟩, 
  ⟨(some 57), (some ((some 54), true)), .bin .lss false (.t 56) (.k (.sc (.int .i64 256))) (pu (.binOp .lss 3 (.tmp 56) (.const (.int .i64 256)) 3) 4)⟩, 
  ⟨(some 58), none, .pick (.t 54) (.t 57) (.k (.sc (.bool false)))⟩])
  (.cond (.t 58) .skip
  (.exit 2)))
  (.seq (.block 3 (.seq (.reg [⟨(some 62), none, .mv (.t 14)⟩, 
  ⟨(some 63), none, .mv (.t 1)⟩, 
  ⟨(some 64), none, .mv (.t 2)⟩, 
  ⟨(some 65), none, .mv (.t 16)⟩, 
  ⟨(some 66), none, .bld [(.sc (.string ⟨#[]⟩)), (.sc (.string ⟨#[]⟩)), (.sc (.int .i64 0))] [(0, 1, (.t 63)), (1, 1, (.t 64)), (2, 1, (.t 65))]⟩, 
  ⟨(some 67), none, .mlk true [.s, .s, (.i .i64)] (.agg [(.sc (.string ⟨#[]⟩)), (.sc (.string ⟨#[]⟩)), (.sc (.int .i64 0)), (.sc (.int .i64 0)), (.sc (.int .i64 0)), (.sc (.int .i64 0)), (.sc (.string ⟨#[]⟩)), (.sc (.bool false)), (.sc (.int .i64 0)), (.sc (.slice none 0 0))]) true (.t 62) (.t 66) (pu (.lookup 59 (.tmp 62) (.tmp 66) true) 58)⟩, 
  ⟨(some 61), none, .mv (.t 67)⟩, 
  ⟨(some 68), none, .ext (.t 61) 0⟩, 
  ⟨(some 69), none, .ext (.t 61) 1⟩, 
  ⟨(some 17), none, .al (.agg [(.sc (.string ⟨#[]⟩)), (.sc (.string ⟨#[]⟩)), (.sc (.int .i64 0)), (.sc (.int .i64 0)), (.sc (.int .i64 0)), (.sc (.int .i64 0)), (.sc (.string ⟨#[]⟩)), (.sc (.bool false)), (.sc (.int .i64 0)), (.sc (.slice none 0 0))]) 10⟩, 
  ⟨none, none, .st 10 (.t 17) (.t 68)⟩, 
  ⟨(some 18), none, .mv (.t 69)⟩])
  (.seq (.reg [⟨(some 70), none, .mv (.t 18)⟩, 
  ⟨(some 71), none, .un .not (.t 70) (pu (.unOp .not 4 (.tmp 70)) 4)⟩])
  (.cond (.t 71) (.reg [⟨(some 72), none, .mv (.t 15)⟩, 
   ⟨(some 73), none, .mv (.t 16)⟩, 
   ⟨(some 74), none, .bsl 1 1 false [(.sc (.int .i64 0))] [(0, 1, (.t 73))]⟩, 
   ⟨(some 75), none, .app 1 8 (.t 72) (.t 74)⟩, 
   ⟨(some 15), none, .mv (.t 75)⟩])
  .skip))))
  (.reg [⟨(some 59), none, .mv (.t 16)⟩, 
  ⟨(some 60), none, .bin .add false (.t 59) (.k (.sc (.int .i64 1))) (pu (.binOp .add 3 (.tmp 59) (.const (.int .i64 1)) 3) 3)⟩, 
  ⟨(some 16), none, .mv (.t 60)⟩]))))))
 (.seq (.reg [⟨(some 76), none, .mv (.t 15)⟩, 
 ⟨(some 77), none, .mv (.t 11)⟩, 
 ⟨(some 6), none, .mv (.t 76)⟩, 
 ⟨(some 7), none, .mv (.t 77)⟩])
 .ret))))))))
def k16 : List Nat := [0, 1, 2, 6, 7, 8, 9, 10, 11, 13, 14, 15, 16, 18, 29, 30, 31, 32, 58, 71]
theorem ic16 : factsI Try.prog 16 = some (78, [.tmp 6, .tmp 7], c16) := by kernel_rfl

-- chargenet/chargenetref36.Missing (58 slots)
def c17 : IC :=
 (.seq (.reg [⟨(some 6), none, .mv (.k (.sc (.slice none 0 0)))⟩, 
 ⟨(some 7), none, .mv (.k (.sc (.bool false)))⟩])
 (.seq (.reg [⟨(some 13), none, .mv (.t 0)⟩, 
 ⟨(some 14), none, .mv (.t 1)⟩, 
 ⟨(some 15), none, .mv (.t 2)⟩, 
 ⟨(some 16), none, .call 19 [(.t 13), (.t 14), (.t 15)]⟩, 
 ⟨(some 8), none, .mv (.t 16)⟩])
 (.seq (.reg [⟨(some 9), none, .mv (.k (.sc (.slice none 0 0)))⟩])
 (.seq (.reg [⟨(some 10), none, .mv (.k (.sc (.int .i64 0)))⟩, 
 ⟨(some 11), none, .mv (.k (.sc (.bool false)))⟩])
 (.seq (.seq (.reg [⟨(some 12), none, .mv (.k (.sc (.int .i64 0)))⟩])
 (.block 0 (.loop (.seq (.seq (.reg [⟨(some 17), none, .mv (.t 12)⟩, 
  ⟨(some 18), none, .mv (.t 8)⟩, 
  ⟨(some 19), none, .len (.t 18) (pu (.call ⟨.builtin .len, #[(.tmp 18)], #[22]⟩) 3)⟩, 
  ⟨(some 20), none, .bin .lss false (.t 17) (.t 19) (pu (.binOp .lss 3 (.tmp 17) (.tmp 19) 3) 4)⟩])
  (.cond (.t 20) .skip
  (.exit 0)))
  (.seq (.block 1 (.seq (.block 2 (.loop (.seq (.seq (.reg [⟨(some 23), none, .mv (.t 10)⟩, 
   ⟨(some 24), none, .mv (.t 8)⟩, 
   ⟨(some 25), none, .mv (.t 12)⟩, 
   ⟨(some 26), none, .ixs 10 (.t 24) (.t 25)⟩, 
   ⟨(some 27), none, .sh 3 (.t 26)⟩, 
   ⟨(some 28), none, .ld none (.t 27)⟩, 
   ⟨(some 29), none, .bin .lss false (.t 23) (.t 28) (pu (.binOp .lss 3 (.tmp 23) (.tmp 28) 3) 4)⟩, 
   ⟨(some 30), none, .mv (.t 29)⟩, 
   ⟨(some 31), (some ((some 30), true)), .mv (.t 9)⟩, 
   ⟨(some 32), (some ((some 30), true)), .len (.t 31) (pu (.call ⟨.builtin .len, #[(.tmp 31)], #[34]⟩) 3)⟩, 
   ⟨(some 33), (some ((some 30), true)), .bin .lss false (.t 32) (.k (.sc (.int .i64 256))) (pu (.binOp .lss 3 (.tmp 32) (.const (.int .i64 256)) 3) 4)⟩, 
   ⟨(some 34), none, .pick (.t 30) (.t 33) (.k (.sc (.bool false)))⟩])
   (.cond (.t 34) .skip
   (.exit 2)))
   (.block 3 (.seq (.reg [⟨(some 35), none, .mv (.t 9)⟩, 
   ⟨(some 36), none, .mv (.t 10)⟩, 
   ⟨(some 37), none, .bsl 1 1 false [(.sc (.int .i64 0))] [(0, 1, (.t 36))]⟩, 
   ⟨(some 38), none, .app 1 8 (.t 35) (.t 37)⟩, 
   ⟨(some 9), none, .mv (.t 38)⟩])
   (.reg [⟨(some 39), none, .mv (.t 10)⟩, 
   ⟨(some 40), none, .bin .add false (.t 39) (.k (.sc (.int .i64 1))) (pu (.binOp .add 3 (.tmp 39) (.const (.int .i64 1)) 3) 3)⟩, 
   ⟨(some 10), none, .mv (.t 40)⟩]))))))
  (.seq (.reg [⟨(some 41), none, .mv (.t 8)⟩, 
  ⟨(some 42), none, .mv (.t 12)⟩, 
  ⟨(some 43), none, .ixs 10 (.t 41) (.t 42)⟩, 
  ⟨(some 44), none, .sh 3 (.t 43)⟩, 
  ⟨(some 45), none, .ld none (.t 44)⟩, 
  ⟨(some 46), none, .bin .add false (.t 45) (.k (.sc (.int .i64 1))) (pu (.binOp .add 3 (.tmp 45) (.const (.int .i64 1)) 3) 3)⟩, 
  ⟨(some 10), none, .mv (.t 46)⟩])
  (.reg [⟨(some 47), none, .mv (.t 11)⟩, 
  ⟨(some 48), none, .mv (.t 47)⟩, 
  ⟨(some 49), (some ((some 48), false)), .mv (.t 8)⟩, 
  ⟨(some 50), (some ((some 48), false)), .mv (.t 12)⟩, 
  ⟨(some 51), (some ((some 48), false)), .ixs 10 (.t 49) (.t 50)⟩, 
  ⟨(some 52), (some ((some 48), false)), .sh 4 (.t 51)⟩, 
  ⟨(some 53), (some ((some 48), false)), .ld none (.t 52)⟩, 
  ⟨(some 54), (some ((some 48), false)), .bin .eql false (.t 53) (.k (.sc (.int .i64 3))) (pu (.binOp .eql 3 (.tmp 53) (.const (.int .i64 3)) 3) 4)⟩, 
  ⟨(some 55), none, .pick (.t 48) (.k (.sc (.bool true))) (.t 54)⟩, 
  ⟨(some 11), none, .mv (.t 55)⟩]))))
  (.reg [⟨(some 21), none, .mv (.t 12)⟩, 
  ⟨(some 22), none, .bin .add false (.t 21) (.k (.sc (.int .i64 1))) (pu (.binOp .add 3 (.tmp 21) (.const (.int .i64 1)) 3) 3)⟩, 
  ⟨(some 12), none, .mv (.t 22)⟩]))))))
 (.seq (.reg [⟨(some 56), none, .mv (.t 9)⟩, 
 ⟨(some 57), none, .mv (.t 11)⟩, 
 ⟨(some 6), none, .mv (.t 56)⟩, 
 ⟨(some 7), none, .mv (.t 57)⟩])
 .ret))))))
def k17 : List Nat := [0, 1, 2, 6, 7, 8, 9, 10, 11, 12, 20, 34]
theorem ic17 : factsI Try.prog 17 = some (58, [.tmp 6, .tmp 7], c17) := by kernel_rfl

-- chargenet/intake.Of (25 slots)
def c18 : IC :=
 (.seq (.reg [⟨(some 6), none, .mv (.k (.sc (.slice none 0 0)))⟩])
 (.seq (.reg [⟨(some 10), none, .mv (.t 0)⟩, 
 ⟨(some 11), none, .mv (.t 1)⟩, 
 ⟨(some 12), none, .mv (.t 2)⟩, 
 ⟨(some 13), none, .call 34 [(.t 10), (.t 11), (.t 12)]⟩, 
 ⟨(some 9), none, .mv (.t 13)⟩, 
 ⟨(some 14), none, .ext (.t 9) 0⟩, 
 ⟨(some 15), none, .ext (.t 9) 1⟩, 
 ⟨(some 7), none, .mv (.t 14)⟩, 
 ⟨(some 8), none, .mv (.t 15)⟩])
 (.seq (.drw [0, 0, 3, 7, 0, 0, 0, 112, 255, 511] [⟨(some 16), none, .mv (.t 8)⟩, 
 ⟨(some 17), none, .mv (.t 7)⟩, 
 ⟨(some 18), none, .bin .sub false (.t 16) (.t 17) (pu (.binOp .sub 3 (.tmp 16) (.tmp 17) 3) 3)⟩, 
 ⟨(some 19), none, .mks 10 120 (.agg [(.sc (.string ⟨#[]⟩)), (.sc (.string ⟨#[]⟩)), (.sc (.int .i64 0)), (.sc (.int .i64 0)), (.sc (.int .i64 0)), (.sc (.int .i64 0)), (.sc (.string ⟨#[]⟩)), (.sc (.bool false)), (.sc (.int .i64 0)), (.sc (.slice none 0 0))]) (.k (.sc (.int .i64 0))) (.t 18)⟩, 
 ⟨(some 20), none, .mv (.t 0)⟩, 
 ⟨(some 21), none, .mv (.t 7)⟩, 
 ⟨(some 22), none, .mv (.t 8)⟩, 
 ⟨(some 23), none, .sl 10 (.t 20) (some (.t 21)) (some (.t 22)) none (pu (.slice 22 (.tmp 20) (some (.tmp 21)) (some (.tmp 22)) none) 22)⟩, 
 ⟨(some 24), none, .call 37 [(.t 19), (.t 23)]⟩, 
 ⟨(some 6), none, .mv (.t 24)⟩])
 .ret)))
def k18 : List Nat := [0, 1, 2, 6, 7, 8]
theorem ic18 : factsI Try.prog 18 = some (25, [.tmp 6], c18) := by kernel_rfl

-- chargenet/chargenetref36.Of (39 slots)
def c19 : IC :=
 (.seq (.reg [⟨(some 6), none, .mv (.k (.sc (.slice none 0 0)))⟩])
 (.seq (.reg [⟨(some 7), none, .mv (.k (.sc (.slice none 0 0)))⟩])
 (.seq (.seq (.reg [⟨(some 8), none, .mv (.k (.sc (.int .i64 0)))⟩])
 (.block 0 (.loop (.seq (.seq (.reg [⟨(some 9), none, .mv (.t 8)⟩, 
  ⟨(some 10), none, .mv (.t 0)⟩, 
  ⟨(some 11), none, .len (.t 10) (pu (.call ⟨.builtin .len, #[(.tmp 10)], #[22]⟩) 3)⟩, 
  ⟨(some 12), none, .bin .lss false (.t 9) (.t 11) (pu (.binOp .lss 3 (.tmp 9) (.tmp 11) 3) 4)⟩])
  (.cond (.t 12) .skip
  (.exit 0)))
  (.seq (.block 1 (.seq (.reg [⟨(some 15), none, .mv (.t 0)⟩, 
  ⟨(some 16), none, .mv (.t 8)⟩, 
  ⟨(some 17), none, .ixs 10 (.t 15) (.t 16)⟩, 
  ⟨(some 18), none, .sh 0 (.t 17)⟩, 
  ⟨(some 19), none, .ld none (.t 18)⟩, 
  ⟨(some 20), none, .mv (.t 1)⟩, 
  ⟨(some 21), none, .bin .eql false (.t 19) (.t 20) (pu (.binOp .eql 9 (.tmp 19) (.tmp 20) 9) 4)⟩, 
  ⟨(some 22), none, .mv (.t 21)⟩, 
  ⟨(some 23), (some ((some 22), true)), .mv (.t 0)⟩, 
  ⟨(some 24), (some ((some 22), true)), .mv (.t 8)⟩, 
  ⟨(some 25), (some ((some 22), true)), .ixs 10 (.t 23) (.t 24)⟩, 
  ⟨(some 26), (some ((some 22), true)), .sh 1 (.t 25)⟩, 
  ⟨(some 27), (some ((some 22), true)), .ld none (.t 26)⟩, 
  ⟨(some 28), (some ((some 22), true)), .mv (.t 2)⟩, 
  ⟨(some 29), (some ((some 22), true)), .bin .eql false (.t 27) (.t 28) (pu (.binOp .eql 9 (.tmp 27) (.tmp 28) 9) 4)⟩, 
  ⟨(some 30), none, .pick (.t 22) (.t 29) (.k (.sc (.bool false)))⟩])
  (.cond (.t 30) (.reg [⟨(some 31), none, .mv (.t 7)⟩, 
   ⟨(some 32), none, .mv (.t 0)⟩, 
   ⟨(some 33), none, .mv (.t 8)⟩, 
   ⟨(some 34), none, .ixs 10 (.t 32) (.t 33)⟩, 
   ⟨(some 35), none, .ld (some 10) (.t 34)⟩, 
   ⟨(some 36), none, .bsl 10 1 true [(.sc (.string ⟨#[]⟩)), (.sc (.string ⟨#[]⟩)), (.sc (.int .i64 0)), (.sc (.int .i64 0)), (.sc (.int .i64 0)), (.sc (.int .i64 0)), (.sc (.string ⟨#[]⟩)), (.sc (.bool false)), (.sc (.int .i64 0)), (.sc (.slice none 0 0))] [(0, 10, (.t 35))]⟩, 
   ⟨(some 37), none, .app 10 120 (.t 31) (.t 36)⟩, 
   ⟨(some 7), none, .mv (.t 37)⟩])
  .skip)))
  (.reg [⟨(some 13), none, .mv (.t 8)⟩, 
  ⟨(some 14), none, .bin .add false (.t 13) (.k (.sc (.int .i64 1))) (pu (.binOp .add 3 (.tmp 13) (.const (.int .i64 1)) 3) 3)⟩, 
  ⟨(some 8), none, .mv (.t 14)⟩]))))))
 (.seq (.reg [⟨(some 38), none, .mv (.t 7)⟩, 
 ⟨(some 6), none, .mv (.t 38)⟩])
 .ret))))
def k19 : List Nat := [0, 1, 2, 6, 7, 8, 12, 30]
theorem ic19 : factsI Try.prog 19 = some (39, [.tmp 6], c19) := by kernel_rfl

-- chargenet/chargenetref36.SameInts (26 slots)
def c20 : IC :=
 (.seq (.reg [⟨(some 4), none, .mv (.k (.sc (.bool false)))⟩])
 (.seq (.seq (.reg [⟨(some 6), none, .mv (.t 0)⟩, 
 ⟨(some 7), none, .len (.t 6) (pu (.call ⟨.builtin .len, #[(.tmp 6)], #[34]⟩) 3)⟩, 
 ⟨(some 8), none, .mv (.t 1)⟩, 
 ⟨(some 9), none, .len (.t 8) (pu (.call ⟨.builtin .len, #[(.tmp 8)], #[34]⟩) 3)⟩, 
 ⟨(some 10), none, .bin .neq false (.t 7) (.t 9) (pu (.binOp .neq 3 (.tmp 7) (.tmp 9) 3) 4)⟩])
 (.cond (.t 10) (.seq (.reg [⟨(some 4), none, .mv (.k (.sc (.bool false)))⟩])
  .ret)
 .skip))
 (.seq (.seq (.reg [⟨(some 5), none, .mv (.k (.sc (.int .i64 0)))⟩])
 (.block 0 (.loop (.seq (.seq (.reg [⟨(some 11), none, .mv (.t 5)⟩, 
  ⟨(some 12), none, .mv (.t 0)⟩, 
  ⟨(some 13), none, .len (.t 12) (pu (.call ⟨.builtin .len, #[(.tmp 12)], #[34]⟩) 3)⟩, 
  ⟨(some 14), none, .bin .lss false (.t 11) (.t 13) (pu (.binOp .lss 3 (.tmp 11) (.tmp 13) 3) 4)⟩])
  (.cond (.t 14) .skip
  (.exit 0)))
  (.seq (.block 1 (.seq (.drw [0, 0, 3, 7, 0, 0, 48, 112, 255] [⟨(some 17), none, .mv (.t 0)⟩, 
  ⟨(some 18), none, .mv (.t 5)⟩, 
  ⟨(some 19), none, .ixs 1 (.t 17) (.t 18)⟩, 
  ⟨(some 20), none, .ld none (.t 19)⟩, 
  ⟨(some 21), none, .mv (.t 1)⟩, 
  ⟨(some 22), none, .mv (.t 5)⟩, 
  ⟨(some 23), none, .ixs 1 (.t 21) (.t 22)⟩, 
  ⟨(some 24), none, .ld none (.t 23)⟩, 
  ⟨(some 25), none, .bin .neq false (.t 20) (.t 24) (pu (.binOp .neq 3 (.tmp 20) (.tmp 24) 3) 4)⟩])
  (.cond (.t 25) (.seq (.reg [⟨(some 4), none, .mv (.k (.sc (.bool false)))⟩])
   .ret)
  .skip)))
  (.reg [⟨(some 15), none, .mv (.t 5)⟩, 
  ⟨(some 16), none, .bin .add false (.t 15) (.k (.sc (.int .i64 1))) (pu (.binOp .add 3 (.tmp 15) (.const (.int .i64 1)) 3) 3)⟩, 
  ⟨(some 5), none, .mv (.t 16)⟩]))))))
 (.seq (.reg [⟨(some 4), none, .mv (.k (.sc (.bool true)))⟩])
 .ret))))
def k20 : List Nat := [0, 1, 4, 5, 10, 14, 25]
theorem ic20 : factsI Try.prog 20 = some (26, [.tmp 4], c20) := by kernel_rfl

-- chargenet/chargenetref36.SameKeys (61 slots)
def c21 : IC :=
 (.seq (.reg [⟨(some 4), none, .mv (.k (.sc (.bool false)))⟩])
 (.seq (.seq (.reg [⟨(some 6), none, .mv (.t 0)⟩, 
 ⟨(some 7), none, .len (.t 6) (pu (.call ⟨.builtin .len, #[(.tmp 6)], #[40]⟩) 3)⟩, 
 ⟨(some 8), none, .mv (.t 1)⟩, 
 ⟨(some 9), none, .len (.t 8) (pu (.call ⟨.builtin .len, #[(.tmp 8)], #[40]⟩) 3)⟩, 
 ⟨(some 10), none, .bin .neq false (.t 7) (.t 9) (pu (.binOp .neq 3 (.tmp 7) (.tmp 9) 3) 4)⟩])
 (.cond (.t 10) (.seq (.reg [⟨(some 4), none, .mv (.k (.sc (.bool false)))⟩])
  .ret)
 .skip))
 (.seq (.seq (.reg [⟨(some 5), none, .mv (.k (.sc (.int .i64 0)))⟩])
 (.block 0 (.loop (.seq (.seq (.reg [⟨(some 11), none, .mv (.t 5)⟩, 
  ⟨(some 12), none, .mv (.t 0)⟩, 
  ⟨(some 13), none, .len (.t 12) (pu (.call ⟨.builtin .len, #[(.tmp 12)], #[40]⟩) 3)⟩, 
  ⟨(some 14), none, .bin .lss false (.t 11) (.t 13) (pu (.binOp .lss 3 (.tmp 11) (.tmp 13) 3) 4)⟩])
  (.cond (.t 14) .skip
  (.exit 0)))
  (.seq (.block 1 (.seq (.drw [0, 0, 3, 7, 15, 31, 63, 127, 127, 511, 1023, 2047, 4095, 8191, 16383, 32767, 32767, 131071, 262143, 524287, 1048575, 32767, 32767, 6324223, 14712831, 31490047, 65044479, 134217727, 268435455, 536870911, 1073741823, 1073741823, 4294967295, 8589934591, 17179869183, 34359738367, 1073741823, 1073741823, 207232172031, 482110078975, 1031865892863, 2131377520639, 4398046511103, 8796093022207] [⟨(some 17), none, .mv (.t 0)⟩, 
  ⟨(some 18), none, .mv (.t 5)⟩, 
  ⟨(some 19), none, .ixs 1 (.t 17) (.t 18)⟩, 
  ⟨(some 20), none, .ld none (.t 19)⟩, 
  ⟨(some 21), none, .len (.t 20) (pu (.call ⟨.builtin .len, #[(.tmp 20)], #[46]⟩) 3)⟩, 
  ⟨(some 22), none, .bin .neq false (.t 21) (.k (.sc (.int .i64 2))) (pu (.binOp .neq 3 (.tmp 21) (.const (.int .i64 2)) 3) 4)⟩, 
  ⟨(some 23), none, .mv (.t 22)⟩, 
  ⟨(some 24), (some ((some 23), false)), .mv (.t 1)⟩, 
  ⟨(some 25), (some ((some 23), false)), .mv (.t 5)⟩, 
  ⟨(some 26), (some ((some 23), false)), .ixs 1 (.t 24) (.t 25)⟩, 
  ⟨(some 27), (some ((some 23), false)), .ld none (.t 26)⟩, 
  ⟨(some 28), (some ((some 23), false)), .len (.t 27) (pu (.call ⟨.builtin .len, #[(.tmp 27)], #[46]⟩) 3)⟩, 
  ⟨(some 29), (some ((some 23), false)), .bin .neq false (.t 28) (.k (.sc (.int .i64 2))) (pu (.binOp .neq 3 (.tmp 28) (.const (.int .i64 2)) 3) 4)⟩, 
  ⟨(some 30), none, .pick (.t 23) (.k (.sc (.bool true))) (.t 29)⟩, 
  ⟨(some 31), none, .mv (.t 30)⟩, 
  ⟨(some 32), (some ((some 31), false)), .mv (.t 0)⟩, 
  ⟨(some 33), (some ((some 31), false)), .mv (.t 5)⟩, 
  ⟨(some 34), (some ((some 31), false)), .ixs 1 (.t 32) (.t 33)⟩, 
  ⟨(some 35), (some ((some 31), false)), .ld none (.t 34)⟩, 
  ⟨(some 36), (some ((some 31), false)), .ixs 1 (.t 35) (.k (.sc (.int .i64 0)))⟩, 
  ⟨(some 37), (some ((some 31), false)), .ld none (.t 36)⟩, 
  ⟨(some 38), (some ((some 31), false)), .mv (.t 1)⟩, 
  ⟨(some 39), (some ((some 31), false)), .mv (.t 5)⟩, 
  ⟨(some 40), (some ((some 31), false)), .ixs 1 (.t 38) (.t 39)⟩, 
  ⟨(some 41), (some ((some 31), false)), .ld none (.t 40)⟩, 
  ⟨(some 42), (some ((some 31), false)), .ixs 1 (.t 41) (.k (.sc (.int .i64 0)))⟩, 
  ⟨(some 43), (some ((some 31), false)), .ld none (.t 42)⟩, 
  ⟨(some 44), (some ((some 31), false)), .bin .neq false (.t 37) (.t 43) (pu (.binOp .neq 9 (.tmp 37) (.tmp 43) 9) 4)⟩, 
  ⟨(some 45), none, .pick (.t 31) (.k (.sc (.bool true))) (.t 44)⟩, 
  ⟨(some 46), none, .mv (.t 45)⟩, 
  ⟨(some 47), (some ((some 46), false)), .mv (.t 0)⟩, 
  ⟨(some 48), (some ((some 46), false)), .mv (.t 5)⟩, 
  ⟨(some 49), (some ((some 46), false)), .ixs 1 (.t 47) (.t 48)⟩, 
  ⟨(some 50), (some ((some 46), false)), .ld none (.t 49)⟩, 
  ⟨(some 51), (some ((some 46), false)), .ixs 1 (.t 50) (.k (.sc (.int .i64 1)))⟩, 
  ⟨(some 52), (some ((some 46), false)), .ld none (.t 51)⟩, 
  ⟨(some 53), (some ((some 46), false)), .mv (.t 1)⟩, 
  ⟨(some 54), (some ((some 46), false)), .mv (.t 5)⟩, 
  ⟨(some 55), (some ((some 46), false)), .ixs 1 (.t 53) (.t 54)⟩, 
  ⟨(some 56), (some ((some 46), false)), .ld none (.t 55)⟩, 
  ⟨(some 57), (some ((some 46), false)), .ixs 1 (.t 56) (.k (.sc (.int .i64 1)))⟩, 
  ⟨(some 58), (some ((some 46), false)), .ld none (.t 57)⟩, 
  ⟨(some 59), (some ((some 46), false)), .bin .neq false (.t 52) (.t 58) (pu (.binOp .neq 9 (.tmp 52) (.tmp 58) 9) 4)⟩, 
  ⟨(some 60), none, .pick (.t 46) (.k (.sc (.bool true))) (.t 59)⟩])
  (.cond (.t 60) (.seq (.reg [⟨(some 4), none, .mv (.k (.sc (.bool false)))⟩])
   .ret)
  .skip)))
  (.reg [⟨(some 15), none, .mv (.t 5)⟩, 
  ⟨(some 16), none, .bin .add false (.t 15) (.k (.sc (.int .i64 1))) (pu (.binOp .add 3 (.tmp 15) (.const (.int .i64 1)) 3) 3)⟩, 
  ⟨(some 5), none, .mv (.t 16)⟩]))))))
 (.seq (.reg [⟨(some 4), none, .mv (.k (.sc (.bool true)))⟩])
 .ret))))
def k21 : List Nat := [0, 1, 4, 5, 10, 14, 60]
theorem ic21 : factsI Try.prog 21 = some (61, [.tmp 4], c21) := by kernel_rfl

-- chargenet/intake.Keys (37 slots)
def c22 : IC :=
 (.seq (.reg [⟨(some 2), none, .mv (.k (.sc (.slice none 0 0)))⟩])
 (.seq (.reg [⟨(some 3), none, .mv (.k (.sc (.slice none 0 0)))⟩])
 (.seq (.seq (.reg [⟨(some 6), none, .mv (.t 0)⟩, 
 ⟨(some 7), none, .len (.t 6) (pu (.call ⟨.builtin .len, #[(.tmp 6)], #[22]⟩) 3)⟩, 
 ⟨(some 8), none, .mv (.k (.sc (.int .i64 0)))⟩])
 (.block 0 (.loop (.seq (.reg [⟨(some 9), none, .bin .lss false (.t 8) (.t 7) (pu (.binOp .lss 3 (.tmp 8) (.tmp 7) 3) 0)⟩])
  (.seq (.cond (.t 9) .skip
  (.exit 0))
  (.seq (.block 1 (.seq (.reg [⟨(some 10), none, .mv (.t 8)⟩, 
  ⟨(some 11), none, .ixs 10 (.t 6) (.t 8)⟩, 
  ⟨(some 12), none, .ld (some 10) (.t 11)⟩, 
  ⟨(some 5), none, .al (.agg [(.sc (.string ⟨#[]⟩)), (.sc (.string ⟨#[]⟩)), (.sc (.int .i64 0)), (.sc (.int .i64 0)), (.sc (.int .i64 0)), (.sc (.int .i64 0)), (.sc (.string ⟨#[]⟩)), (.sc (.bool false)), (.sc (.int .i64 0)), (.sc (.slice none 0 0))]) 10⟩, 
  ⟨(some 4), none, .mv (.t 10)⟩, 
  ⟨none, none, .st 10 (.t 5) (.t 12)⟩])
  (.seq (.drw [0, 1, 3, 7, 7, 23, 63, 127, 255, 7, 1023, 2047, 4095, 8191] [⟨(some 13), none, .mv (.t 4)⟩, 
  ⟨(some 14), none, .bin .eql false (.t 13) (.k (.sc (.int .i64 0))) (pu (.binOp .eql 3 (.tmp 13) (.const (.int .i64 0)) 3) 4)⟩, 
  ⟨(some 15), none, .mv (.t 14)⟩, 
  ⟨(some 16), (some ((some 15), false)), .mv (.t 0)⟩, 
  ⟨(some 17), (some ((some 15), false)), .mv (.t 4)⟩, 
  ⟨(some 18), (some ((some 15), false)), .bin .sub false (.t 17) (.k (.sc (.int .i64 1))) (pu (.binOp .sub 3 (.tmp 17) (.const (.int .i64 1)) 3) 3)⟩, 
  ⟨(some 19), (some ((some 15), false)), .ixs 10 (.t 16) (.t 18)⟩, 
  ⟨(some 20), (some ((some 15), false)), .ld (some 10) (.t 19)⟩, 
  ⟨(some 21), (some ((some 15), false)), .call 28 [(.t 20)]⟩, 
  ⟨(some 22), (some ((some 15), false)), .ld (some 10) (.t 5)⟩, 
  ⟨(some 23), (some ((some 15), false)), .call 28 [(.t 22)]⟩, 
  ⟨(some 24), (some ((some 15), false)), .call 29 [(.t 21), (.t 23)]⟩, 
  ⟨(some 25), (some ((some 15), false)), .bin .neq false (.t 24) (.k (.sc (.int .i64 0))) (pu (.binOp .neq 3 (.tmp 24) (.const (.int .i64 0)) 3) 4)⟩, 
  ⟨(some 26), none, .pick (.t 15) (.k (.sc (.bool true))) (.t 25)⟩])
  (.cond (.t 26) (.reg [⟨(some 27), none, .mv (.t 3)⟩, 
   ⟨(some 28), none, .sh 0 (.t 5)⟩, 
   ⟨(some 29), none, .ld none (.t 28)⟩, 
   ⟨(some 30), none, .sh 1 (.t 5)⟩, 
   ⟨(some 31), none, .ld none (.t 30)⟩, 
   ⟨(some 32), none, .bsl 1 2 false [(.sc (.string ⟨#[]⟩)), (.sc (.string ⟨#[]⟩))] [(0, 1, (.t 29)), (1, 1, (.t 31))]⟩, 
   ⟨(some 33), none, .bsl 1 1 false [(.sc (.slice none 0 0))] [(0, 1, (.t 32))]⟩, 
   ⟨(some 34), none, .app 1 24 (.t 27) (.t 33)⟩, 
   ⟨(some 3), none, .mv (.t 34)⟩])
  .skip))))
  (.reg [⟨(some 35), none, .bin .add false (.t 8) (.k (.sc (.int .i64 1))) (pu (.binOp .add 3 (.tmp 8) (.const (.int .i64 1)) 3) 3)⟩, 
  ⟨(some 8), none, .mv (.t 35)⟩])))))))
 (.seq (.reg [⟨(some 36), none, .mv (.t 3)⟩, 
 ⟨(some 2), none, .mv (.t 36)⟩])
 .ret))))
def k22 : List Nat := [0, 2, 3, 4, 5, 6, 7, 8, 9, 26]
theorem ic22 : factsI Try.prog 22 = some (37, [.tmp 2], c22) := by kernel_rfl

-- chargenet/chargenetref36.Keys (41 slots)
def c23 : IC :=
 (.seq (.reg [⟨(some 2), none, .mv (.k (.sc (.slice none 0 0)))⟩])
 (.seq (.reg [⟨(some 3), none, .mv (.k (.sc (.slice none 0 0)))⟩])
 (.seq (.seq (.reg [⟨(some 4), none, .mv (.k (.sc (.int .i64 0)))⟩])
 (.block 0 (.loop (.seq (.seq (.reg [⟨(some 5), none, .mv (.t 4)⟩, 
  ⟨(some 6), none, .mv (.t 0)⟩, 
  ⟨(some 7), none, .len (.t 6) (pu (.call ⟨.builtin .len, #[(.tmp 6)], #[22]⟩) 3)⟩, 
  ⟨(some 8), none, .bin .lss false (.t 5) (.t 7) (pu (.binOp .lss 3 (.tmp 5) (.tmp 7) 3) 4)⟩])
  (.cond (.t 8) .skip
  (.exit 0)))
  (.seq (.block 1 (.seq (.drw [0, 1, 3, 7, 7, 23, 63, 127, 7, 7, 775, 1799, 4095, 8191, 16383] [⟨(some 11), none, .mv (.t 4)⟩, 
  ⟨(some 12), none, .bin .eql false (.t 11) (.k (.sc (.int .i64 0))) (pu (.binOp .eql 3 (.tmp 11) (.const (.int .i64 0)) 3) 4)⟩, 
  ⟨(some 13), none, .mv (.t 12)⟩, 
  ⟨(some 14), (some ((some 13), false)), .mv (.t 0)⟩, 
  ⟨(some 15), (some ((some 13), false)), .mv (.t 4)⟩, 
  ⟨(some 16), (some ((some 13), false)), .bin .sub false (.t 15) (.k (.sc (.int .i64 1))) (pu (.binOp .sub 3 (.tmp 15) (.const (.int .i64 1)) 3) 3)⟩, 
  ⟨(some 17), (some ((some 13), false)), .ixs 10 (.t 14) (.t 16)⟩, 
  ⟨(some 18), (some ((some 13), false)), .ld (some 10) (.t 17)⟩, 
  ⟨(some 19), (some ((some 13), false)), .mv (.t 0)⟩, 
  ⟨(some 20), (some ((some 13), false)), .mv (.t 4)⟩, 
  ⟨(some 21), (some ((some 13), false)), .ixs 10 (.t 19) (.t 20)⟩, 
  ⟨(some 22), (some ((some 13), false)), .ld (some 10) (.t 21)⟩, 
  ⟨(some 23), (some ((some 13), false)), .call 38 [(.t 18), (.t 22)]⟩, 
  ⟨(some 24), (some ((some 13), false)), .un .not (.t 23) (pu (.unOp .not 4 (.tmp 23)) 4)⟩, 
  ⟨(some 25), none, .pick (.t 13) (.k (.sc (.bool true))) (.t 24)⟩])
  (.cond (.t 25) (.drw [0, 0, 0, 6, 14, 30, 0, 0, 192, 448, 960, 2046, 4094, 8191, 16383] [⟨(some 26), none, .mv (.t 3)⟩, 
   ⟨(some 27), none, .mv (.t 0)⟩, 
   ⟨(some 28), none, .mv (.t 4)⟩, 
   ⟨(some 29), none, .ixs 10 (.t 27) (.t 28)⟩, 
   ⟨(some 30), none, .sh 0 (.t 29)⟩, 
   ⟨(some 31), none, .ld none (.t 30)⟩, 
   ⟨(some 32), none, .mv (.t 0)⟩, 
   ⟨(some 33), none, .mv (.t 4)⟩, 
   ⟨(some 34), none, .ixs 10 (.t 32) (.t 33)⟩, 
   ⟨(some 35), none, .sh 1 (.t 34)⟩, 
   ⟨(some 36), none, .ld none (.t 35)⟩, 
   ⟨(some 37), none, .bsl 1 2 false [(.sc (.string ⟨#[]⟩)), (.sc (.string ⟨#[]⟩))] [(0, 1, (.t 31)), (1, 1, (.t 36))]⟩, 
   ⟨(some 38), none, .bsl 1 1 false [(.sc (.slice none 0 0))] [(0, 1, (.t 37))]⟩, 
   ⟨(some 39), none, .app 1 24 (.t 26) (.t 38)⟩, 
   ⟨(some 3), none, .mv (.t 39)⟩])
  .skip)))
  (.reg [⟨(some 9), none, .mv (.t 4)⟩, 
  ⟨(some 10), none, .bin .add false (.t 9) (.k (.sc (.int .i64 1))) (pu (.binOp .add 3 (.tmp 9) (.const (.int .i64 1)) 3) 3)⟩, 
  ⟨(some 4), none, .mv (.t 10)⟩]))))))
 (.seq (.reg [⟨(some 40), none, .mv (.t 3)⟩, 
 ⟨(some 2), none, .mv (.t 40)⟩])
 .ret))))
def k23 : List Nat := [0, 2, 3, 4, 8, 25]
theorem ic23 : factsI Try.prog 23 = some (41, [.tmp 2], c23) := by kernel_rfl

-- chargenet/chargenetlaw36.collect (53 slots)
def c24 : IC :=
 (.seq (.reg [⟨(some 6), none, .mv (.k (.sc (.slice none 0 0)))⟩, 
 ⟨(some 7), none, .mv (.k (.sc (.bool false)))⟩])
 (.seq (.reg [⟨(some 8), none, .mv (.k (.sc (.slice none 0 0)))⟩])
 (.seq (.reg [⟨(some 9), none, .mv (.k (.sc (.bool true)))⟩])
 (.seq (.seq (.reg [⟨(some 10), none, .mv (.k (.sc (.int .i64 0)))⟩])
 (.block 0 (.loop (.seq (.seq (.reg [⟨(some 14), none, .mv (.t 10)⟩, 
  ⟨(some 15), none, .mv (.t 0)⟩, 
  ⟨(some 16), none, .len (.t 15) (pu (.call ⟨.builtin .len, #[(.tmp 15)], #[22]⟩) 3)⟩, 
  ⟨(some 17), none, .bin .lss false (.t 14) (.t 16) (pu (.binOp .lss 3 (.tmp 14) (.tmp 16) 3) 4)⟩])
  (.cond (.t 17) .skip
  (.exit 0)))
  (.seq (.block 1 (.seq (.reg [⟨(some 20), none, .mv (.t 1)⟩, 
  ⟨(some 21), none, .mv (.t 10)⟩, 
  ⟨(some 22), none, .bin .add false (.t 20) (.t 21) (pu (.binOp .add 3 (.tmp 20) (.tmp 21) 3) 3)⟩, 
  ⟨(some 23), none, .mv (.t 0)⟩, 
  ⟨(some 24), none, .len (.t 23) (pu (.call ⟨.builtin .len, #[(.tmp 23)], #[22]⟩) 3)⟩, 
  ⟨(some 25), none, .bin .rem false (.t 22) (.t 24) (pu (.binOp .rem 3 (.tmp 22) (.tmp 24) 3) 3)⟩, 
  ⟨(some 11), none, .mv (.t 25)⟩])
  (.seq (.seq (.reg [⟨(some 26), none, .mv (.t 2)⟩])
  (.cond (.t 26) (.reg [⟨(some 27), none, .mv (.t 0)⟩, 
   ⟨(some 28), none, .len (.t 27) (pu (.call ⟨.builtin .len, #[(.tmp 27)], #[22]⟩) 3)⟩, 
   ⟨(some 29), none, .bin .sub false (.t 28) (.k (.sc (.int .i64 1))) (pu (.binOp .sub 3 (.tmp 28) (.const (.int .i64 1)) 3) 3)⟩, 
   ⟨(some 30), none, .mv (.t 11)⟩, 
   ⟨(some 31), none, .bin .sub false (.t 29) (.t 30) (pu (.binOp .sub 3 (.tmp 29) (.tmp 30) 3) 3)⟩, 
   ⟨(some 11), none, .mv (.t 31)⟩])
  .skip))
  (.seq (.reg [⟨(some 33), none, .mv (.t 8)⟩, 
  ⟨(some 34), none, .mv (.t 0)⟩, 
  ⟨(some 35), none, .mv (.t 11)⟩, 
  ⟨(some 36), none, .ixs 10 (.t 34) (.t 35)⟩, 
  ⟨(some 37), none, .ld (some 10) (.t 36)⟩, 
  ⟨(some 38), none, .call 13 [(.t 33), (.t 37)]⟩, 
  ⟨(some 32), none, .mv (.t 38)⟩, 
  ⟨(some 39), none, .ext (.t 32) 0⟩, 
  ⟨(some 40), none, .ext (.t 32) 1⟩, 
  ⟨(some 12), none, .mv (.t 39)⟩, 
  ⟨(some 13), none, .mv (.t 40)⟩])
  (.seq (.reg [⟨(some 41), none, .mv (.t 9)⟩, 
  ⟨(some 42), none, .mv (.t 41)⟩, 
  ⟨(some 43), (some ((some 42), true)), .mv (.t 13)⟩, 
  ⟨(some 44), (some ((some 42), true)), .bin .eql false (.t 43) (.k (.sc (.int .i64 0))) (pu (.binOp .eql 25 (.tmp 43) (.const (.int .i64 0)) 25) 4)⟩, 
  ⟨(some 45), (some ((some 42), true)), .mv (.t 44)⟩, 
  ⟨(some 46), (some ((some 45), false)), .mv (.t 13)⟩, 
  ⟨(some 47), (some ((some 45), false)), .bin .eql false (.t 46) (.k (.sc (.int .i64 9))) (pu (.binOp .eql 25 (.tmp 46) (.const (.int .i64 9)) 25) 4)⟩, 
  ⟨(some 48), (some ((some 42), true)), .pick (.t 45) (.k (.sc (.bool true))) (.t 47)⟩, 
  ⟨(some 49), none, .pick (.t 42) (.t 48) (.k (.sc (.bool false)))⟩, 
  ⟨(some 9), none, .mv (.t 49)⟩])
  (.reg [⟨(some 50), none, .mv (.t 12)⟩, 
  ⟨(some 8), none, .mv (.t 50)⟩]))))))
  (.reg [⟨(some 18), none, .mv (.t 10)⟩, 
  ⟨(some 19), none, .bin .add false (.t 18) (.k (.sc (.int .i64 1))) (pu (.binOp .add 3 (.tmp 18) (.const (.int .i64 1)) 3) 3)⟩, 
  ⟨(some 10), none, .mv (.t 19)⟩]))))))
 (.seq (.reg [⟨(some 51), none, .mv (.t 8)⟩, 
 ⟨(some 52), none, .mv (.t 9)⟩, 
 ⟨(some 6), none, .mv (.t 51)⟩, 
 ⟨(some 7), none, .mv (.t 52)⟩])
 .ret)))))
def k24 : List Nat := [0, 1, 2, 6, 7, 8, 9, 10, 11, 12, 13, 17, 26]
theorem ic24 : factsI Try.prog 24 = some (53, [.tmp 6, .tmp 7], c24) := by kernel_rfl

-- chargenet/chargenetlaw36.event (20 slots)
def c25 : IC :=
 (.seq (.reg [⟨(some 4), none, .al (.agg [(.sc (.string ⟨#[]⟩)), (.sc (.string ⟨#[]⟩)), (.sc (.int .i64 0)), (.sc (.int .i64 0)), (.sc (.int .i64 0)), (.sc (.int .i64 0)), (.sc (.string ⟨#[]⟩)), (.sc (.bool false)), (.sc (.int .i64 0)), (.sc (.slice none 0 0))]) 10⟩])
 (.seq (.reg [⟨(some 6), none, .mv (.t 0)⟩, 
 ⟨(some 7), none, .mv (.t 1)⟩, 
 ⟨(some 8), none, .mv (.t 0)⟩, 
 ⟨(some 9), none, .mv (.t 0)⟩, 
 ⟨(some 10), none, .bld [(.sc (.int .i64 0)), (.sc (.int .i64 0))] [(0, 1, (.t 9)), (1, 1, (.k (.sc (.int .i64 7))))]⟩, 
 ⟨(some 11), none, .bsl 2 1 true [(.sc (.int .i64 0)), (.sc (.int .i64 0))] [(0, 2, (.t 10))]⟩, 
 ⟨(some 12), none, .bld [(.sc (.string ⟨#[]⟩)), (.sc (.string ⟨#[]⟩)), (.sc (.int .i64 0)), (.sc (.int .i64 0)), (.sc (.int .i64 0)), (.sc (.int .i64 0)), (.sc (.string ⟨#[]⟩)), (.sc (.bool false)), (.sc (.int .i64 0)), (.sc (.slice none 0 0))] [(0, 1, (.k (.sc (.string ⟨#[83]⟩)))), (1, 1, (.k (.sc (.string ⟨#[84]⟩)))), (2, 1, (.k (.sc (.int .i64 1)))), (3, 1, (.t 6)), (4, 1, (.t 7)), (5, 1, (.t 8)), (9, 1, (.t 11))]⟩, 
 ⟨(some 5), none, .al (.agg [(.sc (.string ⟨#[]⟩)), (.sc (.string ⟨#[]⟩)), (.sc (.int .i64 0)), (.sc (.int .i64 0)), (.sc (.int .i64 0)), (.sc (.int .i64 0)), (.sc (.string ⟨#[]⟩)), (.sc (.bool false)), (.sc (.int .i64 0)), (.sc (.slice none 0 0))]) 10⟩, 
 ⟨none, none, .st 10 (.t 5) (.t 12)⟩])
 (.seq (.seq (.reg [⟨(some 13), none, .mv (.t 1)⟩, 
 ⟨(some 14), none, .bin .eql false (.t 13) (.k (.sc (.int .i64 1))) (pu (.binOp .eql 3 (.tmp 13) (.const (.int .i64 1)) 3) 4)⟩])
 (.cond (.t 14) (.reg [⟨(some 15), none, .sh 6 (.t 5)⟩, 
  ⟨none, none, .st 1 (.t 15) (.k (.sc (.string ⟨#[65]⟩)))⟩])
 .skip))
 (.seq (.seq (.reg [⟨(some 16), none, .mv (.t 1)⟩, 
 ⟨(some 17), none, .bin .eql false (.t 16) (.k (.sc (.int .i64 3))) (pu (.binOp .eql 3 (.tmp 16) (.const (.int .i64 3)) 3) 4)⟩])
 (.cond (.t 17) (.reg [⟨(some 18), none, .sh 8 (.t 5)⟩, 
  ⟨none, none, .st 1 (.t 18) (.k (.sc (.int .i64 1)))⟩])
 .skip))
 (.seq (.reg [⟨(some 19), none, .ld (some 10) (.t 5)⟩, 
 ⟨none, none, .st 10 (.t 4) (.t 19)⟩])
 .ret)))))
def k25 : List Nat := [0, 1, 4, 5, 14, 17]
theorem ic25 : factsI Try.prog 25 = some (20, [.cell 4 29], c25) := by kernel_rfl

-- chargenet/event.Valid (49 slots)
def c26 : IC :=
 (.seq (.reg [⟨(some 1), none, .bx (.t 0)⟩, 
 ⟨(some 2), none, .mv (.k (.sc (.int .i64 0)))⟩])
 (.seq (.seq (.reg [⟨(some 4), none, .sh 0 (.t 1)⟩, 
 ⟨(some 5), none, .ld none (.t 4)⟩, 
 ⟨(some 6), none, .call 40 [(.t 5)]⟩, 
 ⟨(some 7), none, .un .not (.t 6) (pu (.unOp .not 4 (.tmp 6)) 4)⟩, 
 ⟨(some 8), none, .mv (.t 7)⟩, 
 ⟨(some 9), (some ((some 8), false)), .sh 1 (.t 1)⟩, 
 ⟨(some 10), (some ((some 8), false)), .ld none (.t 9)⟩, 
 ⟨(some 11), (some ((some 8), false)), .call 40 [(.t 10)]⟩, 
 ⟨(some 12), (some ((some 8), false)), .un .not (.t 11) (pu (.unOp .not 4 (.tmp 11)) 4)⟩, 
 ⟨(some 13), none, .pick (.t 8) (.k (.sc (.bool true))) (.t 12)⟩])
 (.cond (.t 13) (.seq (.reg [⟨(some 2), none, .mv (.k (.sc (.int .i64 4)))⟩])
  .ret)
 .skip))
 (.seq (.seq (.reg [⟨(some 14), none, .sh 2 (.t 1)⟩, 
 ⟨(some 15), none, .ld none (.t 14)⟩, 
 ⟨(some 16), none, .bin .lss false (.t 15) (.k (.sc (.int .i64 1))) (pu (.binOp .lss 3 (.tmp 15) (.const (.int .i64 1)) 3) 4)⟩, 
 ⟨(some 17), none, .mv (.t 16)⟩, 
 ⟨(some 18), (some ((some 17), false)), .sh 2 (.t 1)⟩, 
 ⟨(some 19), (some ((some 17), false)), .ld none (.t 18)⟩, 
 ⟨(some 20), (some ((some 17), false)), .bin .gtr false (.t 19) (.k (.sc (.int .i64 32))) (pu (.binOp .gtr 3 (.tmp 19) (.const (.int .i64 32)) 3) 4)⟩, 
 ⟨(some 21), none, .pick (.t 17) (.k (.sc (.bool true))) (.t 20)⟩, 
 ⟨(some 22), none, .mv (.t 21)⟩, 
 ⟨(some 23), (some ((some 22), false)), .sh 3 (.t 1)⟩, 
 ⟨(some 24), (some ((some 22), false)), .ld none (.t 23)⟩, 
 ⟨(some 25), (some ((some 22), false)), .bin .lss false (.t 24) (.k (.sc (.int .i64 0))) (pu (.binOp .lss 3 (.tmp 24) (.const (.int .i64 0)) 3) 4)⟩, 
 ⟨(some 26), none, .pick (.t 22) (.k (.sc (.bool true))) (.t 25)⟩, 
 ⟨(some 27), none, .mv (.t 26)⟩, 
 ⟨(some 28), (some ((some 27), false)), .sh 3 (.t 1)⟩, 
 ⟨(some 29), (some ((some 27), false)), .ld none (.t 28)⟩, 
 ⟨(some 30), (some ((some 27), false)), .bin .gtr false (.t 29) (.k (.sc (.int .i64 2147483647))) (pu (.binOp .gtr 3 (.tmp 29) (.const (.int .i64 2147483647)) 3) 4)⟩, 
 ⟨(some 31), none, .pick (.t 27) (.k (.sc (.bool true))) (.t 30)⟩, 
 ⟨(some 32), none, .mv (.t 31)⟩, 
 ⟨(some 33), (some ((some 32), false)), .sh 5 (.t 1)⟩, 
 ⟨(some 34), (some ((some 32), false)), .ld none (.t 33)⟩, 
 ⟨(some 35), (some ((some 32), false)), .bin .lss false (.t 34) (.k (.sc (.int .i64 0))) (pu (.binOp .lss 3 (.tmp 34) (.const (.int .i64 0)) 3) 4)⟩, 
 ⟨(some 36), none, .pick (.t 32) (.k (.sc (.bool true))) (.t 35)⟩, 
 ⟨(some 37), none, .mv (.t 36)⟩, 
 ⟨(some 38), (some ((some 37), false)), .sh 5 (.t 1)⟩, 
 ⟨(some 39), (some ((some 37), false)), .ld none (.t 38)⟩, 
 ⟨(some 40), (some ((some 37), false)), .bin .gtr false (.t 39) (.k (.sc (.int .i64 268435456))) (pu (.binOp .gtr 3 (.tmp 39) (.const (.int .i64 268435456)) 3) 4)⟩, 
 ⟨(some 41), none, .pick (.t 37) (.k (.sc (.bool true))) (.t 40)⟩])
 (.cond (.t 41) (.seq (.reg [⟨(some 2), none, .mv (.k (.sc (.int .i64 2)))⟩])
  .ret)
 .skip))
 (.seq (.seq (.reg [⟨(some 42), none, .ld (some 10) (.t 1)⟩, 
 ⟨(some 43), none, .call 41 [(.t 42)]⟩, 
 ⟨(some 3), none, .mv (.t 43)⟩])
 (.seq (.reg [⟨(some 44), none, .mv (.t 3)⟩, 
 ⟨(some 45), none, .bin .neq false (.t 44) (.k (.sc (.int .i64 0))) (pu (.binOp .neq 25 (.tmp 44) (.const (.int .i64 0)) 25) 4)⟩])
 (.cond (.t 45) (.seq (.reg [⟨(some 46), none, .mv (.t 3)⟩, 
  ⟨(some 2), none, .mv (.t 46)⟩])
  .ret)
 .skip)))
 (.seq (.reg [⟨(some 47), none, .ld (some 10) (.t 1)⟩, 
 ⟨(some 48), none, .call 42 [(.t 47)]⟩, 
 ⟨(some 2), none, .mv (.t 48)⟩])
 .ret)))))
def k26 : List Nat := [0, 1, 2, 3, 13, 41, 45]
theorem ic26 : factsI Try.prog 26 = some (49, [.tmp 2], c26) := by kernel_rfl

-- chargenet/intake.compare (15 slots)
def c27 : IC :=
 (.seq (.reg [⟨(some 2), none, .bx (.t 0)⟩, 
 ⟨(some 3), none, .bx (.t 1)⟩, 
 ⟨(some 4), none, .mv (.k (.sc (.int .i64 0)))⟩])
 (.seq (.drw [0, 0, 3, 0, 8, 0, 32, 127, 255, 511, 1023] [⟨(some 5), none, .ld (some 3) (.t 2)⟩, 
 ⟨(some 6), none, .ld (some 3) (.t 3)⟩, 
 ⟨(some 7), none, .call 29 [(.t 5), (.t 6)]⟩, 
 ⟨(some 8), none, .sh 2 (.t 2)⟩, 
 ⟨(some 9), none, .ld none (.t 8)⟩, 
 ⟨(some 10), none, .sh 2 (.t 3)⟩, 
 ⟨(some 11), none, .ld none (.t 10)⟩, 
 ⟨(some 12), none, .call 44 [(.t 9), (.t 11)]⟩, 
 ⟨(some 13), none, .bsl 1 2 false [(.sc (.int .i64 0)), (.sc (.int .i64 0))] [(0, 1, (.t 7)), (1, 1, (.t 12))]⟩, 
 ⟨(some 14), none, .call 43 [(.t 13)]⟩, 
 ⟨(some 4), none, .mv (.t 14)⟩])
 .ret))
def k27 : List Nat := [0, 1, 2, 3, 4]
theorem ic27 : factsI Try.prog 27 = some (15, [.tmp 4], c27) := by kernel_rfl

-- chargenet/intake.keyOf (10 slots)
def c28 : IC :=
 (.seq (.reg [⟨(some 1), none, .bx (.t 0)⟩, 
 ⟨(some 2), none, .al (.agg [(.sc (.string ⟨#[]⟩)), (.sc (.string ⟨#[]⟩)), (.sc (.int .i64 0))]) 3⟩])
 (.seq (.reg [⟨(some 3), none, .sh 0 (.t 1)⟩, 
 ⟨(some 4), none, .ld none (.t 3)⟩, 
 ⟨(some 5), none, .sh 1 (.t 1)⟩, 
 ⟨(some 6), none, .ld none (.t 5)⟩, 
 ⟨(some 7), none, .sh 3 (.t 1)⟩, 
 ⟨(some 8), none, .ld none (.t 7)⟩, 
 ⟨(some 9), none, .bld [(.sc (.string ⟨#[]⟩)), (.sc (.string ⟨#[]⟩)), (.sc (.int .i64 0))] [(0, 1, (.t 4)), (1, 1, (.t 6)), (2, 1, (.t 8))]⟩, 
 ⟨none, none, .st 3 (.t 2) (.t 9)⟩])
 .ret))
def k28 : List Nat := [0, 1, 2]
theorem ic28 : factsI Try.prog 28 = some (10, [.cell 2 53], c28) := by kernel_rfl

-- chargenet/intake.compareTxn (17 slots)
def c29 : IC :=
 (.seq (.reg [⟨(some 2), none, .bx (.t 0)⟩, 
 ⟨(some 3), none, .bx (.t 1)⟩, 
 ⟨(some 4), none, .mv (.k (.sc (.int .i64 0)))⟩])
 (.seq (.drw [0, 1, 0, 4, 15, 0, 32, 0, 128, 511, 1023, 2047, 4095] [⟨(some 5), none, .sh 0 (.t 2)⟩, 
 ⟨(some 6), none, .ld none (.t 5)⟩, 
 ⟨(some 7), none, .sh 0 (.t 3)⟩, 
 ⟨(some 8), none, .ld none (.t 7)⟩, 
 ⟨(some 9), none, .call 45 [(.t 6), (.t 8)]⟩, 
 ⟨(some 10), none, .sh 1 (.t 2)⟩, 
 ⟨(some 11), none, .ld none (.t 10)⟩, 
 ⟨(some 12), none, .sh 1 (.t 3)⟩, 
 ⟨(some 13), none, .ld none (.t 12)⟩, 
 ⟨(some 14), none, .call 45 [(.t 11), (.t 13)]⟩, 
 ⟨(some 15), none, .bsl 1 2 false [(.sc (.int .i64 0)), (.sc (.int .i64 0))] [(0, 1, (.t 9)), (1, 1, (.t 14))]⟩, 
 ⟨(some 16), none, .call 43 [(.t 15)]⟩, 
 ⟨(some 4), none, .mv (.t 16)⟩])
 .ret))
def k29 : List Nat := [0, 1, 2, 3, 4]
theorem ic29 : factsI Try.prog 29 = some (17, [.tmp 4], c29) := by kernel_rfl

-- chargenet/intake.contradict (37 slots)
def c30 : IC :=
 (.seq (.reg [⟨(some 2), none, .bx (.t 0)⟩, 
 ⟨(some 3), none, .bx (.t 1)⟩, 
 ⟨(some 4), none, .mv (.k (.sc (.bool false)))⟩])
 (.seq (.block 0 (.seq (.reg [⟨(some 6), none, .sh 3 (.t 2)⟩, 
 ⟨(some 7), none, .ld none (.t 6)⟩, 
 ⟨(some 8), none, .sh 3 (.t 3)⟩, 
 ⟨(some 9), none, .ld none (.t 8)⟩, 
 ⟨(some 10), none, .bin .lss false (.t 7) (.t 9) (pu (.binOp .lss 3 (.tmp 7) (.tmp 9) 3) 4)⟩, 
 ⟨(some 5), none, .mv (.t 10)⟩])
 (.cond (.t 5) (.seq (.reg [⟨(some 11), none, .sh 4 (.t 2)⟩, 
  ⟨(some 12), none, .ld none (.t 11)⟩, 
  ⟨(some 13), none, .bin .eql false (.t 12) (.k (.sc (.int .i64 3))) (pu (.binOp .eql 3 (.tmp 12) (.const (.int .i64 3)) 3) 4)⟩, 
  ⟨(some 14), none, .mv (.t 13)⟩, 
  ⟨(some 15), (some ((some 14), false)), .sh 5 (.t 2)⟩, 
  ⟨(some 16), (some ((some 14), false)), .ld none (.t 15)⟩, 
  ⟨(some 17), (some ((some 14), false)), .sh 5 (.t 3)⟩, 
  ⟨(some 18), (some ((some 14), false)), .ld none (.t 17)⟩, 
  ⟨(some 19), (some ((some 14), false)), .bin .gtr false (.t 16) (.t 18) (pu (.binOp .gtr 3 (.tmp 16) (.tmp 18) 3) 4)⟩, 
  ⟨(some 20), none, .pick (.t 14) (.k (.sc (.bool true))) (.t 19)⟩, 
  ⟨(some 4), none, .mv (.t 20)⟩])
  .ret)
 (.seq (.reg [⟨(some 22), none, .sh 3 (.t 3)⟩, 
  ⟨(some 23), none, .ld none (.t 22)⟩, 
  ⟨(some 24), none, .sh 3 (.t 2)⟩, 
  ⟨(some 25), none, .ld none (.t 24)⟩, 
  ⟨(some 26), none, .bin .lss false (.t 23) (.t 25) (pu (.binOp .lss 3 (.tmp 23) (.tmp 25) 3) 4)⟩, 
  ⟨(some 21), none, .mv (.t 26)⟩])
  (.cond (.t 21) (.seq (.reg [⟨(some 27), none, .sh 4 (.t 3)⟩, 
   ⟨(some 28), none, .ld none (.t 27)⟩, 
   ⟨(some 29), none, .bin .eql false (.t 28) (.k (.sc (.int .i64 3))) (pu (.binOp .eql 3 (.tmp 28) (.const (.int .i64 3)) 3) 4)⟩, 
   ⟨(some 30), none, .mv (.t 29)⟩, 
   ⟨(some 31), (some ((some 30), false)), .sh 5 (.t 3)⟩, 
   ⟨(some 32), (some ((some 30), false)), .ld none (.t 31)⟩, 
   ⟨(some 33), (some ((some 30), false)), .sh 5 (.t 2)⟩, 
   ⟨(some 34), (some ((some 30), false)), .ld none (.t 33)⟩, 
   ⟨(some 35), (some ((some 30), false)), .bin .gtr false (.t 32) (.t 34) (pu (.binOp .gtr 3 (.tmp 32) (.tmp 34) 3) 4)⟩, 
   ⟨(some 36), none, .pick (.t 30) (.k (.sc (.bool true))) (.t 35)⟩, 
   ⟨(some 4), none, .mv (.t 36)⟩])
   .ret)
  .skip)))))
 (.seq (.reg [⟨(some 4), none, .mv (.k (.sc (.bool false)))⟩])
 .ret)))
def k30 : List Nat := [0, 1, 2, 3, 4, 5, 21]
theorem ic30 : factsI Try.prog 30 = some (37, [.tmp 4], c30) := by kernel_rfl

-- chargenet/chargenetref30.Valid (82 slots)
def c31 : IC :=
 (.seq (.reg [⟨(some 1), none, .bx (.t 0)⟩, 
 ⟨(some 2), none, .mv (.k (.sc (.int .i64 0)))⟩])
 (.seq (.seq (.reg [⟨(some 5), none, .sh 0 (.t 1)⟩, 
 ⟨(some 6), none, .ld none (.t 5)⟩, 
 ⟨(some 7), none, .call 46 [(.t 6)]⟩, 
 ⟨(some 8), none, .un .not (.t 7) (pu (.unOp .not 4 (.tmp 7)) 4)⟩, 
 ⟨(some 9), none, .mv (.t 8)⟩, 
 ⟨(some 10), (some ((some 9), false)), .sh 1 (.t 1)⟩, 
 ⟨(some 11), (some ((some 9), false)), .ld none (.t 10)⟩, 
 ⟨(some 12), (some ((some 9), false)), .call 46 [(.t 11)]⟩, 
 ⟨(some 13), (some ((some 9), false)), .un .not (.t 12) (pu (.unOp .not 4 (.tmp 12)) 4)⟩, 
 ⟨(some 14), none, .pick (.t 9) (.k (.sc (.bool true))) (.t 13)⟩])
 (.cond (.t 14) (.seq (.reg [⟨(some 2), none, .mv (.k (.sc (.int .i64 4)))⟩])
  .ret)
 .skip))
 (.seq (.seq (.reg [⟨(some 15), none, .sh 2 (.t 1)⟩, 
 ⟨(some 16), none, .ld none (.t 15)⟩, 
 ⟨(some 17), none, .call 47 [(.t 16), (.k (.sc (.int .i64 1))), (.k (.sc (.int .i64 32)))]⟩, 
 ⟨(some 18), none, .un .not (.t 17) (pu (.unOp .not 4 (.tmp 17)) 4)⟩, 
 ⟨(some 19), none, .mv (.t 18)⟩, 
 ⟨(some 20), (some ((some 19), false)), .sh 3 (.t 1)⟩, 
 ⟨(some 21), (some ((some 19), false)), .ld none (.t 20)⟩, 
 ⟨(some 22), (some ((some 19), false)), .call 47 [(.t 21), (.k (.sc (.int .i64 0))), (.k (.sc (.int .i64 2147483647)))]⟩, 
 ⟨(some 23), (some ((some 19), false)), .un .not (.t 22) (pu (.unOp .not 4 (.tmp 22)) 4)⟩, 
 ⟨(some 24), none, .pick (.t 19) (.k (.sc (.bool true))) (.t 23)⟩, 
 ⟨(some 25), none, .mv (.t 24)⟩, 
 ⟨(some 26), (some ((some 25), false)), .sh 5 (.t 1)⟩, 
 ⟨(some 27), (some ((some 25), false)), .ld none (.t 26)⟩, 
 ⟨(some 28), (some ((some 25), false)), .call 48 [(.t 27)]⟩, 
 ⟨(some 29), (some ((some 25), false)), .un .not (.t 28) (pu (.unOp .not 4 (.tmp 28)) 4)⟩, 
 ⟨(some 30), none, .pick (.t 25) (.k (.sc (.bool true))) (.t 29)⟩])
 (.cond (.t 30) (.seq (.reg [⟨(some 2), none, .mv (.k (.sc (.int .i64 2)))⟩])
  .ret)
 .skip))
 (.seq (.drw [0, 1, 3, 0, 8, 24, 7, 127] [⟨(some 31), none, .sh 4 (.t 1)⟩, 
 ⟨(some 32), none, .ld none (.t 31)⟩, 
 ⟨(some 33), none, .bin .eql false (.t 32) (.k (.sc (.int .i64 1))) (pu (.binOp .eql 3 (.tmp 32) (.const (.int .i64 1)) 3) 4)⟩, 
 ⟨(some 34), none, .sh 4 (.t 1)⟩, 
 ⟨(some 35), none, .ld none (.t 34)⟩, 
 ⟨(some 36), none, .bin .eql false (.t 35) (.k (.sc (.int .i64 3))) (pu (.binOp .eql 3 (.tmp 35) (.const (.int .i64 3)) 3) 4)⟩, 
 ⟨(some 3), none, .mv (.t 33)⟩, 
 ⟨(some 4), none, .mv (.t 36)⟩])
 (.seq (.seq (.reg [⟨(some 37), none, .sh 4 (.t 1)⟩, 
 ⟨(some 38), none, .ld none (.t 37)⟩, 
 ⟨(some 39), none, .call 47 [(.t 38), (.k (.sc (.int .i64 1))), (.k (.sc (.int .i64 3)))]⟩, 
 ⟨(some 40), none, .un .not (.t 39) (pu (.unOp .not 4 (.tmp 39)) 4)⟩, 
 ⟨(some 41), none, .mv (.t 40)⟩, 
 ⟨(some 42), (some ((some 41), false)), .mv (.t 3)⟩, 
 ⟨(some 43), (some ((some 41), false)), .sh 3 (.t 1)⟩, 
 ⟨(some 44), (some ((some 41), false)), .ld none (.t 43)⟩, 
 ⟨(some 45), (some ((some 41), false)), .bin .eql false (.t 44) (.k (.sc (.int .i64 0))) (pu (.binOp .eql 3 (.tmp 44) (.const (.int .i64 0)) 3) 4)⟩, 
 ⟨(some 46), (some ((some 41), false)), .bin .neq true (.t 42) (.t 45) (pu (.binOp .neq 4 (.tmp 42) (.tmp 45) 4) 4)⟩, 
 ⟨(some 47), none, .pick (.t 41) (.k (.sc (.bool true))) (.t 46)⟩, 
 ⟨(some 48), none, .mv (.t 47)⟩, 
 ⟨(some 49), (some ((some 48), false)), .mv (.t 4)⟩, 
 ⟨(some 50), (some ((some 48), false)), .un .not (.t 49) (pu (.unOp .not 4 (.tmp 49)) 4)⟩, 
 ⟨(some 51), (some ((some 48), false)), .mv (.t 50)⟩, 
 ⟨(some 52), (some ((some 51), true)), .sh 8 (.t 1)⟩, 
 ⟨(some 53), (some ((some 51), true)), .ld none (.t 52)⟩, 
 ⟨(some 54), (some ((some 51), true)), .bin .neq false (.t 53) (.k (.sc (.int .i64 0))) (pu (.binOp .neq 3 (.tmp 53) (.const (.int .i64 0)) 3) 4)⟩, 
 ⟨(some 55), (some ((some 48), false)), .pick (.t 51) (.t 54) (.k (.sc (.bool false)))⟩, 
 ⟨(some 56), none, .pick (.t 48) (.k (.sc (.bool true))) (.t 55)⟩, 
 ⟨(some 57), none, .mv (.t 56)⟩, 
 ⟨(some 58), (some ((some 57), false)), .mv (.t 4)⟩, 
 ⟨(some 59), (some ((some 57), false)), .mv (.t 58)⟩, 
 ⟨(some 60), (some ((some 59), true)), .sh 8 (.t 1)⟩, 
 ⟨(some 61), (some ((some 59), true)), .ld none (.t 60)⟩, 
 ⟨(some 62), (some ((some 59), true)), .call 47 [(.t 61), (.k (.sc (.int .i64 1))), (.k (.sc (.int .i64 6)))]⟩, 
 ⟨(some 63), (some ((some 59), true)), .un .not (.t 62) (pu (.unOp .not 4 (.tmp 62)) 4)⟩, 
 ⟨(some 64), (some ((some 57), false)), .pick (.t 59) (.t 63) (.k (.sc (.bool false)))⟩, 
 ⟨(some 65), none, .pick (.t 57) (.k (.sc (.bool true))) (.t 64)⟩])
 (.cond (.t 65) (.seq (.reg [⟨(some 2), none, .mv (.k (.sc (.int .i64 1)))⟩])
  .ret)
 .skip))
 (.seq (.seq (.reg [⟨(some 66), none, .mv (.t 3)⟩, 
 ⟨(some 67), none, .mv (.t 66)⟩, 
 ⟨(some 68), (some ((some 67), true)), .sh 6 (.t 1)⟩, 
 ⟨(some 69), (some ((some 67), true)), .ld none (.t 68)⟩, 
 ⟨(some 70), (some ((some 67), true)), .call 46 [(.t 69)]⟩, 
 ⟨(some 71), (some ((some 67), true)), .un .not (.t 70) (pu (.unOp .not 4 (.tmp 70)) 4)⟩, 
 ⟨(some 72), none, .pick (.t 67) (.t 71) (.k (.sc (.bool false)))⟩])
 (.cond (.t 72) (.seq (.reg [⟨(some 2), none, .mv (.k (.sc (.int .i64 4)))⟩])
  .ret)
 .skip))
 (.seq (.seq (.reg [⟨(some 73), none, .mv (.t 3)⟩, 
 ⟨(some 74), none, .un .not (.t 73) (pu (.unOp .not 4 (.tmp 73)) 4)⟩, 
 ⟨(some 75), none, .mv (.t 74)⟩, 
 ⟨(some 76), (some ((some 75), true)), .sh 6 (.t 1)⟩, 
 ⟨(some 77), (some ((some 75), true)), .ld none (.t 76)⟩, 
 ⟨(some 78), (some ((some 75), true)), .bin .neq false (.t 77) (.k (.sc (.string ⟨#[]⟩))) (pu (.binOp .neq 9 (.tmp 77) (.const (.string ⟨#[]⟩)) 9) 4)⟩, 
 ⟨(some 79), none, .pick (.t 75) (.t 78) (.k (.sc (.bool false)))⟩])
 (.cond (.t 79) (.seq (.reg [⟨(some 2), none, .mv (.k (.sc (.int .i64 1)))⟩])
  .ret)
 .skip))
 (.seq (.reg [⟨(some 80), none, .ld (some 10) (.t 1)⟩, 
 ⟨(some 81), none, .call 49 [(.t 80)]⟩, 
 ⟨(some 2), none, .mv (.t 81)⟩])
 .ret))))))))
def k31 : List Nat := [0, 1, 2, 3, 4, 14, 30, 65, 72, 79]
theorem ic31 : factsI Try.prog 31 = some (82, [.tmp 2], c31) := by kernel_rfl

-- chargenet/chargenetref36.Before (30 slots)
def c32 : IC :=
 (.seq (.reg [⟨(some 2), none, .bx (.t 0)⟩, 
 ⟨(some 3), none, .bx (.t 1)⟩, 
 ⟨(some 4), none, .mv (.k (.sc (.bool false)))⟩])
 (.seq (.seq (.reg [⟨(some 5), none, .sh 0 (.t 2)⟩, 
 ⟨(some 6), none, .ld none (.t 5)⟩, 
 ⟨(some 7), none, .sh 0 (.t 3)⟩, 
 ⟨(some 8), none, .ld none (.t 7)⟩, 
 ⟨(some 9), none, .bin .neq false (.t 6) (.t 8) (pu (.binOp .neq 9 (.tmp 6) (.tmp 8) 9) 4)⟩])
 (.cond (.t 9) (.seq (.reg [⟨(some 10), none, .sh 0 (.t 2)⟩, 
  ⟨(some 11), none, .ld none (.t 10)⟩, 
  ⟨(some 12), none, .sh 0 (.t 3)⟩, 
  ⟨(some 13), none, .ld none (.t 12)⟩, 
  ⟨(some 14), none, .bin .lss false (.t 11) (.t 13) (pu (.binOp .lss 9 (.tmp 11) (.tmp 13) 9) 4)⟩, 
  ⟨(some 4), none, .mv (.t 14)⟩])
  .ret)
 .skip))
 (.seq (.seq (.reg [⟨(some 15), none, .sh 1 (.t 2)⟩, 
 ⟨(some 16), none, .ld none (.t 15)⟩, 
 ⟨(some 17), none, .sh 1 (.t 3)⟩, 
 ⟨(some 18), none, .ld none (.t 17)⟩, 
 ⟨(some 19), none, .bin .neq false (.t 16) (.t 18) (pu (.binOp .neq 9 (.tmp 16) (.tmp 18) 9) 4)⟩])
 (.cond (.t 19) (.seq (.reg [⟨(some 20), none, .sh 1 (.t 2)⟩, 
  ⟨(some 21), none, .ld none (.t 20)⟩, 
  ⟨(some 22), none, .sh 1 (.t 3)⟩, 
  ⟨(some 23), none, .ld none (.t 22)⟩, 
  ⟨(some 24), none, .bin .lss false (.t 21) (.t 23) (pu (.binOp .lss 9 (.tmp 21) (.tmp 23) 9) 4)⟩, 
  ⟨(some 4), none, .mv (.t 24)⟩])
  .ret)
 .skip))
 (.seq (.reg [⟨(some 25), none, .sh 3 (.t 2)⟩, 
 ⟨(some 26), none, .ld none (.t 25)⟩, 
 ⟨(some 27), none, .sh 3 (.t 3)⟩, 
 ⟨(some 28), none, .ld none (.t 27)⟩, 
 ⟨(some 29), none, .bin .lss false (.t 26) (.t 28) (pu (.binOp .lss 3 (.tmp 26) (.tmp 28) 3) 4)⟩, 
 ⟨(some 4), none, .mv (.t 29)⟩])
 .ret))))
def k32 : List Nat := [0, 1, 2, 3, 4, 9, 19]
theorem ic32 : factsI Try.prog 32 = some (30, [.tmp 4], c32) := by kernel_rfl

-- chargenet/chargenetref36.Contradict (33 slots)
def c33 : IC :=
 (.seq (.reg [⟨(some 2), none, .bx (.t 0)⟩, 
 ⟨(some 3), none, .bx (.t 1)⟩, 
 ⟨(some 4), none, .mv (.k (.sc (.bool false)))⟩])
 (.seq (.seq (.reg [⟨(some 5), none, .ld (some 10) (.t 2)⟩, 
 ⟨(some 6), none, .ld (some 10) (.t 3)⟩, 
 ⟨(some 7), none, .call 38 [(.t 5), (.t 6)]⟩, 
 ⟨(some 8), none, .un .not (.t 7) (pu (.unOp .not 4 (.tmp 7)) 4)⟩, 
 ⟨(some 9), none, .mv (.t 8)⟩, 
 ⟨(some 10), (some ((some 9), false)), .sh 3 (.t 2)⟩, 
 ⟨(some 11), (some ((some 9), false)), .ld none (.t 10)⟩, 
 ⟨(some 12), (some ((some 9), false)), .sh 3 (.t 3)⟩, 
 ⟨(some 13), (some ((some 9), false)), .ld none (.t 12)⟩, 
 ⟨(some 14), (some ((some 9), false)), .bin .eql false (.t 11) (.t 13) (pu (.binOp .eql 3 (.tmp 11) (.tmp 13) 3) 4)⟩, 
 ⟨(some 15), none, .pick (.t 9) (.k (.sc (.bool true))) (.t 14)⟩])
 (.cond (.t 15) (.seq (.reg [⟨(some 4), none, .mv (.k (.sc (.bool false)))⟩])
  .ret)
 .skip))
 (.seq (.seq (.reg [⟨(some 16), none, .sh 3 (.t 2)⟩, 
 ⟨(some 17), none, .ld none (.t 16)⟩, 
 ⟨(some 18), none, .sh 3 (.t 3)⟩, 
 ⟨(some 19), none, .ld none (.t 18)⟩, 
 ⟨(some 20), none, .bin .gtr false (.t 17) (.t 19) (pu (.binOp .gtr 3 (.tmp 17) (.tmp 19) 3) 4)⟩])
 (.cond (.t 20) (.reg [⟨(some 21), none, .ld (some 10) (.t 3)⟩, 
  ⟨(some 22), none, .ld (some 10) (.t 2)⟩, 
  ⟨none, none, .st 10 (.t 2) (.t 21)⟩, 
  ⟨none, none, .st 10 (.t 3) (.t 22)⟩])
 .skip))
 (.seq (.reg [⟨(some 23), none, .sh 4 (.t 2)⟩, 
 ⟨(some 24), none, .ld none (.t 23)⟩, 
 ⟨(some 25), none, .bin .eql false (.t 24) (.k (.sc (.int .i64 3))) (pu (.binOp .eql 3 (.tmp 24) (.const (.int .i64 3)) 3) 4)⟩, 
 ⟨(some 26), none, .mv (.t 25)⟩, 
 ⟨(some 27), (some ((some 26), false)), .sh 5 (.t 2)⟩, 
 ⟨(some 28), (some ((some 26), false)), .ld none (.t 27)⟩, 
 ⟨(some 29), (some ((some 26), false)), .sh 5 (.t 3)⟩, 
 ⟨(some 30), (some ((some 26), false)), .ld none (.t 29)⟩, 
 ⟨(some 31), (some ((some 26), false)), .bin .gtr false (.t 28) (.t 30) (pu (.binOp .gtr 3 (.tmp 28) (.tmp 30) 3) 4)⟩, 
 ⟨(some 32), none, .pick (.t 26) (.k (.sc (.bool true))) (.t 31)⟩, 
 ⟨(some 4), none, .mv (.t 32)⟩])
 .ret))))
def k33 : List Nat := [0, 1, 2, 3, 4, 15, 20]
theorem ic33 : factsI Try.prog 33 = some (33, [.tmp 4], c33) := by kernel_rfl

-- chargenet/intake.bounds (37 slots)
def c34 : IC :=
 (.seq (.reg [⟨(some 3), none, .bx (.t 0)⟩, 
 ⟨(some 6), none, .mv (.k (.sc (.int .i64 0)))⟩, 
 ⟨(some 7), none, .mv (.k (.sc (.int .i64 0)))⟩])
 (.seq (.reg [⟨(some 11), none, .mv (.t 1)⟩, 
 ⟨(some 12), none, .mv (.t 2)⟩, 
 ⟨(some 13), none, .bld [(.sc (.string ⟨#[]⟩)), (.sc (.string ⟨#[]⟩)), (.sc (.int .i64 0))] [(0, 1, (.t 11)), (1, 1, (.t 12))]⟩, 
 ⟨(some 8), none, .al (.agg [(.sc (.string ⟨#[]⟩)), (.sc (.string ⟨#[]⟩)), (.sc (.int .i64 0))]) 3⟩, 
 ⟨none, none, .st 3 (.t 8) (.t 13)⟩])
 (.seq (.reg [⟨(some 14), none, .ld none (.t 3)⟩, 
 ⟨(some 15), none, .len (.t 14) (pu (.call ⟨.builtin .len, #[(.tmp 14)], #[22]⟩) 3)⟩, 
 ⟨(some 16), none, .mkf (.func 51) [] [(.t 3), (.t 8)]⟩, 
 ⟨(some 17), none, .call 50 [(.t 15), (.t 16)]⟩, 
 ⟨(some 9), none, .mv (.t 17)⟩])
 (.seq (.reg [⟨(some 18), none, .mv (.t 9)⟩, 
 ⟨(some 10), none, .mv (.t 18)⟩])
 (.seq (.block 0 (.loop (.seq (.seq (.drw [0, 0, 2, 7, 15, 31, 31, 127, 255, 511, 31, 2047, 4095, 8191] [⟨(some 19), none, .mv (.t 10)⟩, 
  ⟨(some 20), none, .ld none (.t 3)⟩, 
  ⟨(some 21), none, .len (.t 20) (pu (.call ⟨.builtin .len, #[(.tmp 20)], #[22]⟩) 3)⟩, 
  ⟨(some 22), none, .bin .lss false (.t 19) (.t 21) (pu (.binOp .lss 3 (.tmp 19) (.tmp 21) 3) 4)⟩, 
  ⟨(some 23), none, .mv (.t 22)⟩, 
  ⟨(some 24), (some ((some 23), true)), .ld none (.t 3)⟩, 
  ⟨(some 25), (some ((some 23), true)), .mv (.t 10)⟩, 
  ⟨(some 26), (some ((some 23), true)), .ixs 10 (.t 24) (.t 25)⟩, 
  ⟨(some 27), (some ((some 23), true)), .ld (some 10) (.t 26)⟩, 
  ⟨(some 28), (some ((some 23), true)), .call 28 [(.t 27)]⟩, 
  ⟨(some 29), (some ((some 23), true)), .ld (some 3) (.t 8)⟩, 
  ⟨(some 30), (some ((some 23), true)), .call 29 [(.t 28), (.t 29)]⟩, 
  ⟨(some 31), (some ((some 23), true)), .bin .eql false (.t 30) (.k (.sc (.int .i64 0))) (pu (.binOp .eql 3 (.tmp 30) (.const (.int .i64 0)) 3) 4)⟩, 
  ⟨(some 32), none, .pick (.t 23) (.t 31) (.k (.sc (.bool false)))⟩])
  (.cond (.t 32) .skip
  (.exit 0)))
  (.block 1 (.reg [⟨(some 33), none, .mv (.t 10)⟩, 
  ⟨(some 34), none, .bin .add false (.t 33) (.k (.sc (.int .i64 1))) (pu (.binOp .add 3 (.tmp 33) (.const (.int .i64 1)) 3) 3)⟩, 
  ⟨(some 10), none, .mv (.t 34)⟩])))))
 (.seq (.reg [⟨(some 35), none, .mv (.t 9)⟩, 
 ⟨(some 36), none, .mv (.t 10)⟩, 
 ⟨(some 6), none, .mv (.t 35)⟩, 
 ⟨(some 7), none, .mv (.t 36)⟩])
 .ret))))))
def k34 : List Nat := [0, 1, 2, 3, 6, 7, 8, 9, 10, 32]
theorem ic34 : factsI Try.prog 34 = some (37, [.tmp 6, .tmp 7], c34) := by kernel_rfl

-- chargenet/intake.index (21 slots)
def c35 : IC :=
 (.seq (.reg [⟨(some 2), none, .mv (.k (.sc (.map none)))⟩])
 (.seq (.reg [⟨(some 6), none, .mv (.t 0)⟩, 
 ⟨(some 7), none, .len (.t 6) (pu (.call ⟨.builtin .len, #[(.tmp 6)], #[22]⟩) 3)⟩, 
 ⟨(some 8), none, .mmk (some (.t 7))⟩, 
 ⟨(some 3), none, .mv (.t 8)⟩])
 (.seq (.seq (.reg [⟨(some 9), none, .mv (.t 0)⟩, 
 ⟨(some 10), none, .len (.t 9) (pu (.call ⟨.builtin .len, #[(.tmp 9)], #[22]⟩) 3)⟩, 
 ⟨(some 11), none, .mv (.k (.sc (.int .i64 0)))⟩])
 (.block 0 (.loop (.seq (.reg [⟨(some 12), none, .bin .lss false (.t 11) (.t 10) (pu (.binOp .lss 3 (.tmp 11) (.tmp 10) 3) 0)⟩])
  (.seq (.cond (.t 12) .skip
  (.exit 0))
  (.seq (.block 1 (.seq (.reg [⟨(some 13), none, .ixs 10 (.t 9) (.t 11)⟩, 
  ⟨(some 14), none, .ld (some 10) (.t 13)⟩, 
  ⟨(some 5), none, .al (.agg [(.sc (.string ⟨#[]⟩)), (.sc (.string ⟨#[]⟩)), (.sc (.int .i64 0)), (.sc (.int .i64 0)), (.sc (.int .i64 0)), (.sc (.int .i64 0)), (.sc (.string ⟨#[]⟩)), (.sc (.bool false)), (.sc (.int .i64 0)), (.sc (.slice none 0 0))]) 10⟩, 
  ⟨none, none, .st 10 (.t 5) (.t 14)⟩])
  (.drw [0, 0, 2, 0, 15] [⟨(some 15), none, .mv (.t 3)⟩, 
  ⟨(some 16), none, .ld (some 10) (.t 5)⟩, 
  ⟨(some 17), none, .call 28 [(.t 16)]⟩, 
  ⟨(some 18), none, .ld (some 10) (.t 5)⟩, 
  ⟨none, none, .mpt true [.s, .s, (.i .i64)] (.t 15) (.t 17) (.t 18)⟩])))
  (.reg [⟨(some 19), none, .bin .add false (.t 11) (.k (.sc (.int .i64 1))) (pu (.binOp .add 3 (.tmp 11) (.const (.int .i64 1)) 3) 3)⟩, 
  ⟨(some 11), none, .mv (.t 19)⟩])))))))
 (.seq (.reg [⟨(some 20), none, .mv (.t 3)⟩, 
 ⟨(some 2), none, .mv (.t 20)⟩])
 .ret))))
def k35 : List Nat := [0, 2, 3, 5, 9, 10, 11, 12]
theorem ic35 : factsI Try.prog 35 = some (21, [.tmp 2], c35) := by kernel_rfl

-- chargenet/event.Same (73 slots)
def c36 : IC :=
 (.seq (.reg [⟨(some 2), none, .bx (.t 0)⟩, 
 ⟨(some 3), none, .bx (.t 1)⟩, 
 ⟨(some 4), none, .mv (.k (.sc (.bool false)))⟩])
 (.seq (.reg [⟨(some 5), none, .sh 0 (.t 2)⟩, 
 ⟨(some 6), none, .ld none (.t 5)⟩, 
 ⟨(some 7), none, .sh 0 (.t 3)⟩, 
 ⟨(some 8), none, .ld none (.t 7)⟩, 
 ⟨(some 9), none, .bin .eql false (.t 6) (.t 8) (pu (.binOp .eql 9 (.tmp 6) (.tmp 8) 9) 4)⟩, 
 ⟨(some 10), none, .mv (.t 9)⟩, 
 ⟨(some 11), (some ((some 10), true)), .sh 1 (.t 2)⟩, 
 ⟨(some 12), (some ((some 10), true)), .ld none (.t 11)⟩, 
 ⟨(some 13), (some ((some 10), true)), .sh 1 (.t 3)⟩, 
 ⟨(some 14), (some ((some 10), true)), .ld none (.t 13)⟩, 
 ⟨(some 15), (some ((some 10), true)), .bin .eql false (.t 12) (.t 14) (pu (.binOp .eql 9 (.tmp 12) (.tmp 14) 9) 4)⟩, 
 ⟨(some 16), none, .pick (.t 10) (.t 15) (.k (.sc (.bool false)))⟩, 
 ⟨(some 17), none, .mv (.t 16)⟩, 
 ⟨(some 18), (some ((some 17), true)), .sh 2 (.t 2)⟩, 
 ⟨(some 19), (some ((some 17), true)), .ld none (.t 18)⟩, 
 ⟨(some 20), (some ((some 17), true)), .sh 2 (.t 3)⟩, 
 ⟨(some 21), (some ((some 17), true)), .ld none (.t 20)⟩, 
 ⟨(some 22), (some ((some 17), true)), .bin .eql false (.t 19) (.t 21) (pu (.binOp .eql 3 (.tmp 19) (.tmp 21) 3) 4)⟩, 
 ⟨(some 23), none, .pick (.t 17) (.t 22) (.k (.sc (.bool false)))⟩, 
 ⟨(some 24), none, .mv (.t 23)⟩, 
 ⟨(some 25), (some ((some 24), true)), .sh 3 (.t 2)⟩, 
 ⟨(some 26), (some ((some 24), true)), .ld none (.t 25)⟩, 
 ⟨(some 27), (some ((some 24), true)), .sh 3 (.t 3)⟩, 
 ⟨(some 28), (some ((some 24), true)), .ld none (.t 27)⟩, 
 ⟨(some 29), (some ((some 24), true)), .bin .eql false (.t 26) (.t 28) (pu (.binOp .eql 3 (.tmp 26) (.tmp 28) 3) 4)⟩, 
 ⟨(some 30), none, .pick (.t 24) (.t 29) (.k (.sc (.bool false)))⟩, 
 ⟨(some 31), none, .mv (.t 30)⟩, 
 ⟨(some 32), (some ((some 31), true)), .sh 4 (.t 2)⟩, 
 ⟨(some 33), (some ((some 31), true)), .ld none (.t 32)⟩, 
 ⟨(some 34), (some ((some 31), true)), .sh 4 (.t 3)⟩, 
 ⟨(some 35), (some ((some 31), true)), .ld none (.t 34)⟩, 
 ⟨(some 36), (some ((some 31), true)), .bin .eql false (.t 33) (.t 35) (pu (.binOp .eql 3 (.tmp 33) (.tmp 35) 3) 4)⟩, 
 ⟨(some 37), none, .pick (.t 31) (.t 36) (.k (.sc (.bool false)))⟩, 
 ⟨(some 38), none, .mv (.t 37)⟩, 
 ⟨(some 39), (some ((some 38), true)), .sh 5 (.t 2)⟩, 
 ⟨(some 40), (some ((some 38), true)), .ld none (.t 39)⟩, 
 ⟨(some 41), (some ((some 38), true)), .sh 5 (.t 3)⟩, 
 ⟨(some 42), (some ((some 38), true)), .ld none (.t 41)⟩, 
 ⟨(some 43), (some ((some 38), true)), .bin .eql false (.t 40) (.t 42) (pu (.binOp .eql 3 (.tmp 40) (.tmp 42) 3) 4)⟩, 
 ⟨(some 44), none, .pick (.t 38) (.t 43) (.k (.sc (.bool false)))⟩, 
 ⟨(some 45), none, .mv (.t 44)⟩, 
 ⟨(some 46), (some ((some 45), true)), .sh 6 (.t 2)⟩, 
 ⟨(some 47), (some ((some 45), true)), .ld none (.t 46)⟩, 
 ⟨(some 48), (some ((some 45), true)), .sh 6 (.t 3)⟩, 
 ⟨(some 49), (some ((some 45), true)), .ld none (.t 48)⟩, 
 ⟨(some 50), (some ((some 45), true)), .bin .eql false (.t 47) (.t 49) (pu (.binOp .eql 9 (.tmp 47) (.tmp 49) 9) 4)⟩, 
 ⟨(some 51), none, .pick (.t 45) (.t 50) (.k (.sc (.bool false)))⟩, 
 ⟨(some 52), none, .mv (.t 51)⟩, 
 ⟨(some 53), (some ((some 52), true)), .sh 7 (.t 2)⟩, 
 ⟨(some 54), (some ((some 52), true)), .ld none (.t 53)⟩, 
 ⟨(some 55), (some ((some 52), true)), .sh 7 (.t 3)⟩, 
 ⟨(some 56), (some ((some 52), true)), .ld none (.t 55)⟩, 
 ⟨(some 57), (some ((some 52), true)), .bin .eql true (.t 54) (.t 56) (pu (.binOp .eql 4 (.tmp 54) (.tmp 56) 4) 4)⟩, 
 ⟨(some 58), none, .pick (.t 52) (.t 57) (.k (.sc (.bool false)))⟩, 
 ⟨(some 59), none, .mv (.t 58)⟩, 
 ⟨(some 60), (some ((some 59), true)), .sh 8 (.t 2)⟩, 
 ⟨(some 61), (some ((some 59), true)), .ld none (.t 60)⟩, 
 ⟨(some 62), (some ((some 59), true)), .sh 8 (.t 3)⟩, 
 ⟨(some 63), (some ((some 59), true)), .ld none (.t 62)⟩, 
 ⟨(some 64), (some ((some 59), true)), .bin .eql false (.t 61) (.t 63) (pu (.binOp .eql 3 (.tmp 61) (.tmp 63) 3) 4)⟩, 
 ⟨(some 65), none, .pick (.t 59) (.t 64) (.k (.sc (.bool false)))⟩, 
 ⟨(some 66), none, .mv (.t 65)⟩, 
 ⟨(some 67), (some ((some 66), true)), .sh 9 (.t 2)⟩, 
 ⟨(some 68), (some ((some 66), true)), .ld none (.t 67)⟩, 
 ⟨(some 69), (some ((some 66), true)), .sh 9 (.t 3)⟩, 
 ⟨(some 70), (some ((some 66), true)), .ld none (.t 69)⟩, 
 ⟨(some 71), (some ((some 66), true)), .call 52 [(.t 68), (.t 70)]⟩, 
 ⟨(some 72), none, .pick (.t 66) (.t 71) (.k (.sc (.bool false)))⟩, 
 ⟨(some 4), none, .mv (.t 72)⟩])
 .ret))
def k36 : List Nat := [0, 1, 2, 3, 4]
theorem ic36 : factsI Try.prog 36 = some (73, [.tmp 4], c36) := by kernel_rfl

-- chargenet/intake.copyTo (52 slots)
def c37 : IC :=
 (.seq (.reg [⟨(some 4), none, .mv (.k (.sc (.slice none 0 0)))⟩])
 (.seq (.reg [⟨(some 5), none, .mv (.k (.sc (.int .i64 0)))⟩])
 (.seq (.seq (.reg [⟨(some 12), none, .mv (.t 1)⟩, 
 ⟨(some 13), none, .len (.t 12) (pu (.call ⟨.builtin .len, #[(.tmp 12)], #[22]⟩) 3)⟩, 
 ⟨(some 14), none, .mv (.k (.sc (.int .i64 0)))⟩])
 (.block 0 (.loop (.seq (.reg [⟨(some 15), none, .bin .lss false (.t 14) (.t 13) (pu (.binOp .lss 3 (.tmp 14) (.tmp 13) 3) 0)⟩])
  (.seq (.cond (.t 15) .skip
  (.exit 0))
  (.seq (.block 1 (.seq (.reg [⟨(some 16), none, .ixs 10 (.t 12) (.t 14)⟩, 
  ⟨(some 17), none, .ld (some 10) (.t 16)⟩, 
  ⟨(some 7), none, .al (.agg [(.sc (.string ⟨#[]⟩)), (.sc (.string ⟨#[]⟩)), (.sc (.int .i64 0)), (.sc (.int .i64 0)), (.sc (.int .i64 0)), (.sc (.int .i64 0)), (.sc (.string ⟨#[]⟩)), (.sc (.bool false)), (.sc (.int .i64 0)), (.sc (.slice none 0 0))]) 10⟩, 
  ⟨none, none, .st 10 (.t 7) (.t 17)⟩])
  (.reg [⟨(some 18), none, .mv (.t 5)⟩, 
  ⟨(some 19), none, .sh 9 (.t 7)⟩, 
  ⟨(some 20), none, .ld none (.t 19)⟩, 
  ⟨(some 21), none, .len (.t 20) (pu (.call ⟨.builtin .len, #[(.tmp 20)], #[27]⟩) 3)⟩, 
  ⟨(some 22), none, .bin .add false (.t 18) (.t 21) (pu (.binOp .add 3 (.tmp 18) (.tmp 21) 3) 3)⟩, 
  ⟨(some 5), none, .mv (.t 22)⟩])))
  (.reg [⟨(some 23), none, .bin .add false (.t 14) (.k (.sc (.int .i64 1))) (pu (.binOp .add 3 (.tmp 14) (.const (.int .i64 1)) 3) 3)⟩, 
  ⟨(some 14), none, .mv (.t 23)⟩])))))))
 (.seq (.reg [⟨(some 24), none, .mv (.t 5)⟩, 
 ⟨(some 25), none, .mks 2 16 (.agg [(.sc (.int .i64 0)), (.sc (.int .i64 0))]) (.k (.sc (.int .i64 0))) (.t 24)⟩, 
 ⟨(some 8), none, .mv (.t 25)⟩])
 (.seq (.seq (.reg [⟨(some 26), none, .mv (.t 1)⟩, 
 ⟨(some 27), none, .len (.t 26) (pu (.call ⟨.builtin .len, #[(.tmp 26)], #[22]⟩) 3)⟩, 
 ⟨(some 28), none, .mv (.k (.sc (.int .i64 0)))⟩])
 (.block 2 (.loop (.seq (.reg [⟨(some 29), none, .bin .lss false (.t 28) (.t 27) (pu (.binOp .lss 3 (.tmp 28) (.tmp 27) 3) 0)⟩])
  (.seq (.cond (.t 29) .skip
  (.exit 2))
  (.seq (.block 3 (.seq (.reg [⟨(some 30), none, .ixs 10 (.t 26) (.t 28)⟩, 
  ⟨(some 31), none, .ld (some 10) (.t 30)⟩, 
  ⟨(some 10), none, .al (.agg [(.sc (.string ⟨#[]⟩)), (.sc (.string ⟨#[]⟩)), (.sc (.int .i64 0)), (.sc (.int .i64 0)), (.sc (.int .i64 0)), (.sc (.int .i64 0)), (.sc (.string ⟨#[]⟩)), (.sc (.bool false)), (.sc (.int .i64 0)), (.sc (.slice none 0 0))]) 10⟩, 
  ⟨none, none, .st 10 (.t 10) (.t 31)⟩])
  (.seq (.reg [⟨(some 32), none, .mv (.t 8)⟩, 
  ⟨(some 33), none, .len (.t 32) (pu (.call ⟨.builtin .len, #[(.tmp 32)], #[27]⟩) 3)⟩, 
  ⟨(some 11), none, .mv (.t 33)⟩])
  (.seq (.reg [⟨(some 34), none, .mv (.t 8)⟩, 
  ⟨(some 35), none, .sh 9 (.t 10)⟩, 
  ⟨(some 36), none, .ld none (.t 35)⟩, 
  ⟨(some 37), none, .app 2 16 (.t 34) (.t 36)⟩, 
  ⟨(some 8), none, .mv (.t 37)⟩])
  (.seq (.reg [⟨(some 38), none, .mv (.t 8)⟩, 
  ⟨(some 39), none, .mv (.t 11)⟩, 
  ⟨(some 40), none, .mv (.t 8)⟩, 
  ⟨(some 41), none, .len (.t 40) (pu (.call ⟨.builtin .len, #[(.tmp 40)], #[27]⟩) 3)⟩, 
  ⟨(some 42), none, .mv (.t 8)⟩, 
  ⟨(some 43), none, .len (.t 42) (pu (.call ⟨.builtin .len, #[(.tmp 42)], #[27]⟩) 3)⟩, 
  ⟨(some 44), none, .sl 2 (.t 38) (some (.t 39)) (some (.t 41)) (some (.t 43)) (pu (.slice 27 (.tmp 38) (some (.tmp 39)) (some (.tmp 41)) (some (.tmp 43))) 27)⟩, 
  ⟨(some 45), none, .sh 9 (.t 10)⟩, 
  ⟨none, none, .st 1 (.t 45) (.t 44)⟩])
  (.reg [⟨(some 46), none, .mv (.t 0)⟩, 
  ⟨(some 47), none, .ld (some 10) (.t 10)⟩, 
  ⟨(some 48), none, .bsl 10 1 true [(.sc (.string ⟨#[]⟩)), (.sc (.string ⟨#[]⟩)), (.sc (.int .i64 0)), (.sc (.int .i64 0)), (.sc (.int .i64 0)), (.sc (.int .i64 0)), (.sc (.string ⟨#[]⟩)), (.sc (.bool false)), (.sc (.int .i64 0)), (.sc (.slice none 0 0))] [(0, 10, (.t 47))]⟩, 
  ⟨(some 49), none, .app 10 120 (.t 46) (.t 48)⟩, 
  ⟨(some 0), none, .mv (.t 49)⟩]))))))
  (.reg [⟨(some 50), none, .bin .add false (.t 28) (.k (.sc (.int .i64 1))) (pu (.binOp .add 3 (.tmp 28) (.const (.int .i64 1)) 3) 3)⟩, 
  ⟨(some 28), none, .mv (.t 50)⟩])))))))
 (.seq (.reg [⟨(some 51), none, .mv (.t 0)⟩, 
 ⟨(some 4), none, .mv (.t 51)⟩])
 .ret))))))
def k37 : List Nat := [0, 1, 4, 5, 7, 8, 10, 11, 12, 13, 14, 15, 26, 27, 28, 29]
theorem ic37 : factsI Try.prog 37 = some (52, [.tmp 4], c37) := by kernel_rfl

-- chargenet/chargenetref36.One (17 slots)
def c38 : IC :=
 (.seq (.reg [⟨(some 2), none, .bx (.t 0)⟩, 
 ⟨(some 3), none, .bx (.t 1)⟩, 
 ⟨(some 4), none, .mv (.k (.sc (.bool false)))⟩])
 (.seq (.reg [⟨(some 5), none, .sh 0 (.t 2)⟩, 
 ⟨(some 6), none, .ld none (.t 5)⟩, 
 ⟨(some 7), none, .sh 0 (.t 3)⟩, 
 ⟨(some 8), none, .ld none (.t 7)⟩, 
 ⟨(some 9), none, .bin .eql false (.t 6) (.t 8) (pu (.binOp .eql 9 (.tmp 6) (.tmp 8) 9) 4)⟩, 
 ⟨(some 10), none, .mv (.t 9)⟩, 
 ⟨(some 11), (some ((some 10), true)), .sh 1 (.t 2)⟩, 
 ⟨(some 12), (some ((some 10), true)), .ld none (.t 11)⟩, 
 ⟨(some 13), (some ((some 10), true)), .sh 1 (.t 3)⟩, 
 ⟨(some 14), (some ((some 10), true)), .ld none (.t 13)⟩, 
 ⟨(some 15), (some ((some 10), true)), .bin .eql false (.t 12) (.t 14) (pu (.binOp .eql 9 (.tmp 12) (.tmp 14) 9) 4)⟩, 
 ⟨(some 16), none, .pick (.t 10) (.t 15) (.k (.sc (.bool false)))⟩, 
 ⟨(some 4), none, .mv (.t 16)⟩])
 .ret))
def k38 : List Nat := [0, 1, 2, 3, 4]
theorem ic38 : factsI Try.prog 38 = some (17, [.tmp 4], c38) := by kernel_rfl

-- chargenet/chargenetref30.Same (71 slots)
def c39 : IC :=
 (.seq (.reg [⟨(some 2), none, .bx (.t 0)⟩, 
 ⟨(some 3), none, .bx (.t 1)⟩, 
 ⟨(some 4), none, .mv (.k (.sc (.bool false)))⟩])
 (.seq (.seq (.reg [⟨(some 5), none, .sh 0 (.t 2)⟩, 
 ⟨(some 6), none, .ld none (.t 5)⟩, 
 ⟨(some 7), none, .sh 0 (.t 3)⟩, 
 ⟨(some 8), none, .ld none (.t 7)⟩, 
 ⟨(some 9), none, .bin .neq false (.t 6) (.t 8) (pu (.binOp .neq 9 (.tmp 6) (.tmp 8) 9) 4)⟩, 
 ⟨(some 10), none, .mv (.t 9)⟩, 
 ⟨(some 11), (some ((some 10), false)), .sh 1 (.t 2)⟩, 
 ⟨(some 12), (some ((some 10), false)), .ld none (.t 11)⟩, 
 ⟨(some 13), (some ((some 10), false)), .sh 1 (.t 3)⟩, 
 ⟨(some 14), (some ((some 10), false)), .ld none (.t 13)⟩, 
 ⟨(some 15), (some ((some 10), false)), .bin .neq false (.t 12) (.t 14) (pu (.binOp .neq 9 (.tmp 12) (.tmp 14) 9) 4)⟩, 
 ⟨(some 16), none, .pick (.t 10) (.k (.sc (.bool true))) (.t 15)⟩, 
 ⟨(some 17), none, .mv (.t 16)⟩, 
 ⟨(some 18), (some ((some 17), false)), .sh 2 (.t 2)⟩, 
 ⟨(some 19), (some ((some 17), false)), .ld none (.t 18)⟩, 
 ⟨(some 20), (some ((some 17), false)), .sh 2 (.t 3)⟩, 
 ⟨(some 21), (some ((some 17), false)), .ld none (.t 20)⟩, 
 ⟨(some 22), (some ((some 17), false)), .bin .neq false (.t 19) (.t 21) (pu (.binOp .neq 3 (.tmp 19) (.tmp 21) 3) 4)⟩, 
 ⟨(some 23), none, .pick (.t 17) (.k (.sc (.bool true))) (.t 22)⟩, 
 ⟨(some 24), none, .mv (.t 23)⟩, 
 ⟨(some 25), (some ((some 24), false)), .sh 3 (.t 2)⟩, 
 ⟨(some 26), (some ((some 24), false)), .ld none (.t 25)⟩, 
 ⟨(some 27), (some ((some 24), false)), .sh 3 (.t 3)⟩, 
 ⟨(some 28), (some ((some 24), false)), .ld none (.t 27)⟩, 
 ⟨(some 29), (some ((some 24), false)), .bin .neq false (.t 26) (.t 28) (pu (.binOp .neq 3 (.tmp 26) (.tmp 28) 3) 4)⟩, 
 ⟨(some 30), none, .pick (.t 24) (.k (.sc (.bool true))) (.t 29)⟩, 
 ⟨(some 31), none, .mv (.t 30)⟩, 
 ⟨(some 32), (some ((some 31), false)), .sh 4 (.t 2)⟩, 
 ⟨(some 33), (some ((some 31), false)), .ld none (.t 32)⟩, 
 ⟨(some 34), (some ((some 31), false)), .sh 4 (.t 3)⟩, 
 ⟨(some 35), (some ((some 31), false)), .ld none (.t 34)⟩, 
 ⟨(some 36), (some ((some 31), false)), .bin .neq false (.t 33) (.t 35) (pu (.binOp .neq 3 (.tmp 33) (.tmp 35) 3) 4)⟩, 
 ⟨(some 37), none, .pick (.t 31) (.k (.sc (.bool true))) (.t 36)⟩, 
 ⟨(some 38), none, .mv (.t 37)⟩, 
 ⟨(some 39), (some ((some 38), false)), .sh 5 (.t 2)⟩, 
 ⟨(some 40), (some ((some 38), false)), .ld none (.t 39)⟩, 
 ⟨(some 41), (some ((some 38), false)), .sh 5 (.t 3)⟩, 
 ⟨(some 42), (some ((some 38), false)), .ld none (.t 41)⟩, 
 ⟨(some 43), (some ((some 38), false)), .bin .neq false (.t 40) (.t 42) (pu (.binOp .neq 3 (.tmp 40) (.tmp 42) 3) 4)⟩, 
 ⟨(some 44), none, .pick (.t 38) (.k (.sc (.bool true))) (.t 43)⟩])
 (.cond (.t 44) (.seq (.reg [⟨(some 4), none, .mv (.k (.sc (.bool false)))⟩])
  .ret)
 .skip))
 (.seq (.reg [⟨(some 45), none, .sh 6 (.t 2)⟩, 
 ⟨(some 46), none, .ld none (.t 45)⟩, 
 ⟨(some 47), none, .sh 6 (.t 3)⟩, 
 ⟨(some 48), none, .ld none (.t 47)⟩, 
 ⟨(some 49), none, .bin .eql false (.t 46) (.t 48) (pu (.binOp .eql 9 (.tmp 46) (.tmp 48) 9) 4)⟩, 
 ⟨(some 50), none, .mv (.t 49)⟩, 
 ⟨(some 51), (some ((some 50), true)), .sh 7 (.t 2)⟩, 
 ⟨(some 52), (some ((some 50), true)), .ld none (.t 51)⟩, 
 ⟨(some 53), (some ((some 50), true)), .sh 7 (.t 3)⟩, 
 ⟨(some 54), (some ((some 50), true)), .ld none (.t 53)⟩, 
 ⟨(some 55), (some ((some 50), true)), .bin .eql true (.t 52) (.t 54) (pu (.binOp .eql 4 (.tmp 52) (.tmp 54) 4) 4)⟩, 
 ⟨(some 56), none, .pick (.t 50) (.t 55) (.k (.sc (.bool false)))⟩, 
 ⟨(some 57), none, .mv (.t 56)⟩, 
 ⟨(some 58), (some ((some 57), true)), .sh 8 (.t 2)⟩, 
 ⟨(some 59), (some ((some 57), true)), .ld none (.t 58)⟩, 
 ⟨(some 60), (some ((some 57), true)), .sh 8 (.t 3)⟩, 
 ⟨(some 61), (some ((some 57), true)), .ld none (.t 60)⟩, 
 ⟨(some 62), (some ((some 57), true)), .bin .eql false (.t 59) (.t 61) (pu (.binOp .eql 3 (.tmp 59) (.tmp 61) 3) 4)⟩, 
 ⟨(some 63), none, .pick (.t 57) (.t 62) (.k (.sc (.bool false)))⟩, 
 ⟨(some 64), none, .mv (.t 63)⟩, 
 ⟨(some 65), (some ((some 64), true)), .sh 9 (.t 2)⟩, 
 ⟨(some 66), (some ((some 64), true)), .ld none (.t 65)⟩, 
 ⟨(some 67), (some ((some 64), true)), .sh 9 (.t 3)⟩, 
 ⟨(some 68), (some ((some 64), true)), .ld none (.t 67)⟩, 
 ⟨(some 69), (some ((some 64), true)), .call 53 [(.t 66), (.t 68)]⟩, 
 ⟨(some 70), none, .pick (.t 64) (.t 69) (.k (.sc (.bool false)))⟩, 
 ⟨(some 4), none, .mv (.t 70)⟩])
 .ret)))
def k39 : List Nat := [0, 1, 2, 3, 4, 44]
theorem ic39 : factsI Try.prog 39 = some (71, [.tmp 4], c39) := by kernel_rfl

-- chargenet/ident.Valid (28 slots)
def c40 : IC :=
 (.seq (.reg [⟨(some 2), none, .mv (.k (.sc (.bool false)))⟩])
 (.seq (.seq (.reg [⟨(some 5), none, .mv (.t 0)⟩, 
 ⟨(some 6), none, .lens (.t 5) (pu (.call ⟨.builtin .len, #[(.tmp 5)], #[9]⟩) 3)⟩, 
 ⟨(some 7), none, .bin .lss false (.t 6) (.k (.sc (.int .i64 1))) (pu (.binOp .lss 3 (.tmp 6) (.const (.int .i64 1)) 3) 4)⟩, 
 ⟨(some 8), none, .mv (.t 7)⟩, 
 ⟨(some 9), (some ((some 8), false)), .mv (.t 0)⟩, 
 ⟨(some 10), (some ((some 8), false)), .lens (.t 9) (pu (.call ⟨.builtin .len, #[(.tmp 9)], #[9]⟩) 3)⟩, 
 ⟨(some 11), (some ((some 8), false)), .bin .gtr false (.t 10) (.k (.sc (.int .i64 36))) (pu (.binOp .gtr 3 (.tmp 10) (.const (.int .i64 36)) 3) 4)⟩, 
 ⟨(some 12), none, .pick (.t 8) (.k (.sc (.bool true))) (.t 11)⟩])
 (.cond (.t 12) (.seq (.reg [⟨(some 2), none, .mv (.k (.sc (.bool false)))⟩])
  .ret)
 .skip))
 (.seq (.seq (.reg [⟨(some 13), none, .mv (.t 0)⟩, 
 ⟨(some 14), none, .rng (.t 13)⟩])
 (.block 0 (.loop (.seq (.reg [⟨(some 15), none, .nxt (.t 14)⟩, 
  ⟨(some 16), none, .ext (.t 15) 0⟩])
  (.seq (.cond (.t 16) .skip
  (.exit 0))
  (.block 1 (.seq (.reg [⟨(some 17), none, .ext (.t 15) 2⟩, 
  ⟨(some 4), none, .mv (.t 17)⟩])
  (.seq (.seq (.reg [⟨(some 18), none, .mv (.t 4)⟩])
  (.block 2 (.seq (.seq (.reg [⟨(some 20), none, .bin .eql false (.t 18) (.k (.sc (.int .i32 45))) (pu (.binOp .eql 21 (.tmp 18) (.const (.int .i32 45)) 21) 4)⟩, 
  ⟨(some 19), none, .mv (.t 20)⟩])
  (.cond (.t 19) .skip
  (.seq (.reg [⟨(some 21), none, .bin .eql false (.t 18) (.k (.sc (.int .i32 95))) (pu (.binOp .eql 21 (.tmp 18) (.const (.int .i32 95)) 21) 4)⟩, 
   ⟨(some 19), none, .mv (.t 21)⟩])
   (.cond (.t 19) .skip
   (.seq (.reg [⟨(some 22), none, .bin .eql false (.t 18) (.k (.sc (.int .i32 46))) (pu (.binOp .eql 21 (.tmp 18) (.const (.int .i32 46)) 21) 4)⟩, 
    ⟨(some 19), none, .mv (.t 22)⟩])
    (.cond (.t 19) .skip
    (.seq (.reg [⟨(some 23), none, .bin .eql false (.t 18) (.k (.sc (.int .i32 58))) (pu (.binOp .eql 21 (.tmp 18) (.const (.int .i32 58)) 21) 4)⟩, 
     ⟨(some 19), none, .mv (.t 23)⟩])
     (.cond (.t 19) .skip
     (.reg [⟨(some 24), none, .bin .eql false (.t 18) (.k (.sc (.int .i32 42))) (pu (.binOp .eql 21 (.tmp 18) (.const (.int .i32 42)) 21) 4)⟩, 
      ⟨(some 19), none, .mv (.t 24)⟩])))))))))
  (.cond (.t 19) (.exit 1)
  .skip))))
  (.seq (.reg [⟨(some 25), none, .mv (.t 4)⟩, 
  ⟨(some 26), none, .call 54 [(.t 25)]⟩, 
  ⟨(some 27), none, .bin .lss false (.t 26) (.k (.sc (.int .i64 0))) (pu (.binOp .lss 3 (.tmp 26) (.const (.int .i64 0)) 3) 4)⟩])
  (.cond (.t 27) (.seq (.reg [⟨(some 2), none, .mv (.k (.sc (.bool false)))⟩])
   .ret)
  .skip))))))))))
 (.seq (.reg [⟨(some 2), none, .mv (.k (.sc (.bool true)))⟩])
 .ret))))
def k40 : List Nat := [0, 2, 4, 12, 14, 15, 16, 18, 19, 27]
theorem ic40 : factsI Try.prog 40 = some (28, [.tmp 2], c40) := by kernel_rfl

-- chargenet/event.validKind (49 slots)
def c41 : IC :=
 (.seq (.reg [⟨(some 1), none, .bx (.t 0)⟩, 
 ⟨(some 2), none, .mv (.k (.sc (.int .i64 0)))⟩])
 (.seq (.seq (.reg [⟨(some 3), none, .sh 4 (.t 1)⟩, 
 ⟨(some 4), none, .ld none (.t 3)⟩])
 (.block 0 (.seq (.block 3 (.seq (.block 2 (.seq (.block 1 (.seq (.seq (.seq (.reg [⟨(some 6), none, .bin .eql false (.t 4) (.k (.sc (.int .i64 1))) (pu (.binOp .eql 3 (.tmp 4) (.const (.int .i64 1)) 3) 4)⟩, 
 ⟨(some 5), none, .mv (.t 6)⟩])
 (.cond (.t 5) (.exit 1)
 .skip))
 (.seq (.seq (.reg [⟨(some 8), none, .bin .eql false (.t 4) (.k (.sc (.int .i64 3))) (pu (.binOp .eql 3 (.tmp 4) (.const (.int .i64 3)) 3) 4)⟩, 
 ⟨(some 7), none, .mv (.t 8)⟩])
 (.cond (.t 7) (.exit 2)
 .skip))
 (.seq (.reg [⟨(some 10), none, .bin .eql false (.t 4) (.k (.sc (.int .i64 2))) (pu (.binOp .eql 3 (.tmp 4) (.const (.int .i64 2)) 3) 4)⟩, 
 ⟨(some 9), none, .mv (.t 10)⟩])
 (.cond (.t 9) (.exit 3)
 .skip))))
 (.exit 0)))
 (.seq (.seq (.seq (.reg [⟨(some 11), none, .sh 3 (.t 1)⟩, 
 ⟨(some 12), none, .ld none (.t 11)⟩, 
 ⟨(some 13), none, .bin .neq false (.t 12) (.k (.sc (.int .i64 0))) (pu (.binOp .neq 3 (.tmp 12) (.const (.int .i64 0)) 3) 4)⟩, 
 ⟨(some 14), none, .mv (.t 13)⟩, 
 ⟨(some 15), (some ((some 14), false)), .sh 8 (.t 1)⟩, 
 ⟨(some 16), (some ((some 14), false)), .ld none (.t 15)⟩, 
 ⟨(some 17), (some ((some 14), false)), .bin .neq false (.t 16) (.k (.sc (.int .i64 0))) (pu (.binOp .neq 3 (.tmp 16) (.const (.int .i64 0)) 3) 4)⟩, 
 ⟨(some 18), none, .pick (.t 14) (.k (.sc (.bool true))) (.t 17)⟩])
 (.cond (.t 18) (.seq (.reg [⟨(some 2), none, .mv (.k (.sc (.int .i64 1)))⟩])
  .ret)
 .skip))
 (.seq (.seq (.reg [⟨(some 19), none, .sh 6 (.t 1)⟩, 
 ⟨(some 20), none, .ld none (.t 19)⟩, 
 ⟨(some 21), none, .call 40 [(.t 20)]⟩, 
 ⟨(some 22), none, .un .not (.t 21) (pu (.unOp .not 4 (.tmp 21)) 4)⟩])
 (.cond (.t 22) (.seq (.reg [⟨(some 2), none, .mv (.k (.sc (.int .i64 4)))⟩])
  .ret)
 .skip))
 (.seq (.reg [⟨(some 2), none, .mv (.k (.sc (.int .i64 0)))⟩])
 .ret)))
 (.exit 0))))
 (.seq (.reg [⟨(some 23), none, .sh 8 (.t 1)⟩, 
 ⟨(some 24), none, .ld none (.t 23)⟩, 
 ⟨(some 25), none, .bin .lss false (.t 24) (.k (.sc (.int .i64 1))) (pu (.binOp .lss 3 (.tmp 24) (.const (.int .i64 1)) 3) 4)⟩, 
 ⟨(some 26), none, .mv (.t 25)⟩, 
 ⟨(some 27), (some ((some 26), false)), .sh 8 (.t 1)⟩, 
 ⟨(some 28), (some ((some 26), false)), .ld none (.t 27)⟩, 
 ⟨(some 29), (some ((some 26), false)), .bin .gtr false (.t 28) (.k (.sc (.int .i64 6))) (pu (.binOp .gtr 3 (.tmp 28) (.const (.int .i64 6)) 3) 4)⟩, 
 ⟨(some 30), none, .pick (.t 26) (.k (.sc (.bool true))) (.t 29)⟩])
 (.cond (.t 30) (.seq (.reg [⟨(some 2), none, .mv (.k (.sc (.int .i64 1)))⟩])
  .ret)
 .skip))))
 (.seq (.seq (.seq (.reg [⟨(some 31), none, .sh 4 (.t 1)⟩, 
 ⟨(some 32), none, .ld none (.t 31)⟩, 
 ⟨(some 33), none, .bin .eql false (.t 32) (.k (.sc (.int .i64 2))) (pu (.binOp .eql 3 (.tmp 32) (.const (.int .i64 2)) 3) 4)⟩, 
 ⟨(some 34), none, .mv (.t 33)⟩, 
 ⟨(some 35), (some ((some 34), true)), .sh 8 (.t 1)⟩, 
 ⟨(some 36), (some ((some 34), true)), .ld none (.t 35)⟩, 
 ⟨(some 37), (some ((some 34), true)), .bin .neq false (.t 36) (.k (.sc (.int .i64 0))) (pu (.binOp .neq 3 (.tmp 36) (.const (.int .i64 0)) 3) 4)⟩, 
 ⟨(some 38), none, .pick (.t 34) (.t 37) (.k (.sc (.bool false)))⟩, 
 ⟨(some 39), none, .mv (.t 38)⟩, 
 ⟨(some 40), (some ((some 39), false)), .sh 3 (.t 1)⟩, 
 ⟨(some 41), (some ((some 39), false)), .ld none (.t 40)⟩, 
 ⟨(some 42), (some ((some 39), false)), .bin .eql false (.t 41) (.k (.sc (.int .i64 0))) (pu (.binOp .eql 3 (.tmp 41) (.const (.int .i64 0)) 3) 4)⟩, 
 ⟨(some 43), none, .pick (.t 39) (.k (.sc (.bool true))) (.t 42)⟩, 
 ⟨(some 44), none, .mv (.t 43)⟩, 
 ⟨(some 45), (some ((some 44), false)), .sh 6 (.t 1)⟩, 
 ⟨(some 46), (some ((some 44), false)), .ld none (.t 45)⟩, 
 ⟨(some 47), (some ((some 44), false)), .bin .neq false (.t 46) (.k (.sc (.string ⟨#[]⟩))) (pu (.binOp .neq 9 (.tmp 46) (.const (.string ⟨#[]⟩)) 9) 4)⟩, 
 ⟨(some 48), none, .pick (.t 44) (.k (.sc (.bool true))) (.t 47)⟩])
 (.cond (.t 48) (.seq (.reg [⟨(some 2), none, .mv (.k (.sc (.int .i64 1)))⟩])
  .ret)
 .skip))
 (.seq (.reg [⟨(some 2), none, .mv (.k (.sc (.int .i64 0)))⟩])
 .ret))
 (.exit 0)))))
 (.seq (.reg [⟨(some 2), none, .mv (.k (.sc (.int .i64 1)))⟩])
 .ret)))
def k41 : List Nat := [0, 1, 2, 4, 5, 7, 9, 18, 22, 30, 48]
theorem ic41 : factsI Try.prog 41 = some (49, [.tmp 2], c41) := by kernel_rfl

-- chargenet/event.validReadings (66 slots)
def c42 : IC :=
 (.seq (.reg [⟨(some 1), none, .bx (.t 0)⟩, 
 ⟨(some 2), none, .mv (.k (.sc (.int .i64 0)))⟩])
 (.seq (.seq (.reg [⟨(some 5), none, .sh 9 (.t 1)⟩, 
 ⟨(some 6), none, .ld none (.t 5)⟩, 
 ⟨(some 7), none, .len (.t 6) (pu (.call ⟨.builtin .len, #[(.tmp 6)], #[27]⟩) 3)⟩, 
 ⟨(some 8), none, .bin .gtr false (.t 7) (.k (.sc (.int .i64 16))) (pu (.binOp .gtr 3 (.tmp 7) (.const (.int .i64 16)) 3) 4)⟩])
 (.cond (.t 8) (.seq (.reg [⟨(some 2), none, .mv (.k (.sc (.int .i64 3)))⟩])
  .ret)
 .skip))
 (.seq (.seq (.reg [⟨(some 9), none, .sh 9 (.t 1)⟩, 
 ⟨(some 10), none, .ld none (.t 9)⟩, 
 ⟨(some 11), none, .len (.t 10) (pu (.call ⟨.builtin .len, #[(.tmp 10)], #[27]⟩) 3)⟩, 
 ⟨(some 12), none, .bin .eql false (.t 11) (.k (.sc (.int .i64 0))) (pu (.binOp .eql 3 (.tmp 11) (.const (.int .i64 0)) 3) 4)⟩])
 (.cond (.t 12) (.seq (.reg [⟨(some 2), none, .mv (.k (.sc (.int .i64 1)))⟩])
  .ret)
 .skip))
 (.seq (.seq (.reg [⟨(some 13), none, .sh 9 (.t 1)⟩, 
 ⟨(some 14), none, .ld none (.t 13)⟩, 
 ⟨(some 15), none, .len (.t 14) (pu (.call ⟨.builtin .len, #[(.tmp 14)], #[27]⟩) 3)⟩, 
 ⟨(some 16), none, .mv (.k (.sc (.int .i64 0)))⟩])
 (.block 0 (.loop (.seq (.reg [⟨(some 17), none, .bin .lss false (.t 16) (.t 15) (pu (.binOp .lss 3 (.tmp 16) (.tmp 15) 3) 0)⟩])
  (.seq (.cond (.t 17) .skip
  (.exit 0))
  (.seq (.block 1 (.seq (.reg [⟨(some 18), none, .mv (.t 16)⟩, 
  ⟨(some 19), none, .ixs 2 (.t 14) (.t 16)⟩, 
  ⟨(some 20), none, .ld (some 2) (.t 19)⟩, 
  ⟨(some 4), none, .al (.agg [(.sc (.int .i64 0)), (.sc (.int .i64 0))]) 2⟩, 
  ⟨(some 3), none, .mv (.t 18)⟩, 
  ⟨none, none, .st 2 (.t 4) (.t 20)⟩])
  (.seq (.seq (.reg [⟨(some 21), none, .sh 0 (.t 4)⟩, 
  ⟨(some 22), none, .ld none (.t 21)⟩, 
  ⟨(some 23), none, .bin .lss false (.t 22) (.k (.sc (.int .i64 0))) (pu (.binOp .lss 3 (.tmp 22) (.const (.int .i64 0)) 3) 4)⟩, 
  ⟨(some 24), none, .mv (.t 23)⟩, 
  ⟨(some 25), (some ((some 24), false)), .sh 0 (.t 4)⟩, 
  ⟨(some 26), (some ((some 24), false)), .ld none (.t 25)⟩, 
  ⟨(some 27), (some ((some 24), false)), .bin .gtr false (.t 26) (.k (.sc (.int .i64 268435456))) (pu (.binOp .gtr 3 (.tmp 26) (.const (.int .i64 268435456)) 3) 4)⟩, 
  ⟨(some 28), none, .pick (.t 24) (.k (.sc (.bool true))) (.t 27)⟩, 
  ⟨(some 29), none, .mv (.t 28)⟩, 
  ⟨(some 30), (some ((some 29), false)), .sh 1 (.t 4)⟩, 
  ⟨(some 31), (some ((some 29), false)), .ld none (.t 30)⟩, 
  ⟨(some 32), (some ((some 29), false)), .bin .lss false (.t 31) (.k (.sc (.int .i64 0))) (pu (.binOp .lss 3 (.tmp 31) (.const (.int .i64 0)) 3) 4)⟩, 
  ⟨(some 33), none, .pick (.t 29) (.k (.sc (.bool true))) (.t 32)⟩, 
  ⟨(some 34), none, .mv (.t 33)⟩, 
  ⟨(some 35), (some ((some 34), false)), .sh 1 (.t 4)⟩, 
  ⟨(some 36), (some ((some 34), false)), .ld none (.t 35)⟩, 
  ⟨(some 37), (some ((some 34), false)), .bin .gtr false (.t 36) (.k (.sc (.int .i64 1099511627775))) (pu (.binOp .gtr 3 (.tmp 36) (.const (.int .i64 1099511627775)) 3) 4)⟩, 
  ⟨(some 38), none, .pick (.t 34) (.k (.sc (.bool true))) (.t 37)⟩])
  (.cond (.t 38) (.seq (.reg [⟨(some 2), none, .mv (.k (.sc (.int .i64 2)))⟩])
   .ret)
  .skip))
  (.seq (.drw [0, 1, 3, 7, 15, 7, 39, 7, 135, 487, 999, 2023, 4095, 8191] [⟨(some 39), none, .mv (.t 3)⟩, 
  ⟨(some 40), none, .bin .gtr false (.t 39) (.k (.sc (.int .i64 0))) (pu (.binOp .gtr 3 (.tmp 39) (.const (.int .i64 0)) 3) 4)⟩, 
  ⟨(some 41), none, .mv (.t 40)⟩, 
  ⟨(some 42), (some ((some 41), true)), .sh 0 (.t 4)⟩, 
  ⟨(some 43), (some ((some 41), true)), .ld none (.t 42)⟩, 
  ⟨(some 44), (some ((some 41), true)), .sh 9 (.t 1)⟩, 
  ⟨(some 45), (some ((some 41), true)), .ld none (.t 44)⟩, 
  ⟨(some 46), (some ((some 41), true)), .mv (.t 3)⟩, 
  ⟨(some 47), (some ((some 41), true)), .bin .sub false (.t 46) (.k (.sc (.int .i64 1))) (pu (.binOp .sub 3 (.tmp 46) (.const (.int .i64 1)) 3) 3)⟩, 
  ⟨(some 48), (some ((some 41), true)), .ixs 2 (.t 45) (.t 47)⟩, 
  ⟨(some 49), (some ((some 41), true)), .sh 0 (.t 48)⟩, 
  ⟨(some 50), (some ((some 41), true)), .ld none (.t 49)⟩, 
  ⟨(some 51), (some ((some 41), true)), .bin .leq false (.t 43) (.t 50) (pu (.binOp .leq 3 (.tmp 43) (.tmp 50) 3) 4)⟩, 
  ⟨(some 52), none, .pick (.t 41) (.t 51) (.k (.sc (.bool false)))⟩])
  (.cond (.t 52) (.seq (.reg [⟨(some 2), none, .mv (.k (.sc (.int .i64 1)))⟩])
   .ret)
  .skip)))))
  (.reg [⟨(some 53), none, .bin .add false (.t 16) (.k (.sc (.int .i64 1))) (pu (.binOp .add 3 (.tmp 16) (.const (.int .i64 1)) 3) 3)⟩, 
  ⟨(some 16), none, .mv (.t 53)⟩])))))))
 (.seq (.seq (.drw [0, 1, 0, 4, 12, 28, 63, 127, 255, 0, 512, 2047] [⟨(some 54), none, .sh 9 (.t 1)⟩, 
 ⟨(some 55), none, .ld none (.t 54)⟩, 
 ⟨(some 56), none, .sh 9 (.t 1)⟩, 
 ⟨(some 57), none, .ld none (.t 56)⟩, 
 ⟨(some 58), none, .len (.t 57) (pu (.call ⟨.builtin .len, #[(.tmp 57)], #[27]⟩) 3)⟩, 
 ⟨(some 59), none, .bin .sub false (.t 58) (.k (.sc (.int .i64 1))) (pu (.binOp .sub 3 (.tmp 58) (.const (.int .i64 1)) 3) 3)⟩, 
 ⟨(some 60), none, .ixs 2 (.t 55) (.t 59)⟩, 
 ⟨(some 61), none, .sh 0 (.t 60)⟩, 
 ⟨(some 62), none, .ld none (.t 61)⟩, 
 ⟨(some 63), none, .sh 5 (.t 1)⟩, 
 ⟨(some 64), none, .ld none (.t 63)⟩, 
 ⟨(some 65), none, .bin .neq false (.t 62) (.t 64) (pu (.binOp .neq 3 (.tmp 62) (.tmp 64) 3) 4)⟩])
 (.cond (.t 65) (.seq (.reg [⟨(some 2), none, .mv (.k (.sc (.int .i64 1)))⟩])
  .ret)
 .skip))
 (.seq (.reg [⟨(some 2), none, .mv (.k (.sc (.int .i64 0)))⟩])
 .ret))))))
def k42 : List Nat := [0, 1, 2, 3, 4, 8, 12, 14, 15, 16, 17, 38, 52, 65]
theorem ic42 : factsI Try.prog 42 = some (66, [.tmp 2], c42) := by kernel_rfl

-- cmp.Or[int] (18 slots)
def c43 : IC :=
 (.seq (.reg [⟨(some 2), none, .mv (.k (.sc (.int .i64 0)))⟩])
 (.seq (.reg [⟨(some 3), none, .mv (.k (.sc (.int .i64 0)))⟩])
 (.seq (.seq (.reg [⟨(some 6), none, .mv (.t 0)⟩, 
 ⟨(some 7), none, .len (.t 6) (pu (.call ⟨.builtin .len, #[(.tmp 6)], #[34]⟩) 3)⟩, 
 ⟨(some 8), none, .mv (.k (.sc (.int .i64 0)))⟩])
 (.block 0 (.loop (.seq (.reg [⟨(some 9), none, .bin .lss false (.t 8) (.t 7) (pu (.binOp .lss 3 (.tmp 8) (.tmp 7) 3) 0)⟩])
  (.seq (.cond (.t 9) .skip
  (.exit 0))
  (.seq (.block 1 (.seq (.reg [⟨(some 10), none, .ixs 1 (.t 6) (.t 8)⟩, 
  ⟨(some 11), none, .ld none (.t 10)⟩, 
  ⟨(some 5), none, .mv (.t 11)⟩])
  (.seq (.reg [⟨(some 12), none, .mv (.t 5)⟩, 
  ⟨(some 13), none, .mv (.t 3)⟩, 
  ⟨(some 14), none, .bin .neq false (.t 12) (.t 13) (pu (.binOp .neq 3 (.tmp 12) (.tmp 13) 3) 4)⟩])
  (.cond (.t 14) (.seq (.reg [⟨(some 15), none, .mv (.t 5)⟩, 
   ⟨(some 2), none, .mv (.t 15)⟩])
   .ret)
  .skip))))
  (.reg [⟨(some 16), none, .bin .add false (.t 8) (.k (.sc (.int .i64 1))) (pu (.binOp .add 3 (.tmp 8) (.const (.int .i64 1)) 3) 3)⟩, 
  ⟨(some 8), none, .mv (.t 16)⟩])))))))
 (.seq (.reg [⟨(some 17), none, .mv (.t 3)⟩, 
 ⟨(some 2), none, .mv (.t 17)⟩])
 .ret))))
def k43 : List Nat := [0, 2, 3, 5, 6, 7, 8, 9, 14]
theorem ic43 : factsI Try.prog 43 = some (18, [.tmp 2], c43) := by kernel_rfl

-- cmp.Compare[int] (20 slots)
def c44 : IC :=
 (.seq (.reg [⟨(some 4), none, .mv (.k (.sc (.int .i64 0)))⟩])
 (.seq (.reg [⟨(some 7), none, .mv (.t 0)⟩, 
 ⟨(some 8), none, .call 55 [(.t 7)]⟩, 
 ⟨(some 5), none, .mv (.t 8)⟩])
 (.seq (.reg [⟨(some 9), none, .mv (.t 1)⟩, 
 ⟨(some 10), none, .call 55 [(.t 9)]⟩, 
 ⟨(some 6), none, .mv (.t 10)⟩])
 (.seq (.seq (.reg [⟨(some 11), none, .mv (.t 5)⟩])
 (.cond (.t 11) (.seq (.seq (.reg [⟨(some 12), none, .mv (.t 6)⟩])
  (.cond (.t 12) (.seq (.reg [⟨(some 4), none, .mv (.k (.sc (.int .i64 0)))⟩])
   .ret)
  .skip))
  (.seq (.reg [⟨(some 4), none, .mv (.k (.sc (.int .i64 (-1))))⟩])
  .ret))
 .skip))
 (.seq (.seq (.reg [⟨(some 13), none, .mv (.t 6)⟩])
 (.cond (.t 13) (.seq (.reg [⟨(some 4), none, .mv (.k (.sc (.int .i64 1)))⟩])
  .ret)
 .skip))
 (.seq (.seq (.reg [⟨(some 14), none, .mv (.t 0)⟩, 
 ⟨(some 15), none, .mv (.t 1)⟩, 
 ⟨(some 16), none, .bin .lss false (.t 14) (.t 15) (pu (.binOp .lss 3 (.tmp 14) (.tmp 15) 3) 4)⟩])
 (.cond (.t 16) (.seq (.reg [⟨(some 4), none, .mv (.k (.sc (.int .i64 (-1))))⟩])
  .ret)
 .skip))
 (.seq (.seq (.reg [⟨(some 17), none, .mv (.t 0)⟩, 
 ⟨(some 18), none, .mv (.t 1)⟩, 
 ⟨(some 19), none, .bin .gtr false (.t 17) (.t 18) (pu (.binOp .gtr 3 (.tmp 17) (.tmp 18) 3) 4)⟩])
 (.cond (.t 19) (.seq (.reg [⟨(some 4), none, .mv (.k (.sc (.int .i64 1)))⟩])
  .ret)
 .skip))
 (.seq (.reg [⟨(some 4), none, .mv (.k (.sc (.int .i64 0)))⟩])
 .ret))))))))
def k44 : List Nat := [0, 1, 4, 5, 6, 11, 12, 13, 16, 19]
theorem ic44 : factsI Try.prog 44 = some (20, [.tmp 4], c44) := by kernel_rfl

-- strings.Compare (8 slots)
def c45 : IC :=
 (.seq (.reg [⟨(some 4), none, .mv (.k (.sc (.int .i64 0)))⟩])
 (.seq (.reg [⟨(some 5), none, .mv (.t 0)⟩, 
 ⟨(some 6), none, .mv (.t 1)⟩, 
 ⟨(some 7), none, .call 56 [(.t 5), (.t 6)]⟩, 
 ⟨(some 4), none, .mv (.t 7)⟩])
 .ret))
def k45 : List Nat := [0, 1, 4]
theorem ic45 : factsI Try.prog 45 = some (8, [.tmp 4], c45) := by kernel_rfl

-- chargenet/chargenetref01.Valid (45 slots)
def c46 : IC :=
 (.seq (.reg [⟨(some 2), none, .mv (.k (.sc (.bool false)))⟩])
 (.seq (.seq (.reg [⟨(some 5), none, .mv (.t 0)⟩, 
 ⟨(some 6), none, .lens (.t 5) (pu (.call ⟨.builtin .len, #[(.tmp 5)], #[9]⟩) 3)⟩, 
 ⟨(some 7), none, .bin .lss false (.t 6) (.k (.sc (.int .i64 1))) (pu (.binOp .lss 3 (.tmp 6) (.const (.int .i64 1)) 3) 4)⟩, 
 ⟨(some 8), none, .mv (.t 7)⟩, 
 ⟨(some 9), (some ((some 8), false)), .mv (.t 0)⟩, 
 ⟨(some 10), (some ((some 8), false)), .lens (.t 9) (pu (.call ⟨.builtin .len, #[(.tmp 9)], #[9]⟩) 3)⟩, 
 ⟨(some 11), (some ((some 8), false)), .bin .gtr false (.t 10) (.k (.sc (.int .i64 36))) (pu (.binOp .gtr 3 (.tmp 10) (.const (.int .i64 36)) 3) 4)⟩, 
 ⟨(some 12), none, .pick (.t 8) (.k (.sc (.bool true))) (.t 11)⟩])
 (.cond (.t 12) (.seq (.reg [⟨(some 2), none, .mv (.k (.sc (.bool false)))⟩])
  .ret)
 .skip))
 (.seq (.seq (.reg [⟨(some 3), none, .mv (.k (.sc (.int .i64 0)))⟩])
 (.block 0 (.loop (.seq (.seq (.reg [⟨(some 13), none, .mv (.t 3)⟩, 
  ⟨(some 14), none, .mv (.t 0)⟩, 
  ⟨(some 15), none, .lens (.t 14) (pu (.call ⟨.builtin .len, #[(.tmp 14)], #[9]⟩) 3)⟩, 
  ⟨(some 16), none, .bin .lss false (.t 13) (.t 15) (pu (.binOp .lss 3 (.tmp 13) (.tmp 15) 3) 4)⟩])
  (.cond (.t 16) .skip
  (.exit 0)))
  (.seq (.block 1 (.seq (.reg [⟨(some 19), none, .mv (.t 0)⟩, 
  ⟨(some 20), none, .mv (.t 3)⟩, 
  ⟨(some 21), none, .pur (pu (.index 9 (.tmp 19) (.tmp 20)) 5)⟩, 
  ⟨(some 4), none, .mv (.t 21)⟩])
  (.seq (.reg [⟨(some 22), none, .mv (.t 4)⟩, 
  ⟨(some 23), none, .call 57 [(.t 22)]⟩, 
  ⟨(some 24), none, .bin .lss false (.t 23) (.k (.sc (.int .i64 0))) (pu (.binOp .lss 3 (.tmp 23) (.const (.int .i64 0)) 3) 4)⟩, 
  ⟨(some 25), none, .mv (.t 24)⟩, 
  ⟨(some 26), (some ((some 25), true)), .mv (.t 4)⟩, 
  ⟨(some 27), (some ((some 25), true)), .bin .neq false (.t 26) (.k (.sc (.int .u8 45))) (pu (.binOp .neq 5 (.tmp 26) (.const (.int .u8 45)) 5) 4)⟩, 
  ⟨(some 28), none, .pick (.t 25) (.t 27) (.k (.sc (.bool false)))⟩, 
  ⟨(some 29), none, .mv (.t 28)⟩, 
  ⟨(some 30), (some ((some 29), true)), .mv (.t 4)⟩, 
  ⟨(some 31), (some ((some 29), true)), .bin .neq false (.t 30) (.k (.sc (.int .u8 95))) (pu (.binOp .neq 5 (.tmp 30) (.const (.int .u8 95)) 5) 4)⟩, 
  ⟨(some 32), none, .pick (.t 29) (.t 31) (.k (.sc (.bool false)))⟩, 
  ⟨(some 33), none, .mv (.t 32)⟩, 
  ⟨(some 34), (some ((some 33), true)), .mv (.t 4)⟩, 
  ⟨(some 35), (some ((some 33), true)), .bin .neq false (.t 34) (.k (.sc (.int .u8 46))) (pu (.binOp .neq 5 (.tmp 34) (.const (.int .u8 46)) 5) 4)⟩, 
  ⟨(some 36), none, .pick (.t 33) (.t 35) (.k (.sc (.bool false)))⟩, 
  ⟨(some 37), none, .mv (.t 36)⟩, 
  ⟨(some 38), (some ((some 37), true)), .mv (.t 4)⟩, 
  ⟨(some 39), (some ((some 37), true)), .bin .neq false (.t 38) (.k (.sc (.int .u8 58))) (pu (.binOp .neq 5 (.tmp 38) (.const (.int .u8 58)) 5) 4)⟩, 
  ⟨(some 40), none, .pick (.t 37) (.t 39) (.k (.sc (.bool false)))⟩, 
  ⟨(some 41), none, .mv (.t 40)⟩, 
  ⟨(some 42), (some ((some 41), true)), .mv (.t 4)⟩, 
  ⟨(some 43), (some ((some 41), true)), .bin .neq false (.t 42) (.k (.sc (.int .u8 42))) (pu (.binOp .neq 5 (.tmp 42) (.const (.int .u8 42)) 5) 4)⟩, 
  ⟨(some 44), none, .pick (.t 41) (.t 43) (.k (.sc (.bool false)))⟩])
  (.cond (.t 44) (.seq (.reg [⟨(some 2), none, .mv (.k (.sc (.bool false)))⟩])
   .ret)
  .skip))))
  (.reg [⟨(some 17), none, .mv (.t 3)⟩, 
  ⟨(some 18), none, .bin .add false (.t 17) (.k (.sc (.int .i64 1))) (pu (.binOp .add 3 (.tmp 17) (.const (.int .i64 1)) 3) 3)⟩, 
  ⟨(some 3), none, .mv (.t 18)⟩]))))))
 (.seq (.reg [⟨(some 2), none, .mv (.k (.sc (.bool true)))⟩])
 .ret))))
def k46 : List Nat := [0, 2, 3, 4, 12, 16, 44]
theorem ic46 : factsI Try.prog 46 = some (45, [.tmp 2], c46) := by kernel_rfl

-- chargenet/chargenetref30.in (15 slots)
def c47 : IC :=
 (.seq (.reg [⟨(some 6), none, .mv (.k (.sc (.bool false)))⟩])
 (.seq (.reg [⟨(some 7), none, .mv (.t 0)⟩, 
 ⟨(some 8), none, .mv (.t 1)⟩, 
 ⟨(some 9), none, .bin .geq false (.t 7) (.t 8) (pu (.binOp .geq 3 (.tmp 7) (.tmp 8) 3) 4)⟩, 
 ⟨(some 10), none, .mv (.t 9)⟩, 
 ⟨(some 11), (some ((some 10), true)), .mv (.t 0)⟩, 
 ⟨(some 12), (some ((some 10), true)), .mv (.t 2)⟩, 
 ⟨(some 13), (some ((some 10), true)), .bin .leq false (.t 11) (.t 12) (pu (.binOp .leq 3 (.tmp 11) (.tmp 12) 3) 4)⟩, 
 ⟨(some 14), none, .pick (.t 10) (.t 13) (.k (.sc (.bool false)))⟩, 
 ⟨(some 6), none, .mv (.t 14)⟩])
 .ret))
def k47 : List Nat := [0, 1, 2, 6]
theorem ic47 : factsI Try.prog 47 = some (15, [.tmp 6], c47) := by kernel_rfl

-- chargenet/chargenetref02.Right (9 slots)
def c48 : IC :=
 (.seq (.reg [⟨(some 2), none, .mv (.k (.sc (.bool false)))⟩])
 (.seq (.reg [⟨(some 3), none, .mv (.t 0)⟩, 
 ⟨(some 4), none, .bin .geq false (.t 3) (.k (.sc (.int .i64 0))) (pu (.binOp .geq 3 (.tmp 3) (.const (.int .i64 0)) 3) 4)⟩, 
 ⟨(some 5), none, .mv (.t 4)⟩, 
 ⟨(some 6), (some ((some 5), true)), .mv (.t 0)⟩, 
 ⟨(some 7), (some ((some 5), true)), .bin .leq false (.t 6) (.k (.sc (.int .i64 268435456))) (pu (.binOp .leq 3 (.tmp 6) (.const (.int .i64 268435456)) 3) 4)⟩, 
 ⟨(some 8), none, .pick (.t 5) (.t 7) (.k (.sc (.bool false)))⟩, 
 ⟨(some 2), none, .mv (.t 8)⟩])
 .ret))
def k48 : List Nat := [0, 2]
theorem ic48 : factsI Try.prog 48 = some (9, [.tmp 2], c48) := by kernel_rfl

-- chargenet/chargenetref30.readings (56 slots)
def c49 : IC :=
 (.seq (.reg [⟨(some 1), none, .bx (.t 0)⟩, 
 ⟨(some 2), none, .mv (.k (.sc (.int .i64 0)))⟩])
 (.seq (.seq (.reg [⟨(some 4), none, .sh 9 (.t 1)⟩, 
 ⟨(some 5), none, .ld none (.t 4)⟩, 
 ⟨(some 6), none, .len (.t 5) (pu (.call ⟨.builtin .len, #[(.tmp 5)], #[27]⟩) 3)⟩, 
 ⟨(some 7), none, .bin .gtr false (.t 6) (.k (.sc (.int .i64 16))) (pu (.binOp .gtr 3 (.tmp 6) (.const (.int .i64 16)) 3) 4)⟩])
 (.cond (.t 7) (.seq (.reg [⟨(some 2), none, .mv (.k (.sc (.int .i64 3)))⟩])
  .ret)
 .skip))
 (.seq (.seq (.reg [⟨(some 8), none, .sh 9 (.t 1)⟩, 
 ⟨(some 9), none, .ld none (.t 8)⟩, 
 ⟨(some 10), none, .len (.t 9) (pu (.call ⟨.builtin .len, #[(.tmp 9)], #[27]⟩) 3)⟩, 
 ⟨(some 11), none, .bin .eql false (.t 10) (.k (.sc (.int .i64 0))) (pu (.binOp .eql 3 (.tmp 10) (.const (.int .i64 0)) 3) 4)⟩])
 (.cond (.t 11) (.seq (.reg [⟨(some 2), none, .mv (.k (.sc (.int .i64 1)))⟩])
  .ret)
 .skip))
 (.seq (.seq (.reg [⟨(some 3), none, .mv (.k (.sc (.int .i64 0)))⟩])
 (.block 0 (.loop (.seq (.seq (.reg [⟨(some 12), none, .mv (.t 3)⟩, 
  ⟨(some 13), none, .sh 9 (.t 1)⟩, 
  ⟨(some 14), none, .ld none (.t 13)⟩, 
  ⟨(some 15), none, .len (.t 14) (pu (.call ⟨.builtin .len, #[(.tmp 14)], #[27]⟩) 3)⟩, 
  ⟨(some 16), none, .bin .lss false (.t 12) (.t 15) (pu (.binOp .lss 3 (.tmp 12) (.tmp 15) 3) 4)⟩])
  (.cond (.t 16) .skip
  (.exit 0)))
  (.seq (.block 1 (.seq (.seq (.reg [⟨(some 19), none, .sh 9 (.t 1)⟩, 
  ⟨(some 20), none, .ld none (.t 19)⟩, 
  ⟨(some 21), none, .mv (.t 3)⟩, 
  ⟨(some 22), none, .ixs 2 (.t 20) (.t 21)⟩, 
  ⟨(some 23), none, .ld (some 2) (.t 22)⟩, 
  ⟨(some 24), none, .call 58 [(.t 23)]⟩, 
  ⟨(some 25), none, .un .not (.t 24) (pu (.unOp .not 4 (.tmp 24)) 4)⟩])
  (.cond (.t 25) (.seq (.reg [⟨(some 2), none, .mv (.k (.sc (.int .i64 2)))⟩])
   .ret)
  .skip))
  (.seq (.drw [0, 1, 3, 7, 15, 7, 63, 127, 255, 7, 519, 7, 2055, 7687, 15879, 32263, 65535, 131071] [⟨(some 26), none, .mv (.t 3)⟩, 
  ⟨(some 27), none, .bin .gtr false (.t 26) (.k (.sc (.int .i64 0))) (pu (.binOp .gtr 3 (.tmp 26) (.const (.int .i64 0)) 3) 4)⟩, 
  ⟨(some 28), none, .mv (.t 27)⟩, 
  ⟨(some 29), (some ((some 28), true)), .sh 9 (.t 1)⟩, 
  ⟨(some 30), (some ((some 28), true)), .ld none (.t 29)⟩, 
  ⟨(some 31), (some ((some 28), true)), .mv (.t 3)⟩, 
  ⟨(some 32), (some ((some 28), true)), .ixs 2 (.t 30) (.t 31)⟩, 
  ⟨(some 33), (some ((some 28), true)), .sh 0 (.t 32)⟩, 
  ⟨(some 34), (some ((some 28), true)), .ld none (.t 33)⟩, 
  ⟨(some 35), (some ((some 28), true)), .sh 9 (.t 1)⟩, 
  ⟨(some 36), (some ((some 28), true)), .ld none (.t 35)⟩, 
  ⟨(some 37), (some ((some 28), true)), .mv (.t 3)⟩, 
  ⟨(some 38), (some ((some 28), true)), .bin .sub false (.t 37) (.k (.sc (.int .i64 1))) (pu (.binOp .sub 3 (.tmp 37) (.const (.int .i64 1)) 3) 3)⟩, 
  ⟨(some 39), (some ((some 28), true)), .ixs 2 (.t 36) (.t 38)⟩, 
  ⟨(some 40), (some ((some 28), true)), .sh 0 (.t 39)⟩, 
  ⟨(some 41), (some ((some 28), true)), .ld none (.t 40)⟩, 
  ⟨(some 42), (some ((some 28), true)), .bin .leq false (.t 34) (.t 41) (pu (.binOp .leq 3 (.tmp 34) (.tmp 41) 3) 4)⟩, 
  ⟨(some 43), none, .pick (.t 28) (.t 42) (.k (.sc (.bool false)))⟩])
  (.cond (.t 43) (.seq (.reg [⟨(some 2), none, .mv (.k (.sc (.int .i64 1)))⟩])
   .ret)
  .skip))))
  (.reg [⟨(some 17), none, .mv (.t 3)⟩, 
  ⟨(some 18), none, .bin .add false (.t 17) (.k (.sc (.int .i64 1))) (pu (.binOp .add 3 (.tmp 17) (.const (.int .i64 1)) 3) 3)⟩, 
  ⟨(some 3), none, .mv (.t 18)⟩]))))))
 (.seq (.seq (.drw [0, 1, 0, 4, 12, 28, 63, 127, 255, 0, 512, 2047] [⟨(some 44), none, .sh 9 (.t 1)⟩, 
 ⟨(some 45), none, .ld none (.t 44)⟩, 
 ⟨(some 46), none, .sh 9 (.t 1)⟩, 
 ⟨(some 47), none, .ld none (.t 46)⟩, 
 ⟨(some 48), none, .len (.t 47) (pu (.call ⟨.builtin .len, #[(.tmp 47)], #[27]⟩) 3)⟩, 
 ⟨(some 49), none, .bin .sub false (.t 48) (.k (.sc (.int .i64 1))) (pu (.binOp .sub 3 (.tmp 48) (.const (.int .i64 1)) 3) 3)⟩, 
 ⟨(some 50), none, .ixs 2 (.t 45) (.t 49)⟩, 
 ⟨(some 51), none, .sh 0 (.t 50)⟩, 
 ⟨(some 52), none, .ld none (.t 51)⟩, 
 ⟨(some 53), none, .sh 5 (.t 1)⟩, 
 ⟨(some 54), none, .ld none (.t 53)⟩, 
 ⟨(some 55), none, .bin .neq false (.t 52) (.t 54) (pu (.binOp .neq 3 (.tmp 52) (.tmp 54) 3) 4)⟩])
 (.cond (.t 55) (.seq (.reg [⟨(some 2), none, .mv (.k (.sc (.int .i64 1)))⟩])
  .ret)
 .skip))
 (.seq (.reg [⟨(some 2), none, .mv (.k (.sc (.int .i64 0)))⟩])
 .ret))))))
def k49 : List Nat := [0, 1, 2, 3, 7, 11, 16, 25, 43, 55]
theorem ic49 : factsI Try.prog 49 = some (56, [.tmp 2], c49) := by kernel_rfl

-- sort.Search (26 slots)
def c50 : IC :=
 (.seq (.reg [⟨(some 4), none, .mv (.k (.sc (.int .i64 0)))⟩])
 (.seq (.reg [⟨(some 8), none, .mv (.t 0)⟩, 
 ⟨(some 5), none, .mv (.k (.sc (.int .i64 0)))⟩, 
 ⟨(some 6), none, .mv (.t 8)⟩])
 (.seq (.block 0 (.loop (.seq (.seq (.reg [⟨(some 9), none, .mv (.t 5)⟩, 
  ⟨(some 10), none, .mv (.t 6)⟩, 
  ⟨(some 11), none, .bin .lss false (.t 9) (.t 10) (pu (.binOp .lss 3 (.tmp 9) (.tmp 10) 3) 4)⟩])
  (.cond (.t 11) .skip
  (.exit 0)))
  (.block 1 (.seq (.reg [⟨(some 12), none, .mv (.t 5)⟩, 
  ⟨(some 13), none, .mv (.t 6)⟩, 
  ⟨(some 14), none, .bin .add false (.t 12) (.t 13) (pu (.binOp .add 3 (.tmp 12) (.tmp 13) 3) 3)⟩, 
  ⟨(some 15), none, .pur (pu (.convert 3 75 (.tmp 14)) 75)⟩, 
  ⟨(some 16), none, .bin .shr false (.t 15) (.k (.sc (.int .u64 1))) (pu (.binOp .shr 75 (.tmp 15) (.const (.int .u64 1)) 75) 75)⟩, 
  ⟨(some 17), none, .pur (pu (.convert 75 3 (.tmp 16)) 3)⟩, 
  ⟨(some 7), none, .mv (.t 17)⟩])
  (.seq (.reg [⟨(some 18), none, .mv (.t 1)⟩, 
  ⟨(some 19), none, .mv (.t 7)⟩, 
  ⟨(some 20), none, .callv (.t 18) [(.t 19)]⟩, 
  ⟨(some 21), none, .un .not (.t 20) (pu (.unOp .not 4 (.tmp 20)) 4)⟩])
  (.cond (.t 21) (.reg [⟨(some 22), none, .mv (.t 7)⟩, 
   ⟨(some 23), none, .bin .add false (.t 22) (.k (.sc (.int .i64 1))) (pu (.binOp .add 3 (.tmp 22) (.const (.int .i64 1)) 3) 3)⟩, 
   ⟨(some 5), none, .mv (.t 23)⟩])
  (.reg [⟨(some 24), none, .mv (.t 7)⟩, 
   ⟨(some 6), none, .mv (.t 24)⟩]))))))))
 (.seq (.reg [⟨(some 25), none, .mv (.t 5)⟩, 
 ⟨(some 4), none, .mv (.t 25)⟩])
 .ret))))
def k50 : List Nat := [0, 1, 4, 5, 6, 7, 11, 21]
theorem ic50 : factsI Try.prog 50 = some (26, [.tmp 4], c50) := by kernel_rfl

-- chargenet/intake.bounds$1 (13 slots)
def c51 : IC :=
 (.seq (.reg [⟨(some 4), none, .mv (.k (.sc (.bool false)))⟩])
 (.seq (.drw [0, 0, 3, 7, 15, 0, 63, 127, 255] [⟨(some 5), none, .ld none (.t 1)⟩, 
 ⟨(some 6), none, .mv (.t 0)⟩, 
 ⟨(some 7), none, .ixs 10 (.t 5) (.t 6)⟩, 
 ⟨(some 8), none, .ld (some 10) (.t 7)⟩, 
 ⟨(some 9), none, .call 28 [(.t 8)]⟩, 
 ⟨(some 10), none, .ld (some 3) (.t 2)⟩, 
 ⟨(some 11), none, .call 29 [(.t 9), (.t 10)]⟩, 
 ⟨(some 12), none, .bin .geq false (.t 11) (.k (.sc (.int .i64 0))) (pu (.binOp .geq 3 (.tmp 11) (.const (.int .i64 0)) 3) 4)⟩, 
 ⟨(some 4), none, .mv (.t 12)⟩])
 .ret))
def k51 : List Nat := [0, 1, 2, 4]
theorem ic51 : factsI Try.prog 51 = some (13, [.tmp 4], c51) := by kernel_rfl

-- slices.Equal[[]chargenet/api.Reading,chargenet/api.Reading] (26 slots)
def c52 : IC :=
 (.seq (.reg [⟨(some 4), none, .mv (.k (.sc (.bool false)))⟩])
 (.seq (.seq (.reg [⟨(some 6), none, .mv (.t 0)⟩, 
 ⟨(some 7), none, .len (.t 6) (pu (.call ⟨.builtin .len, #[(.tmp 6)], #[27]⟩) 3)⟩, 
 ⟨(some 8), none, .mv (.t 1)⟩, 
 ⟨(some 9), none, .len (.t 8) (pu (.call ⟨.builtin .len, #[(.tmp 8)], #[27]⟩) 3)⟩, 
 ⟨(some 10), none, .bin .neq false (.t 7) (.t 9) (pu (.binOp .neq 3 (.tmp 7) (.tmp 9) 3) 4)⟩])
 (.cond (.t 10) (.seq (.reg [⟨(some 4), none, .mv (.k (.sc (.bool false)))⟩])
  .ret)
 .skip))
 (.seq (.seq (.reg [⟨(some 11), none, .mv (.t 0)⟩, 
 ⟨(some 12), none, .len (.t 11) (pu (.call ⟨.builtin .len, #[(.tmp 11)], #[27]⟩) 3)⟩, 
 ⟨(some 13), none, .mv (.k (.sc (.int .i64 0)))⟩])
 (.block 0 (.loop (.seq (.reg [⟨(some 14), none, .bin .lss false (.t 13) (.t 12) (pu (.binOp .lss 3 (.tmp 13) (.tmp 12) 3) 0)⟩])
  (.seq (.cond (.t 14) .skip
  (.exit 0))
  (.seq (.block 1 (.seq (.reg [⟨(some 15), none, .mv (.t 13)⟩, 
  ⟨(some 5), none, .mv (.t 15)⟩])
  (.seq (.drw [0, 0, 3, 7, 0, 0, 48, 112, 255] [⟨(some 16), none, .mv (.t 0)⟩, 
  ⟨(some 17), none, .mv (.t 5)⟩, 
  ⟨(some 18), none, .ixs 2 (.t 16) (.t 17)⟩, 
  ⟨(some 19), none, .ld (some 2) (.t 18)⟩, 
  ⟨(some 20), none, .mv (.t 1)⟩, 
  ⟨(some 21), none, .mv (.t 5)⟩, 
  ⟨(some 22), none, .ixs 2 (.t 20) (.t 21)⟩, 
  ⟨(some 23), none, .ld (some 2) (.t 22)⟩, 
  ⟨(some 24), none, .bin .neq false (.t 19) (.t 23) (pu (.binOp .neq 63 (.tmp 19) (.tmp 23) 63) 4)⟩])
  (.cond (.t 24) (.seq (.reg [⟨(some 4), none, .mv (.k (.sc (.bool false)))⟩])
   .ret)
  .skip))))
  (.reg [⟨(some 25), none, .bin .add false (.t 13) (.k (.sc (.int .i64 1))) (pu (.binOp .add 3 (.tmp 13) (.const (.int .i64 1)) 3) 3)⟩, 
  ⟨(some 13), none, .mv (.t 25)⟩])))))))
 (.seq (.reg [⟨(some 4), none, .mv (.k (.sc (.bool true)))⟩])
 .ret))))
def k52 : List Nat := [0, 1, 4, 5, 10, 12, 13, 14, 24]
theorem ic52 : factsI Try.prog 52 = some (26, [.tmp 4], c52) := by kernel_rfl

-- chargenet/chargenetref26.SameReadings (26 slots)
def c53 : IC :=
 (.seq (.reg [⟨(some 4), none, .mv (.k (.sc (.bool false)))⟩])
 (.seq (.seq (.reg [⟨(some 6), none, .mv (.t 0)⟩, 
 ⟨(some 7), none, .len (.t 6) (pu (.call ⟨.builtin .len, #[(.tmp 6)], #[27]⟩) 3)⟩, 
 ⟨(some 8), none, .mv (.t 1)⟩, 
 ⟨(some 9), none, .len (.t 8) (pu (.call ⟨.builtin .len, #[(.tmp 8)], #[27]⟩) 3)⟩, 
 ⟨(some 10), none, .bin .neq false (.t 7) (.t 9) (pu (.binOp .neq 3 (.tmp 7) (.tmp 9) 3) 4)⟩])
 (.cond (.t 10) (.seq (.reg [⟨(some 4), none, .mv (.k (.sc (.bool false)))⟩])
  .ret)
 .skip))
 (.seq (.seq (.reg [⟨(some 5), none, .mv (.k (.sc (.int .i64 0)))⟩])
 (.block 0 (.loop (.seq (.seq (.reg [⟨(some 11), none, .mv (.t 5)⟩, 
  ⟨(some 12), none, .mv (.t 0)⟩, 
  ⟨(some 13), none, .len (.t 12) (pu (.call ⟨.builtin .len, #[(.tmp 12)], #[27]⟩) 3)⟩, 
  ⟨(some 14), none, .bin .lss false (.t 11) (.t 13) (pu (.binOp .lss 3 (.tmp 11) (.tmp 13) 3) 4)⟩])
  (.cond (.t 14) .skip
  (.exit 0)))
  (.seq (.block 1 (.seq (.drw [0, 0, 3, 7, 0, 0, 48, 112, 255] [⟨(some 17), none, .mv (.t 0)⟩, 
  ⟨(some 18), none, .mv (.t 5)⟩, 
  ⟨(some 19), none, .ixs 2 (.t 17) (.t 18)⟩, 
  ⟨(some 20), none, .ld (some 2) (.t 19)⟩, 
  ⟨(some 21), none, .mv (.t 1)⟩, 
  ⟨(some 22), none, .mv (.t 5)⟩, 
  ⟨(some 23), none, .ixs 2 (.t 21) (.t 22)⟩, 
  ⟨(some 24), none, .ld (some 2) (.t 23)⟩, 
  ⟨(some 25), none, .bin .neq false (.t 20) (.t 24) (pu (.binOp .neq 63 (.tmp 20) (.tmp 24) 63) 4)⟩])
  (.cond (.t 25) (.seq (.reg [⟨(some 4), none, .mv (.k (.sc (.bool false)))⟩])
   .ret)
  .skip)))
  (.reg [⟨(some 15), none, .mv (.t 5)⟩, 
  ⟨(some 16), none, .bin .add false (.t 15) (.k (.sc (.int .i64 1))) (pu (.binOp .add 3 (.tmp 15) (.const (.int .i64 1)) 3) 3)⟩, 
  ⟨(some 5), none, .mv (.t 16)⟩]))))))
 (.seq (.reg [⟨(some 4), none, .mv (.k (.sc (.bool true)))⟩])
 .ret))))
def k53 : List Nat := [0, 1, 4, 5, 10, 14, 25]
theorem ic53 : factsI Try.prog 53 = some (26, [.tmp 4], c53) := by kernel_rfl

-- chargenet/ident.value (35 slots)
def c54 : IC :=
 (.seq (.reg [⟨(some 2), none, .mv (.k (.sc (.int .i64 0)))⟩])
 (.seq (.block 0 (.seq (.reg [⟨(some 4), none, .mv (.t 0)⟩, 
 ⟨(some 5), none, .bin .geq false (.t 4) (.k (.sc (.int .i32 48))) (pu (.binOp .geq 21 (.tmp 4) (.const (.int .i32 48)) 21) 4)⟩, 
 ⟨(some 6), none, .mv (.t 5)⟩, 
 ⟨(some 7), (some ((some 6), true)), .mv (.t 0)⟩, 
 ⟨(some 8), (some ((some 6), true)), .bin .leq false (.t 7) (.k (.sc (.int .i32 57))) (pu (.binOp .leq 21 (.tmp 7) (.const (.int .i32 57)) 21) 4)⟩, 
 ⟨(some 9), none, .pick (.t 6) (.t 8) (.k (.sc (.bool false)))⟩, 
 ⟨(some 3), none, .mv (.t 9)⟩])
 (.cond (.t 3) (.seq (.reg [⟨(some 10), none, .mv (.t 0)⟩, 
  ⟨(some 11), none, .bin .sub false (.t 10) (.k (.sc (.int .i32 48))) (pu (.binOp .sub 21 (.tmp 10) (.const (.int .i32 48)) 21) 21)⟩, 
  ⟨(some 12), none, .pur (pu (.convert 21 3 (.tmp 11)) 3)⟩, 
  ⟨(some 2), none, .mv (.t 12)⟩])
  .ret)
 (.seq (.reg [⟨(some 14), none, .mv (.t 0)⟩, 
  ⟨(some 15), none, .bin .geq false (.t 14) (.k (.sc (.int .i32 65))) (pu (.binOp .geq 21 (.tmp 14) (.const (.int .i32 65)) 21) 4)⟩, 
  ⟨(some 16), none, .mv (.t 15)⟩, 
  ⟨(some 17), (some ((some 16), true)), .mv (.t 0)⟩, 
  ⟨(some 18), (some ((some 16), true)), .bin .leq false (.t 17) (.k (.sc (.int .i32 90))) (pu (.binOp .leq 21 (.tmp 17) (.const (.int .i32 90)) 21) 4)⟩, 
  ⟨(some 19), none, .pick (.t 16) (.t 18) (.k (.sc (.bool false)))⟩, 
  ⟨(some 13), none, .mv (.t 19)⟩])
  (.cond (.t 13) (.seq (.reg [⟨(some 20), none, .mv (.t 0)⟩, 
   ⟨(some 21), none, .bin .sub false (.t 20) (.k (.sc (.int .i32 65))) (pu (.binOp .sub 21 (.tmp 20) (.const (.int .i32 65)) 21) 21)⟩, 
   ⟨(some 22), none, .pur (pu (.convert 21 3 (.tmp 21)) 3)⟩, 
   ⟨(some 23), none, .bin .add false (.t 22) (.k (.sc (.int .i64 10))) (pu (.binOp .add 3 (.tmp 22) (.const (.int .i64 10)) 3) 3)⟩, 
   ⟨(some 2), none, .mv (.t 23)⟩])
   .ret)
  (.seq (.reg [⟨(some 25), none, .mv (.t 0)⟩, 
   ⟨(some 26), none, .bin .geq false (.t 25) (.k (.sc (.int .i32 97))) (pu (.binOp .geq 21 (.tmp 25) (.const (.int .i32 97)) 21) 4)⟩, 
   ⟨(some 27), none, .mv (.t 26)⟩, 
   ⟨(some 28), (some ((some 27), true)), .mv (.t 0)⟩, 
   ⟨(some 29), (some ((some 27), true)), .bin .leq false (.t 28) (.k (.sc (.int .i32 122))) (pu (.binOp .leq 21 (.tmp 28) (.const (.int .i32 122)) 21) 4)⟩, 
   ⟨(some 30), none, .pick (.t 27) (.t 29) (.k (.sc (.bool false)))⟩, 
   ⟨(some 24), none, .mv (.t 30)⟩])
   (.cond (.t 24) (.seq (.reg [⟨(some 31), none, .mv (.t 0)⟩, 
    ⟨(some 32), none, .bin .sub false (.t 31) (.k (.sc (.int .i32 97))) (pu (.binOp .sub 21 (.tmp 31) (.const (.int .i32 97)) 21) 21)⟩, 
    ⟨(some 33), none, .pur (pu (.convert 21 3 (.tmp 32)) 3)⟩, 
    ⟨(some 34), none, .bin .add false (.t 33) (.k (.sc (.int .i64 10))) (pu (.binOp .add 3 (.tmp 33) (.const (.int .i64 10)) 3) 3)⟩, 
    ⟨(some 2), none, .mv (.t 34)⟩])
    .ret)
   .skip)))))))
 (.seq (.reg [⟨(some 2), none, .mv (.k (.sc (.int .i64 (-1))))⟩])
 .ret)))
def k54 : List Nat := [0, 2, 3, 13, 24]
theorem ic54 : factsI Try.prog 54 = some (35, [.tmp 2], c54) := by kernel_rfl

-- cmp.isNaN[int] (6 slots)
def c55 : IC :=
 (.seq (.reg [⟨(some 2), none, .mv (.k (.sc (.bool false)))⟩])
 (.seq (.reg [⟨(some 3), none, .mv (.t 0)⟩, 
 ⟨(some 4), none, .mv (.t 0)⟩, 
 ⟨(some 5), none, .bin .neq false (.t 3) (.t 4) (pu (.binOp .neq 3 (.tmp 3) (.tmp 4) 3) 4)⟩, 
 ⟨(some 2), none, .mv (.t 5)⟩])
 .ret))
def k55 : List Nat := [0, 2]
theorem ic55 : factsI Try.prog 55 = some (6, [.tmp 2], c55) := by kernel_rfl

-- internal/bytealg.CompareString (8 slots)
def c56 : IC :=
 (.seq (.reg [⟨(some 4), none, .mv (.k (.sc (.int .i64 0)))⟩])
 (.seq (.reg [⟨(some 5), none, .mv (.t 0)⟩, 
 ⟨(some 6), none, .mv (.t 1)⟩, 
 ⟨(some 7), none, .call 59 [(.t 5), (.t 6)]⟩, 
 ⟨(some 4), none, .mv (.t 7)⟩])
 .ret))
def k56 : List Nat := [0, 1, 4]
theorem ic56 : factsI Try.prog 56 = some (8, [.tmp 4], c56) := by kernel_rfl

-- chargenet/chargenetref01.Value (14 slots)
def c57 : IC :=
 (.seq (.reg [⟨(some 2), none, .mv (.k (.sc (.int .i64 0)))⟩])
 (.seq (.seq (.reg [⟨(some 3), none, .mv (.k (.sc (.int .i64 0)))⟩])
 (.block 0 (.loop (.seq (.seq (.reg [⟨(some 4), none, .mv (.t 3)⟩, 
  ⟨(some 5), none, .bin .lss false (.t 4) (.k (.sc (.int .i64 36))) (pu (.binOp .lss 3 (.tmp 4) (.const (.int .i64 36)) 3) 4)⟩])
  (.cond (.t 5) .skip
  (.exit 0)))
  (.seq (.block 1 (.seq (.drw [0, 1, 0, 4, 15] [⟨(some 8), none, .mv (.t 3)⟩, 
  ⟨(some 9), none, .pur (pu (.index 9 (.const (.string ⟨#[48, 49, 50, 51, 52, 53, 54, 55, 56, 57, 65, 66, 67, 68, 69, 70, 71, 72, 73, 74, 75, 76, 77, 78, 79, 80, 81, 82, 83, 84, 85, 86, 87, 88, 89, 90]⟩)) (.tmp 8)) 5)⟩, 
  ⟨(some 10), none, .mv (.t 0)⟩, 
  ⟨(some 11), none, .call 60 [(.t 10)]⟩, 
  ⟨(some 12), none, .bin .eql false (.t 9) (.t 11) (pu (.binOp .eql 5 (.tmp 9) (.tmp 11) 5) 4)⟩])
  (.cond (.t 12) (.seq (.reg [⟨(some 13), none, .mv (.t 3)⟩, 
   ⟨(some 2), none, .mv (.t 13)⟩])
   .ret)
  .skip)))
  (.reg [⟨(some 6), none, .mv (.t 3)⟩, 
  ⟨(some 7), none, .bin .add false (.t 6) (.k (.sc (.int .i64 1))) (pu (.binOp .add 3 (.tmp 6) (.const (.int .i64 1)) 3) 3)⟩, 
  ⟨(some 3), none, .mv (.t 7)⟩]))))))
 (.seq (.reg [⟨(some 2), none, .mv (.k (.sc (.int .i64 (-1))))⟩])
 .ret)))
def k57 : List Nat := [0, 2, 3, 5, 12]
theorem ic57 : factsI Try.prog 57 = some (14, [.tmp 2], c57) := by kernel_rfl

-- chargenet/chargenetref26.Reading (11 slots)
def c58 : IC :=
 (.seq (.reg [⟨(some 1), none, .bx (.t 0)⟩, 
 ⟨(some 2), none, .mv (.k (.sc (.bool false)))⟩])
 (.seq (.reg [⟨(some 3), none, .sh 0 (.t 1)⟩, 
 ⟨(some 4), none, .ld none (.t 3)⟩, 
 ⟨(some 5), none, .call 48 [(.t 4)]⟩, 
 ⟨(some 6), none, .mv (.t 5)⟩, 
 ⟨(some 7), (some ((some 6), true)), .sh 1 (.t 1)⟩, 
 ⟨(some 8), (some ((some 6), true)), .ld none (.t 7)⟩, 
 ⟨(some 9), (some ((some 6), true)), .call 61 [(.t 8), (.k (.sc (.int .i64 0))), (.k (.sc (.int .i64 1099511627775)))]⟩, 
 ⟨(some 10), none, .pick (.t 6) (.t 9) (.k (.sc (.bool false)))⟩, 
 ⟨(some 2), none, .mv (.t 10)⟩])
 .ret))
def k58 : List Nat := [0, 1, 2]
theorem ic58 : factsI Try.prog 58 = some (11, [.tmp 2], c58) := by kernel_rfl

-- chargenet/chargenetref01.Capital (12 slots)
def c60 : IC :=
 (.seq (.reg [⟨(some 2), none, .mv (.k (.sc (.int .u8 0)))⟩])
 (.seq (.seq (.reg [⟨(some 3), none, .mv (.t 0)⟩, 
 ⟨(some 4), none, .bin .geq false (.t 3) (.k (.sc (.int .u8 97))) (pu (.binOp .geq 5 (.tmp 3) (.const (.int .u8 97)) 5) 4)⟩, 
 ⟨(some 5), none, .mv (.t 4)⟩, 
 ⟨(some 6), (some ((some 5), true)), .mv (.t 0)⟩, 
 ⟨(some 7), (some ((some 5), true)), .bin .leq false (.t 6) (.k (.sc (.int .u8 122))) (pu (.binOp .leq 5 (.tmp 6) (.const (.int .u8 122)) 5) 4)⟩, 
 ⟨(some 8), none, .pick (.t 5) (.t 7) (.k (.sc (.bool false)))⟩])
 (.cond (.t 8) (.seq (.reg [⟨(some 9), none, .mv (.t 0)⟩, 
  ⟨(some 10), none, .bin .sub false (.t 9) (.k (.sc (.int .u8 32))) (pu (.binOp .sub 5 (.tmp 9) (.const (.int .u8 32)) 5) 5)⟩, 
  ⟨(some 2), none, .mv (.t 10)⟩])
  .ret)
 .skip))
 (.seq (.reg [⟨(some 11), none, .mv (.t 0)⟩, 
 ⟨(some 2), none, .mv (.t 11)⟩])
 .ret)))
def k60 : List Nat := [0, 2, 8]
theorem ic60 : factsI Try.prog 60 = some (12, [.tmp 2], c60) := by kernel_rfl

-- chargenet/chargenetref26.in (15 slots)
def c61 : IC :=
 (.seq (.reg [⟨(some 6), none, .mv (.k (.sc (.bool false)))⟩])
 (.seq (.reg [⟨(some 7), none, .mv (.t 0)⟩, 
 ⟨(some 8), none, .mv (.t 1)⟩, 
 ⟨(some 9), none, .bin .geq false (.t 7) (.t 8) (pu (.binOp .geq 3 (.tmp 7) (.tmp 8) 3) 4)⟩, 
 ⟨(some 10), none, .mv (.t 9)⟩, 
 ⟨(some 11), (some ((some 10), true)), .mv (.t 0)⟩, 
 ⟨(some 12), (some ((some 10), true)), .mv (.t 2)⟩, 
 ⟨(some 13), (some ((some 10), true)), .bin .leq false (.t 11) (.t 12) (pu (.binOp .leq 3 (.tmp 11) (.tmp 12) 3) 4)⟩, 
 ⟨(some 14), none, .pick (.t 10) (.t 13) (.k (.sc (.bool false)))⟩, 
 ⟨(some 6), none, .mv (.t 14)⟩])
 .ret))
def k61 : List Nat := [0, 1, 2, 6]
theorem ic61 : factsI Try.prog 61 = some (15, [.tmp 6], c61) := by kernel_rfl

end Go.Proofs.Ytnafhnnhhdmnfaa
