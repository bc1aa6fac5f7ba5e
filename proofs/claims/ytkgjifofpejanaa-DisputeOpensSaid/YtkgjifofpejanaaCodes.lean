import Derived.Test.YtkgjifofpejanaaRows
import Derived.Test.YtkgjifofpejanaaIdlZG
namespace Go.Proofs.Ytkgjifofpejanaa
set_option linter.all false
open Go.Idl
-- chargenet/chargenetlaw47.DisputeValids (15 slots)
def c3 : IC :=
 (.seq (.reg [⟨(some 1), none, .bx (.t 0)⟩, 
 ⟨(some 2), none, .mv (.k (.sc (.bool false)))⟩])
 (.seq (.seq (.reg [⟨(some 3), none, .ld (some 6) (.t 1)⟩, 
 ⟨(some 4), none, .call 7 [(.t 3)]⟩, 
 ⟨(some 5), none, .un .not (.t 4) (pu (.unOp .not 4 (.tmp 4)) 4)⟩])
 (.cond (.t 5) (.seq (.reg [⟨(some 6), none, .call 8 []⟩, 
  ⟨(some 2), none, .mv (.t 6)⟩])
  .ret)
 .skip))
 (.seq (.drw [0, 1, 0, 7, 15, 31, 63, 127, 255] [⟨(some 7), none, .ld (some 6) (.t 1)⟩, 
 ⟨(some 8), none, .call 9 [(.t 7)]⟩, 
 ⟨(some 9), none, .ld (some 6) (.t 1)⟩, 
 ⟨(some 10), none, .call 10 [(.t 9)]⟩, 
 ⟨(some 11), none, .bin .eql false (.t 8) (.t 10) (pu (.binOp .eql 26 (.tmp 8) (.tmp 10) 26) 4)⟩, 
 ⟨(some 12), none, .mv (.t 11)⟩, 
 ⟨(some 13), (some ((some 12), true)), .call 8 []⟩, 
 ⟨(some 14), none, .pick (.t 12) (.t 13) (.k (.sc (.bool false)))⟩, 
 ⟨(some 2), none, .mv (.t 14)⟩])
 .ret)))
def k3 : List Nat := [0, 1, 2, 5]
theorem ic3 : factsI Try.prog 3 = some (15, [.tmp 2], c3) := by kernel_rfl

-- chargenet/chargenetlaw47.DisputeOpens (56 slots)
def c4 : IC :=
 (.seq (.reg [⟨(some 4), none, .bx (.t 0)⟩, 
 ⟨(some 8), none, .mv (.k (.sc (.bool false)))⟩])
 (.seq (.seq (.reg [⟨(some 13), none, .ld (some 14) (.t 4)⟩, 
 ⟨(some 14), none, .call 11 [(.t 13)]⟩, 
 ⟨(some 15), none, .un .not (.t 14) (pu (.unOp .not 4 (.tmp 14)) 4)⟩, 
 ⟨(some 16), none, .mv (.t 15)⟩, 
 ⟨(some 17), (some ((some 16), false)), .mv (.t 1)⟩, 
 ⟨(some 18), (some ((some 16), false)), .lens (.t 17) (pu (.call ⟨.builtin .len, #[(.tmp 17)], #[9]⟩) 3)⟩, 
 ⟨(some 19), (some ((some 16), false)), .bin .gtr false (.t 18) (.k (.sc (.int .i64 50))) (pu (.binOp .gtr 3 (.tmp 18) (.const (.int .i64 50)) 3) 4)⟩, 
 ⟨(some 20), none, .pick (.t 16) (.k (.sc (.bool true))) (.t 19)⟩])
 (.cond (.t 20) (.seq (.reg [⟨(some 21), none, .call 8 []⟩, 
  ⟨(some 8), none, .mv (.t 21)⟩])
  .ret)
 .skip))
 (.seq (.reg [⟨(some 23), none, .ld (some 14) (.t 4)⟩, 
 ⟨(some 24), none, .mv (.t 1)⟩, 
 ⟨(some 25), none, .mv (.t 2)⟩, 
 ⟨(some 26), none, .mv (.t 3)⟩, 
 ⟨(some 27), none, .call 12 [(.t 23), (.t 24), (.t 25), (.t 26)]⟩, 
 ⟨(some 22), none, .mv (.t 27)⟩, 
 ⟨(some 28), none, .ext (.t 22) 0⟩, 
 ⟨(some 29), none, .ext (.t 22) 1⟩, 
 ⟨(some 9), none, .al (.agg [(.sc (.string ⟨#[]⟩)), (.sc (.string ⟨#[]⟩)), (.sc (.int .i64 0)), (.sc (.int .i64 0)), (.sc (.int .i64 0)), (.sc (.int .i64 0))]) 6⟩, 
 ⟨none, none, .st 6 (.t 9) (.t 28)⟩, 
 ⟨(some 10), none, .mv (.t 29)⟩])
 (.seq (.reg [⟨(some 31), none, .ld (some 14) (.t 4)⟩, 
 ⟨(some 32), none, .mv (.t 1)⟩, 
 ⟨(some 33), none, .mv (.t 2)⟩, 
 ⟨(some 34), none, .mv (.t 3)⟩, 
 ⟨(some 35), none, .call 13 [(.t 31), (.t 32), (.t 33), (.t 34)]⟩, 
 ⟨(some 30), none, .mv (.t 35)⟩, 
 ⟨(some 36), none, .ext (.t 30) 0⟩, 
 ⟨(some 37), none, .ext (.t 30) 1⟩, 
 ⟨(some 11), none, .al (.agg [(.sc (.string ⟨#[]⟩)), (.sc (.string ⟨#[]⟩)), (.sc (.int .i64 0)), (.sc (.int .i64 0)), (.sc (.int .i64 0)), (.sc (.int .i64 0))]) 6⟩, 
 ⟨none, none, .st 6 (.t 11) (.t 36)⟩, 
 ⟨(some 12), none, .mv (.t 37)⟩])
 (.seq (.seq (.reg [⟨(some 38), none, .ld (some 6) (.t 9)⟩, 
 ⟨(some 39), none, .ld (some 6) (.t 11)⟩, 
 ⟨(some 40), none, .bin .neq false (.t 38) (.t 39) (pu (.binOp .neq 23 (.tmp 38) (.tmp 39) 23) 4)⟩, 
 ⟨(some 41), none, .mv (.t 40)⟩, 
 ⟨(some 42), (some ((some 41), false)), .mv (.t 10)⟩, 
 ⟨(some 43), (some ((some 41), false)), .mv (.t 12)⟩, 
 ⟨(some 44), (some ((some 41), false)), .bin .neq false (.t 42) (.t 43) (pu (.binOp .neq 26 (.tmp 42) (.tmp 43) 26) 4)⟩, 
 ⟨(some 45), none, .pick (.t 41) (.k (.sc (.bool true))) (.t 44)⟩])
 (.cond (.t 45) (.seq (.reg [⟨(some 8), none, .mv (.k (.sc (.bool false)))⟩])
  .ret)
 .skip))
 (.seq (.reg [⟨(some 46), none, .mv (.t 10)⟩, 
 ⟨(some 47), none, .bin .neq false (.t 46) (.k (.sc (.int .i64 0))) (pu (.binOp .neq 26 (.tmp 46) (.const (.int .i64 0)) 26) 4)⟩, 
 ⟨(some 48), none, .mv (.t 47)⟩, 
 ⟨(some 49), (some ((some 48), false)), .ld (some 6) (.t 9)⟩, 
 ⟨(some 50), (some ((some 48), false)), .call 9 [(.t 49)]⟩, 
 ⟨(some 51), (some ((some 48), false)), .bin .eql false (.t 50) (.k (.sc (.int .i64 0))) (pu (.binOp .eql 26 (.tmp 50) (.const (.int .i64 0)) 26) 4)⟩, 
 ⟨(some 52), none, .pick (.t 48) (.k (.sc (.bool true))) (.t 51)⟩, 
 ⟨(some 53), none, .mv (.t 52)⟩, 
 ⟨(some 54), (some ((some 53), true)), .call 8 []⟩, 
 ⟨(some 55), none, .pick (.t 53) (.t 54) (.k (.sc (.bool false)))⟩, 
 ⟨(some 8), none, .mv (.t 55)⟩])
 .ret))))))
def k4 : List Nat := [0, 1, 2, 3, 4, 8, 9, 10, 11, 12, 20, 45]
theorem ic4 : factsI Try.prog 4 = some (56, [.tmp 8], c4) := by kernel_rfl

-- chargenet/chargenetlaw47.DisputeSteps (63 slots)
def c5 : IC :=
 (.seq (.reg [⟨(some 2), none, .bx (.t 0)⟩, 
 ⟨(some 3), none, .bx (.t 1)⟩, 
 ⟨(some 4), none, .mv (.k (.sc (.bool false)))⟩])
 (.seq (.seq (.reg [⟨(some 9), none, .ld (some 6) (.t 2)⟩, 
 ⟨(some 10), none, .call 7 [(.t 9)]⟩, 
 ⟨(some 11), none, .un .not (.t 10) (pu (.unOp .not 4 (.tmp 10)) 4)⟩, 
 ⟨(some 12), none, .mv (.t 11)⟩, 
 ⟨(some 13), (some ((some 12), false)), .sh 0 (.t 3)⟩, 
 ⟨(some 14), (some ((some 12), false)), .ld none (.t 13)⟩, 
 ⟨(some 15), (some ((some 12), false)), .lens (.t 14) (pu (.call ⟨.builtin .len, #[(.tmp 14)], #[9]⟩) 3)⟩, 
 ⟨(some 16), (some ((some 12), false)), .bin .gtr false (.t 15) (.k (.sc (.int .i64 50))) (pu (.binOp .gtr 3 (.tmp 15) (.const (.int .i64 50)) 3) 4)⟩, 
 ⟨(some 17), none, .pick (.t 12) (.k (.sc (.bool true))) (.t 16)⟩])
 (.cond (.t 17) (.seq (.reg [⟨(some 18), none, .call 8 []⟩, 
  ⟨(some 4), none, .mv (.t 18)⟩])
  .ret)
 .skip))
 (.seq (.reg [⟨(some 20), none, .ld (some 6) (.t 2)⟩, 
 ⟨(some 21), none, .sh 0 (.t 3)⟩, 
 ⟨(some 22), none, .ld none (.t 21)⟩, 
 ⟨(some 23), none, .sh 1 (.t 3)⟩, 
 ⟨(some 24), none, .ld none (.t 23)⟩, 
 ⟨(some 25), none, .sh 2 (.t 3)⟩, 
 ⟨(some 26), none, .ld none (.t 25)⟩, 
 ⟨(some 27), none, .sh 3 (.t 3)⟩, 
 ⟨(some 28), none, .ld none (.t 27)⟩, 
 ⟨(some 29), none, .call 14 [(.t 20), (.t 22), (.t 24), (.t 26), (.t 28)]⟩, 
 ⟨(some 19), none, .mv (.t 29)⟩, 
 ⟨(some 30), none, .ext (.t 19) 0⟩, 
 ⟨(some 31), none, .ext (.t 19) 1⟩, 
 ⟨(some 5), none, .al (.agg [(.sc (.string ⟨#[]⟩)), (.sc (.string ⟨#[]⟩)), (.sc (.int .i64 0)), (.sc (.int .i64 0)), (.sc (.int .i64 0)), (.sc (.int .i64 0))]) 6⟩, 
 ⟨none, none, .st 6 (.t 5) (.t 30)⟩, 
 ⟨(some 6), none, .mv (.t 31)⟩])
 (.seq (.reg [⟨(some 33), none, .ld (some 6) (.t 2)⟩, 
 ⟨(some 34), none, .sh 0 (.t 3)⟩, 
 ⟨(some 35), none, .ld none (.t 34)⟩, 
 ⟨(some 36), none, .sh 1 (.t 3)⟩, 
 ⟨(some 37), none, .ld none (.t 36)⟩, 
 ⟨(some 38), none, .sh 2 (.t 3)⟩, 
 ⟨(some 39), none, .ld none (.t 38)⟩, 
 ⟨(some 40), none, .sh 3 (.t 3)⟩, 
 ⟨(some 41), none, .ld none (.t 40)⟩, 
 ⟨(some 42), none, .call 15 [(.t 33), (.t 35), (.t 37), (.t 39), (.t 41)]⟩, 
 ⟨(some 32), none, .mv (.t 42)⟩, 
 ⟨(some 43), none, .ext (.t 32) 0⟩, 
 ⟨(some 44), none, .ext (.t 32) 1⟩, 
 ⟨(some 7), none, .al (.agg [(.sc (.string ⟨#[]⟩)), (.sc (.string ⟨#[]⟩)), (.sc (.int .i64 0)), (.sc (.int .i64 0)), (.sc (.int .i64 0)), (.sc (.int .i64 0))]) 6⟩, 
 ⟨none, none, .st 6 (.t 7) (.t 43)⟩, 
 ⟨(some 8), none, .mv (.t 44)⟩])
 (.seq (.seq (.reg [⟨(some 45), none, .ld (some 6) (.t 5)⟩, 
 ⟨(some 46), none, .ld (some 6) (.t 7)⟩, 
 ⟨(some 47), none, .bin .neq false (.t 45) (.t 46) (pu (.binOp .neq 23 (.tmp 45) (.tmp 46) 23) 4)⟩, 
 ⟨(some 48), none, .mv (.t 47)⟩, 
 ⟨(some 49), (some ((some 48), false)), .mv (.t 6)⟩, 
 ⟨(some 50), (some ((some 48), false)), .mv (.t 8)⟩, 
 ⟨(some 51), (some ((some 48), false)), .bin .neq false (.t 49) (.t 50) (pu (.binOp .neq 26 (.tmp 49) (.tmp 50) 26) 4)⟩, 
 ⟨(some 52), none, .pick (.t 48) (.k (.sc (.bool true))) (.t 51)⟩])
 (.cond (.t 52) (.seq (.reg [⟨(some 4), none, .mv (.k (.sc (.bool false)))⟩])
  .ret)
 .skip))
 (.seq (.reg [⟨(some 53), none, .mv (.t 6)⟩, 
 ⟨(some 54), none, .bin .neq false (.t 53) (.k (.sc (.int .i64 0))) (pu (.binOp .neq 26 (.tmp 53) (.const (.int .i64 0)) 26) 4)⟩, 
 ⟨(some 55), none, .mv (.t 54)⟩, 
 ⟨(some 56), (some ((some 55), false)), .ld (some 6) (.t 5)⟩, 
 ⟨(some 57), (some ((some 55), false)), .call 9 [(.t 56)]⟩, 
 ⟨(some 58), (some ((some 55), false)), .bin .eql false (.t 57) (.k (.sc (.int .i64 0))) (pu (.binOp .eql 26 (.tmp 57) (.const (.int .i64 0)) 26) 4)⟩, 
 ⟨(some 59), none, .pick (.t 55) (.k (.sc (.bool true))) (.t 58)⟩, 
 ⟨(some 60), none, .mv (.t 59)⟩, 
 ⟨(some 61), (some ((some 60), true)), .call 8 []⟩, 
 ⟨(some 62), none, .pick (.t 60) (.t 61) (.k (.sc (.bool false)))⟩, 
 ⟨(some 4), none, .mv (.t 62)⟩])
 .ret))))))
def k5 : List Nat := [0, 1, 2, 3, 4, 5, 6, 7, 8, 17, 52]
theorem ic5 : factsI Try.prog 5 = some (63, [.tmp 4], c5) := by kernel_rfl

-- chargenet/chargenetlaw47.DisputeRuns (207 slots)
def c6 : IC :=
 (.seq (.reg [⟨(some 4), none, .bx (.t 0)⟩, 
 ⟨(some 8), none, .mv (.k (.sc (.bool false)))⟩])
 (.seq (.seq (.reg [⟨(some 20), none, .ld (some 14) (.t 4)⟩, 
 ⟨(some 21), none, .call 11 [(.t 20)]⟩, 
 ⟨(some 22), none, .un .not (.t 21) (pu (.unOp .not 4 (.tmp 21)) 4)⟩, 
 ⟨(some 23), none, .mv (.t 22)⟩, 
 ⟨(some 24), (some ((some 23), false)), .mv (.t 3)⟩, 
 ⟨(some 25), (some ((some 23), false)), .len (.t 24) (pu (.call ⟨.builtin .len, #[(.tmp 24)], #[39]⟩) 3)⟩, 
 ⟨(some 26), (some ((some 23), false)), .bin .gtr false (.t 25) (.k (.sc (.int .i64 20))) (pu (.binOp .gtr 3 (.tmp 25) (.const (.int .i64 20)) 3) 4)⟩, 
 ⟨(some 27), none, .pick (.t 23) (.k (.sc (.bool true))) (.t 26)⟩])
 (.cond (.t 27) (.seq (.reg [⟨(some 28), none, .call 8 []⟩, 
  ⟨(some 8), none, .mv (.t 28)⟩])
  .ret)
 .skip))
 (.seq (.reg [⟨(some 30), none, .ld (some 14) (.t 4)⟩, 
 ⟨(some 31), none, .sh 2 (.t 4)⟩, 
 ⟨(some 32), none, .ld none (.t 31)⟩, 
 ⟨(some 33), none, .mv (.t 1)⟩, 
 ⟨(some 34), none, .mv (.t 2)⟩, 
 ⟨(some 35), none, .call 12 [(.t 30), (.t 32), (.t 33), (.t 34)]⟩, 
 ⟨(some 29), none, .mv (.t 35)⟩, 
 ⟨(some 36), none, .ext (.t 29) 0⟩, 
 ⟨(some 37), none, .ext (.t 29) 1⟩, 
 ⟨(some 9), none, .al (.agg [(.sc (.string ⟨#[]⟩)), (.sc (.string ⟨#[]⟩)), (.sc (.int .i64 0)), (.sc (.int .i64 0)), (.sc (.int .i64 0)), (.sc (.int .i64 0))]) 6⟩, 
 ⟨none, none, .st 6 (.t 9) (.t 36)⟩, 
 ⟨(some 10), none, .mv (.t 37)⟩])
 (.seq (.seq (.reg [⟨(some 38), none, .mv (.t 10)⟩, 
 ⟨(some 39), none, .bin .neq false (.t 38) (.k (.sc (.int .i64 0))) (pu (.binOp .neq 26 (.tmp 38) (.const (.int .i64 0)) 26) 4)⟩])
 (.cond (.t 39) (.seq (.reg [⟨(some 40), none, .call 8 []⟩, 
  ⟨(some 8), none, .mv (.t 40)⟩])
  .ret)
 .skip))
 (.seq (.reg [⟨(some 11), none, .mv (.k (.sc (.int .i64 0)))⟩])
 (.seq (.seq (.reg [⟨(some 12), none, .mv (.k (.sc (.int .i64 0)))⟩])
 (.block 0 (.loop (.seq (.seq (.reg [⟨(some 41), none, .mv (.t 12)⟩, 
  ⟨(some 42), none, .mv (.t 3)⟩, 
  ⟨(some 43), none, .len (.t 42) (pu (.call ⟨.builtin .len, #[(.tmp 42)], #[39]⟩) 3)⟩, 
  ⟨(some 44), none, .bin .lss false (.t 41) (.t 43) (pu (.binOp .lss 3 (.tmp 41) (.tmp 43) 3) 4)⟩])
  (.cond (.t 44) .skip
  (.exit 0)))
  (.seq (.block 1 (.seq (.reg [⟨(some 47), none, .mv (.t 3)⟩, 
  ⟨(some 48), none, .mv (.t 12)⟩, 
  ⟨(some 49), none, .ixs 4 (.t 47) (.t 48)⟩, 
  ⟨(some 50), none, .ld (some 4) (.t 49)⟩, 
  ⟨(some 13), none, .al (.agg [(.sc (.string ⟨#[]⟩)), (.sc (.int .i64 0)), (.sc (.int .i64 0)), (.sc (.int .i64 0))]) 4⟩, 
  ⟨none, none, .st 4 (.t 13) (.t 50)⟩])
  (.seq (.seq (.reg [⟨(some 51), none, .sh 0 (.t 13)⟩, 
  ⟨(some 52), none, .ld none (.t 51)⟩, 
  ⟨(some 53), none, .lens (.t 52) (pu (.call ⟨.builtin .len, #[(.tmp 52)], #[9]⟩) 3)⟩, 
  ⟨(some 54), none, .bin .gtr false (.t 53) (.k (.sc (.int .i64 50))) (pu (.binOp .gtr 3 (.tmp 53) (.const (.int .i64 50)) 3) 4)⟩])
  (.cond (.t 54) (.seq (.reg [⟨(some 55), none, .call 8 []⟩, 
   ⟨(some 8), none, .mv (.t 55)⟩])
   .ret)
  .skip))
  (.seq (.reg [⟨(some 57), none, .ld (some 6) (.t 9)⟩, 
  ⟨(some 58), none, .sh 0 (.t 13)⟩, 
  ⟨(some 59), none, .ld none (.t 58)⟩, 
  ⟨(some 60), none, .sh 1 (.t 13)⟩, 
  ⟨(some 61), none, .ld none (.t 60)⟩, 
  ⟨(some 62), none, .sh 2 (.t 13)⟩, 
  ⟨(some 63), none, .ld none (.t 62)⟩, 
  ⟨(some 64), none, .sh 3 (.t 13)⟩, 
  ⟨(some 65), none, .ld none (.t 64)⟩, 
  ⟨(some 66), none, .call 14 [(.t 57), (.t 59), (.t 61), (.t 63), (.t 65)]⟩, 
  ⟨(some 56), none, .mv (.t 66)⟩, 
  ⟨(some 67), none, .ext (.t 56) 0⟩, 
  ⟨(some 68), none, .ext (.t 56) 1⟩, 
  ⟨(some 14), none, .al (.agg [(.sc (.string ⟨#[]⟩)), (.sc (.string ⟨#[]⟩)), (.sc (.int .i64 0)), (.sc (.int .i64 0)), (.sc (.int .i64 0)), (.sc (.int .i64 0))]) 6⟩, 
  ⟨none, none, .st 6 (.t 14) (.t 67)⟩, 
  ⟨(some 15), none, .mv (.t 68)⟩])
  (.seq (.seq (.reg [⟨(some 69), none, .mv (.t 15)⟩, 
  ⟨(some 70), none, .bin .neq false (.t 69) (.k (.sc (.int .i64 0))) (pu (.binOp .neq 26 (.tmp 69) (.const (.int .i64 0)) 26) 4)⟩])
  (.cond (.t 70) (.seq (.seq (.reg [⟨(some 71), none, .ld (some 6) (.t 14)⟩, 
   ⟨(some 72), none, .ld (some 6) (.t 9)⟩, 
   ⟨(some 73), none, .bin .neq false (.t 71) (.t 72) (pu (.binOp .neq 23 (.tmp 71) (.tmp 72) 23) 4)⟩])
   (.cond (.t 73) (.seq (.reg [⟨(some 8), none, .mv (.k (.sc (.bool false)))⟩])
    .ret)
   .skip))
   (.exit 1))
  .skip))
  (.seq (.reg [⟨(some 74), none, .sh 2 (.t 14)⟩, 
  ⟨(some 75), none, .ld none (.t 74)⟩, 
  ⟨(some 76), none, .bin .eql false (.t 75) (.k (.sc (.int .i64 4))) (pu (.binOp .eql 3 (.tmp 75) (.const (.int .i64 4)) 3) 4)⟩, 
  ⟨(some 77), none, .mv (.t 76)⟩, 
  ⟨(some 78), (some ((some 77), false)), .sh 2 (.t 14)⟩, 
  ⟨(some 79), (some ((some 77), false)), .ld none (.t 78)⟩, 
  ⟨(some 80), (some ((some 77), false)), .bin .eql false (.t 79) (.k (.sc (.int .i64 5))) (pu (.binOp .eql 3 (.tmp 79) (.const (.int .i64 5)) 3) 4)⟩, 
  ⟨(some 81), none, .pick (.t 77) (.k (.sc (.bool true))) (.t 80)⟩, 
  ⟨(some 82), none, .mv (.t 81)⟩, 
  ⟨(some 83), (some ((some 82), false)), .sh 2 (.t 14)⟩, 
  ⟨(some 84), (some ((some 82), false)), .ld none (.t 83)⟩, 
  ⟨(some 85), (some ((some 82), false)), .bin .eql false (.t 84) (.k (.sc (.int .i64 6))) (pu (.binOp .eql 3 (.tmp 84) (.const (.int .i64 6)) 3) 4)⟩, 
  ⟨(some 86), none, .pick (.t 82) (.k (.sc (.bool true))) (.t 85)⟩, 
  ⟨(some 16), none, .mv (.t 86)⟩])
  (.seq (.seq (.reg [⟨(some 87), none, .sh 2 (.t 9)⟩, 
  ⟨(some 88), none, .ld none (.t 87)⟩, 
  ⟨(some 89), none, .bin .geq false (.t 88) (.k (.sc (.int .i64 4))) (pu (.binOp .geq 3 (.tmp 88) (.const (.int .i64 4)) 3) 4)⟩, 
  ⟨(some 90), none, .mv (.t 89)⟩, 
  ⟨(some 91), (some ((some 90), false)), .sh 2 (.t 14)⟩, 
  ⟨(some 92), (some ((some 90), false)), .ld none (.t 91)⟩, 
  ⟨(some 93), (some ((some 90), false)), .sh 2 (.t 9)⟩, 
  ⟨(some 94), (some ((some 90), false)), .ld none (.t 93)⟩, 
  ⟨(some 95), (some ((some 90), false)), .bin .leq false (.t 92) (.t 94) (pu (.binOp .leq 3 (.tmp 92) (.tmp 94) 3) 4)⟩, 
  ⟨(some 96), none, .pick (.t 90) (.k (.sc (.bool true))) (.t 95)⟩, 
  ⟨(some 97), none, .mv (.t 96)⟩, 
  ⟨(some 98), (some ((some 97), false)), .sh 0 (.t 14)⟩, 
  ⟨(some 99), (some ((some 97), false)), .ld none (.t 98)⟩, 
  ⟨(some 100), (some ((some 97), false)), .sh 0 (.t 9)⟩, 
  ⟨(some 101), (some ((some 97), false)), .ld none (.t 100)⟩, 
  ⟨(some 102), (some ((some 97), false)), .bin .neq false (.t 99) (.t 101) (pu (.binOp .neq 9 (.tmp 99) (.tmp 101) 9) 4)⟩, 
  ⟨(some 103), none, .pick (.t 97) (.k (.sc (.bool true))) (.t 102)⟩, 
  ⟨(some 104), none, .mv (.t 103)⟩, 
  ⟨(some 105), (some ((some 104), false)), .sh 1 (.t 14)⟩, 
  ⟨(some 106), (some ((some 104), false)), .ld none (.t 105)⟩, 
  ⟨(some 107), (some ((some 104), false)), .sh 1 (.t 9)⟩, 
  ⟨(some 108), (some ((some 104), false)), .ld none (.t 107)⟩, 
  ⟨(some 109), (some ((some 104), false)), .bin .neq false (.t 106) (.t 108) (pu (.binOp .neq 9 (.tmp 106) (.tmp 108) 9) 4)⟩, 
  ⟨(some 110), none, .pick (.t 104) (.k (.sc (.bool true))) (.t 109)⟩, 
  ⟨(some 111), none, .mv (.t 110)⟩, 
  ⟨(some 112), (some ((some 111), false)), .sh 3 (.t 14)⟩, 
  ⟨(some 113), (some ((some 111), false)), .ld none (.t 112)⟩, 
  ⟨(some 114), (some ((some 111), false)), .sh 3 (.t 9)⟩, 
  ⟨(some 115), (some ((some 111), false)), .ld none (.t 114)⟩, 
  ⟨(some 116), (some ((some 111), false)), .bin .neq false (.t 113) (.t 115) (pu (.binOp .neq 3 (.tmp 113) (.tmp 115) 3) 4)⟩, 
  ⟨(some 117), none, .pick (.t 111) (.k (.sc (.bool true))) (.t 116)⟩, 
  ⟨(some 118), none, .mv (.t 117)⟩, 
  ⟨(some 119), (some ((some 118), false)), .sh 4 (.t 14)⟩, 
  ⟨(some 120), (some ((some 118), false)), .ld none (.t 119)⟩, 
  ⟨(some 121), (some ((some 118), false)), .sh 4 (.t 9)⟩, 
  ⟨(some 122), (some ((some 118), false)), .ld none (.t 121)⟩, 
  ⟨(some 123), (some ((some 118), false)), .bin .neq false (.t 120) (.t 122) (pu (.binOp .neq 3 (.tmp 120) (.tmp 122) 3) 4)⟩, 
  ⟨(some 124), none, .pick (.t 118) (.k (.sc (.bool true))) (.t 123)⟩])
  (.cond (.t 124) (.seq (.reg [⟨(some 8), none, .mv (.k (.sc (.bool false)))⟩])
   .ret)
  .skip))
  (.seq (.seq (.reg [⟨(some 125), none, .sh 2 (.t 14)⟩, 
  ⟨(some 126), none, .ld none (.t 125)⟩, 
  ⟨(some 127), none, .bin .eql false (.t 126) (.k (.sc (.int .i64 4))) (pu (.binOp .eql 3 (.tmp 126) (.const (.int .i64 4)) 3) 4)⟩, 
  ⟨(some 128), none, .mv (.t 127)⟩, 
  ⟨(some 129), (some ((some 128), false)), .sh 2 (.t 14)⟩, 
  ⟨(some 130), (some ((some 128), false)), .ld none (.t 129)⟩, 
  ⟨(some 131), (some ((some 128), false)), .bin .eql false (.t 130) (.k (.sc (.int .i64 5))) (pu (.binOp .eql 3 (.tmp 130) (.const (.int .i64 5)) 3) 4)⟩, 
  ⟨(some 132), none, .pick (.t 128) (.k (.sc (.bool true))) (.t 131)⟩, 
  ⟨(some 133), none, .mv (.t 132)⟩, 
  ⟨(some 134), (some ((some 133), false)), .sh 2 (.t 14)⟩, 
  ⟨(some 135), (some ((some 133), false)), .ld none (.t 134)⟩, 
  ⟨(some 136), (some ((some 133), false)), .bin .eql false (.t 135) (.k (.sc (.int .i64 2))) (pu (.binOp .eql 3 (.tmp 135) (.const (.int .i64 2)) 3) 4)⟩, 
  ⟨(some 137), none, .pick (.t 133) (.k (.sc (.bool true))) (.t 136)⟩, 
  ⟨(some 138), none, .sh 0 (.t 13)⟩, 
  ⟨(some 139), none, .ld none (.t 138)⟩, 
  ⟨(some 140), none, .sh 2 (.t 4)⟩, 
  ⟨(some 141), none, .ld none (.t 140)⟩, 
  ⟨(some 142), none, .bin .eql false (.t 139) (.t 141) (pu (.binOp .eql 9 (.tmp 139) (.tmp 141) 9) 4)⟩, 
  ⟨(some 143), none, .bin .eql true (.t 137) (.t 142) (pu (.binOp .eql 4 (.tmp 137) (.tmp 142) 4) 4)⟩])
  (.cond (.t 143) (.seq (.reg [⟨(some 8), none, .mv (.k (.sc (.bool false)))⟩])
   .ret)
  .skip))
  (.seq (.reg [⟨(some 144), none, .ld (some 14) (.t 4)⟩, 
  ⟨(some 145), none, .ld (some 6) (.t 14)⟩, 
  ⟨(some 146), none, .bsl 6 1 true [(.sc (.string ⟨#[]⟩)), (.sc (.string ⟨#[]⟩)), (.sc (.int .i64 0)), (.sc (.int .i64 0)), (.sc (.int .i64 0)), (.sc (.int .i64 0))] [(0, 6, (.t 145))]⟩, 
  ⟨(some 147), none, .call 16 [(.t 144), (.t 146)]⟩, 
  ⟨(some 17), none, .mv (.t 147)⟩])
  (.seq (.seq (.reg [⟨(some 148), none, .sh 2 (.t 14)⟩, 
  ⟨(some 149), none, .ld none (.t 148)⟩, 
  ⟨(some 150), none, .bin .eql false (.t 149) (.k (.sc (.int .i64 4))) (pu (.binOp .eql 3 (.tmp 149) (.const (.int .i64 4)) 3) 4)⟩, 
  ⟨(some 151), none, .mv (.t 150)⟩, 
  ⟨(some 152), (some ((some 151), true)), .mv (.t 17)⟩, 
  ⟨(some 153), (some ((some 151), true)), .sh 11 (.t 4)⟩, 
  ⟨(some 154), (some ((some 151), true)), .ld none (.t 153)⟩, 
  ⟨(some 155), (some ((some 151), true)), .sh 2 (.t 13)⟩, 
  ⟨(some 156), (some ((some 151), true)), .ld none (.t 155)⟩, 
  ⟨(some 157), (some ((some 151), true)), .bin .sub false (.t 154) (.t 156) (pu (.binOp .sub 3 (.tmp 154) (.tmp 156) 3) 3)⟩, 
  ⟨(some 158), (some ((some 151), true)), .bin .neq false (.t 152) (.t 157) (pu (.binOp .neq 3 (.tmp 152) (.tmp 157) 3) 4)⟩, 
  ⟨(some 159), (some ((some 151), true)), .mv (.t 158)⟩, 
  ⟨(some 160), (some ((some 159), false)), .mv (.t 17)⟩, 
  ⟨(some 161), (some ((some 159), false)), .sh 11 (.t 4)⟩, 
  ⟨(some 162), (some ((some 159), false)), .ld none (.t 161)⟩, 
  ⟨(some 163), (some ((some 159), false)), .mv (.t 1)⟩, 
  ⟨(some 164), (some ((some 159), false)), .bin .sub false (.t 162) (.t 163) (pu (.binOp .sub 3 (.tmp 162) (.tmp 163) 3) 3)⟩, 
  ⟨(some 165), (some ((some 159), false)), .bin .lss false (.t 160) (.t 164) (pu (.binOp .lss 3 (.tmp 160) (.tmp 164) 3) 4)⟩, 
  ⟨(some 166), (some ((some 151), true)), .pick (.t 159) (.k (.sc (.bool true))) (.t 165)⟩, 
  ⟨(some 167), (some ((some 151), true)), .mv (.t 166)⟩, 
  ⟨(some 168), (some ((some 167), false)), .mv (.t 17)⟩, 
  ⟨(some 169), (some ((some 167), false)), .bin .lss false (.t 168) (.k (.sc (.int .i64 0))) (pu (.binOp .lss 3 (.tmp 168) (.const (.int .i64 0)) 3) 4)⟩, 
  ⟨(some 170), (some ((some 151), true)), .pick (.t 167) (.k (.sc (.bool true))) (.t 169)⟩, 
  ⟨(some 171), none, .pick (.t 151) (.t 170) (.k (.sc (.bool false)))⟩, 
  ⟨(some 172), none, .mv (.t 171)⟩, 
  ⟨(some 173), (some ((some 172), false)), .sh 2 (.t 14)⟩, 
  ⟨(some 174), (some ((some 172), false)), .ld none (.t 173)⟩, 
  ⟨(some 175), (some ((some 172), false)), .bin .neq false (.t 174) (.k (.sc (.int .i64 4))) (pu (.binOp .neq 3 (.tmp 174) (.const (.int .i64 4)) 3) 4)⟩, 
  ⟨(some 176), (some ((some 172), false)), .mv (.t 175)⟩, 
  ⟨(some 177), (some ((some 176), true)), .mv (.t 17)⟩, 
  ⟨(some 178), (some ((some 176), true)), .sh 11 (.t 4)⟩, 
  ⟨(some 179), (some ((some 176), true)), .ld none (.t 178)⟩, 
  ⟨(some 180), (some ((some 176), true)), .bin .neq false (.t 177) (.t 179) (pu (.binOp .neq 3 (.tmp 177) (.tmp 179) 3) 4)⟩, 
  ⟨(some 181), (some ((some 172), false)), .pick (.t 176) (.t 180) (.k (.sc (.bool false)))⟩, 
  ⟨(some 182), none, .pick (.t 172) (.k (.sc (.bool true))) (.t 181)⟩])
  (.cond (.t 182) (.seq (.reg [⟨(some 8), none, .mv (.k (.sc (.bool false)))⟩])
   .ret)
  .skip))
  (.seq (.seq (.reg [⟨(some 183), none, .mv (.t 16)⟩, 
  ⟨(some 184), none, .un .not (.t 183) (pu (.unOp .not 4 (.tmp 183)) 4)⟩])
  (.cond (.t 184) (.seq (.reg [⟨(some 186), none, .ld (some 6) (.t 14)⟩, 
   ⟨(some 187), none, .sh 2 (.t 4)⟩, 
   ⟨(some 188), none, .ld none (.t 187)⟩, 
   ⟨(some 189), none, .call 14 [(.t 186), (.t 188), (.k (.sc (.int .i64 5))), (.k (.sc (.int .i64 0))), (.k (.sc (.int .i64 268435456)))]⟩, 
   ⟨(some 185), none, .mv (.t 189)⟩, 
   ⟨(some 190), none, .ext (.t 185) 0⟩, 
   ⟨(some 191), none, .ext (.t 185) 1⟩, 
   ⟨(some 18), none, .al (.agg [(.sc (.string ⟨#[]⟩)), (.sc (.string ⟨#[]⟩)), (.sc (.int .i64 0)), (.sc (.int .i64 0)), (.sc (.int .i64 0)), (.sc (.int .i64 0))]) 6⟩, 
   ⟨none, none, .st 6 (.t 18) (.t 190)⟩, 
   ⟨(some 19), none, .mv (.t 191)⟩])
   (.seq (.reg [⟨(some 192), none, .mv (.t 19)⟩, 
   ⟨(some 193), none, .bin .neq false (.t 192) (.k (.sc (.int .i64 0))) (pu (.binOp .neq 26 (.tmp 192) (.const (.int .i64 0)) 26) 4)⟩, 
   ⟨(some 194), none, .mv (.t 193)⟩, 
   ⟨(some 195), (some ((some 194), false)), .sh 2 (.t 18)⟩, 
   ⟨(some 196), (some ((some 194), false)), .ld none (.t 195)⟩, 
   ⟨(some 197), (some ((some 194), false)), .bin .neq false (.t 196) (.k (.sc (.int .i64 6))) (pu (.binOp .neq 3 (.tmp 196) (.const (.int .i64 6)) 3) 4)⟩, 
   ⟨(some 198), none, .pick (.t 194) (.k (.sc (.bool true))) (.t 197)⟩])
   (.cond (.t 198) (.seq (.reg [⟨(some 8), none, .mv (.k (.sc (.bool false)))⟩])
    .ret)
   .skip)))
  .skip))
  (.seq (.reg [⟨(some 199), none, .mv (.t 11)⟩, 
  ⟨(some 200), none, .bin .add false (.t 199) (.k (.sc (.int .i64 1))) (pu (.binOp .add 3 (.tmp 199) (.const (.int .i64 1)) 3) 3)⟩, 
  ⟨(some 11), none, .mv (.t 200)⟩])
  (.reg [⟨(some 201), none, .ld (some 6) (.t 14)⟩, 
  ⟨none, none, .st 6 (.t 9) (.t 201)⟩])))))))))))))
  (.reg [⟨(some 45), none, .mv (.t 12)⟩, 
  ⟨(some 46), none, .bin .add false (.t 45) (.k (.sc (.int .i64 1))) (pu (.binOp .add 3 (.tmp 45) (.const (.int .i64 1)) 3) 3)⟩, 
  ⟨(some 12), none, .mv (.t 46)⟩]))))))
 (.seq (.reg [⟨(some 202), none, .mv (.t 11)⟩, 
 ⟨(some 203), none, .bin .leq false (.t 202) (.k (.sc (.int .i64 3))) (pu (.binOp .leq 3 (.tmp 202) (.const (.int .i64 3)) 3) 4)⟩, 
 ⟨(some 204), none, .mv (.t 203)⟩, 
 ⟨(some 205), (some ((some 204), true)), .call 8 []⟩, 
 ⟨(some 206), none, .pick (.t 204) (.t 205) (.k (.sc (.bool false)))⟩, 
 ⟨(some 8), none, .mv (.t 206)⟩])
 .ret)))))))
def k6 : List Nat := [0, 1, 2, 3, 4, 8, 9, 10, 11, 12, 13, 14, 15, 16, 17, 18, 19, 27, 39, 44, 54, 70, 73, 124, 143, 182, 184, 198]
theorem ic6 : factsI Try.prog 6 = some (207, [.tmp 8], c6) := by kernel_rfl

-- chargenet/chargenetlaw47.short (13 slots)
def c7 : IC :=
 (.seq (.reg [⟨(some 1), none, .bx (.t 0)⟩, 
 ⟨(some 2), none, .mv (.k (.sc (.bool false)))⟩])
 (.seq (.reg [⟨(some 3), none, .sh 0 (.t 1)⟩, 
 ⟨(some 4), none, .ld none (.t 3)⟩, 
 ⟨(some 5), none, .lens (.t 4) (pu (.call ⟨.builtin .len, #[(.tmp 4)], #[9]⟩) 3)⟩, 
 ⟨(some 6), none, .bin .leq false (.t 5) (.k (.sc (.int .i64 50))) (pu (.binOp .leq 3 (.tmp 5) (.const (.int .i64 50)) 3) 4)⟩, 
 ⟨(some 7), none, .mv (.t 6)⟩, 
 ⟨(some 8), (some ((some 7), true)), .sh 1 (.t 1)⟩, 
 ⟨(some 9), (some ((some 7), true)), .ld none (.t 8)⟩, 
 ⟨(some 10), (some ((some 7), true)), .lens (.t 9) (pu (.call ⟨.builtin .len, #[(.tmp 9)], #[9]⟩) 3)⟩, 
 ⟨(some 11), (some ((some 7), true)), .bin .leq false (.t 10) (.k (.sc (.int .i64 50))) (pu (.binOp .leq 3 (.tmp 10) (.const (.int .i64 50)) 3) 4)⟩, 
 ⟨(some 12), none, .pick (.t 7) (.t 11) (.k (.sc (.bool false)))⟩, 
 ⟨(some 2), none, .mv (.t 12)⟩])
 .ret))
def k7 : List Nat := [0, 1, 2]
theorem ic7 : factsI Try.prog 7 = some (13, [.tmp 2], c7) := by kernel_rfl

-- chargenet/chargenetlaw47.awake (121 slots)
def c8 : IC :=
 (.seq (.reg [⟨(some 0), none, .mv (.k (.sc (.bool false)))⟩])
 (.seq (.reg [⟨(some 16), none, .call 17 []⟩, 
 ⟨(some 1), none, .al (.agg [(.sc (.string ⟨#[]⟩)), (.sc (.string ⟨#[]⟩)), (.sc (.string ⟨#[]⟩)), (.sc (.string ⟨#[]⟩)), (.sc (.int .i64 0)), (.sc (.int .i64 0)), (.sc (.int .i64 0)), (.sc (.int .i64 0)), (.sc (.string ⟨#[]⟩)), (.sc (.string ⟨#[]⟩)), (.sc (.slice none 0 0)), (.sc (.int .i64 0)), (.sc (.bool false)), (.sc (.string ⟨#[]⟩))]) 14⟩, 
 ⟨none, none, .st 14 (.t 1) (.t 16)⟩])
 (.seq (.reg [⟨(some 18), none, .ld (some 14) (.t 1)⟩, 
 ⟨(some 19), none, .call 12 [(.t 18), (.k (.sc (.string ⟨#[66]⟩))), (.k (.sc (.int .i64 3000))), (.k (.sc (.int .i64 200)))]⟩, 
 ⟨(some 17), none, .mv (.t 19)⟩, 
 ⟨(some 20), none, .ext (.t 17) 0⟩, 
 ⟨(some 21), none, .ext (.t 17) 1⟩, 
 ⟨(some 2), none, .al (.agg [(.sc (.string ⟨#[]⟩)), (.sc (.string ⟨#[]⟩)), (.sc (.int .i64 0)), (.sc (.int .i64 0)), (.sc (.int .i64 0)), (.sc (.int .i64 0))]) 6⟩, 
 ⟨none, none, .st 6 (.t 2) (.t 20)⟩, 
 ⟨(some 3), none, .mv (.t 21)⟩])
 (.seq (.reg [⟨(some 23), none, .ld (some 14) (.t 1)⟩, 
 ⟨(some 24), none, .call 12 [(.t 23), (.k (.sc (.string ⟨#[65]⟩))), (.k (.sc (.int .i64 3000))), (.k (.sc (.int .i64 200)))]⟩, 
 ⟨(some 22), none, .mv (.t 24)⟩, 
 ⟨(some 25), none, .ext (.t 22) 0⟩, 
 ⟨(some 26), none, .ext (.t 22) 1⟩, 
 ⟨(some 4), none, .al (.agg [(.sc (.string ⟨#[]⟩)), (.sc (.string ⟨#[]⟩)), (.sc (.int .i64 0)), (.sc (.int .i64 0)), (.sc (.int .i64 0)), (.sc (.int .i64 0))]) 6⟩, 
 ⟨none, none, .st 6 (.t 4) (.t 25)⟩, 
 ⟨(some 5), none, .mv (.t 26)⟩])
 (.seq (.reg [⟨(some 28), none, .ld (some 14) (.t 1)⟩, 
 ⟨(some 29), none, .call 12 [(.t 28), (.k (.sc (.string ⟨#[66]⟩))), (.k (.sc (.int .i64 3000))), (.k (.sc (.int .i64 43301)))]⟩, 
 ⟨(some 27), none, .mv (.t 29)⟩, 
 ⟨(some 30), none, .ext (.t 27) 0⟩, 
 ⟨(some 31), none, .ext (.t 27) 1⟩, 
 ⟨(some 6), none, .al (.agg [(.sc (.string ⟨#[]⟩)), (.sc (.string ⟨#[]⟩)), (.sc (.int .i64 0)), (.sc (.int .i64 0)), (.sc (.int .i64 0)), (.sc (.int .i64 0))]) 6⟩, 
 ⟨none, none, .st 6 (.t 6) (.t 30)⟩, 
 ⟨(some 7), none, .mv (.t 31)⟩])
 (.seq (.seq (.reg [⟨(some 32), none, .mv (.t 3)⟩, 
 ⟨(some 33), none, .bin .neq false (.t 32) (.k (.sc (.int .i64 0))) (pu (.binOp .neq 26 (.tmp 32) (.const (.int .i64 0)) 26) 4)⟩, 
 ⟨(some 34), none, .mv (.t 33)⟩, 
 ⟨(some 35), (some ((some 34), false)), .sh 2 (.t 2)⟩, 
 ⟨(some 36), (some ((some 34), false)), .ld none (.t 35)⟩, 
 ⟨(some 37), (some ((some 34), false)), .bin .neq false (.t 36) (.k (.sc (.int .i64 1))) (pu (.binOp .neq 3 (.tmp 36) (.const (.int .i64 1)) 3) 4)⟩, 
 ⟨(some 38), none, .pick (.t 34) (.k (.sc (.bool true))) (.t 37)⟩, 
 ⟨(some 39), none, .mv (.t 38)⟩, 
 ⟨(some 40), (some ((some 39), false)), .sh 4 (.t 2)⟩, 
 ⟨(some 41), (some ((some 39), false)), .ld none (.t 40)⟩, 
 ⟨(some 42), (some ((some 39), false)), .bin .neq false (.t 41) (.k (.sc (.int .i64 3000))) (pu (.binOp .neq 3 (.tmp 41) (.const (.int .i64 3000)) 3) 4)⟩, 
 ⟨(some 43), none, .pick (.t 39) (.k (.sc (.bool true))) (.t 42)⟩, 
 ⟨(some 44), none, .mv (.t 43)⟩, 
 ⟨(some 45), (some ((some 44), false)), .mv (.t 5)⟩, 
 ⟨(some 46), (some ((some 44), false)), .bin .neq false (.t 45) (.k (.sc (.int .i64 15))) (pu (.binOp .neq 26 (.tmp 45) (.const (.int .i64 15)) 26) 4)⟩, 
 ⟨(some 47), none, .pick (.t 44) (.k (.sc (.bool true))) (.t 46)⟩, 
 ⟨(some 48), none, .mv (.t 47)⟩, 
 ⟨(some 49), (some ((some 48), false)), .mv (.t 7)⟩, 
 ⟨(some 50), (some ((some 48), false)), .bin .neq false (.t 49) (.k (.sc (.int .i64 12))) (pu (.binOp .neq 26 (.tmp 49) (.const (.int .i64 12)) 26) 4)⟩, 
 ⟨(some 51), none, .pick (.t 48) (.k (.sc (.bool true))) (.t 50)⟩, 
 ⟨(some 52), none, .mv (.t 51)⟩, 
 ⟨(some 53), (some ((some 52), false)), .ld (some 6) (.t 2)⟩, 
 ⟨(some 54), (some ((some 52), false)), .call 9 [(.t 53)]⟩, 
 ⟨(some 55), (some ((some 52), false)), .bin .neq false (.t 54) (.k (.sc (.int .i64 0))) (pu (.binOp .neq 26 (.tmp 54) (.const (.int .i64 0)) 26) 4)⟩, 
 ⟨(some 56), none, .pick (.t 52) (.k (.sc (.bool true))) (.t 55)⟩])
 (.cond (.t 56) (.seq (.reg [⟨(some 0), none, .mv (.k (.sc (.bool false)))⟩])
  .ret)
 .skip))
 (.seq (.reg [⟨(some 58), none, .ld (some 6) (.t 2)⟩, 
 ⟨(some 59), none, .call 14 [(.t 58), (.k (.sc (.string ⟨#[65]⟩))), (.k (.sc (.int .i64 1))), (.k (.sc (.int .i64 0))), (.k (.sc (.int .i64 300)))]⟩, 
 ⟨(some 57), none, .mv (.t 59)⟩, 
 ⟨(some 60), none, .ext (.t 57) 0⟩, 
 ⟨(some 61), none, .ext (.t 57) 1⟩, 
 ⟨(some 8), none, .al (.agg [(.sc (.string ⟨#[]⟩)), (.sc (.string ⟨#[]⟩)), (.sc (.int .i64 0)), (.sc (.int .i64 0)), (.sc (.int .i64 0)), (.sc (.int .i64 0))]) 6⟩, 
 ⟨none, none, .st 6 (.t 8) (.t 60)⟩, 
 ⟨(some 9), none, .mv (.t 61)⟩])
 (.seq (.reg [⟨(some 63), none, .ld (some 6) (.t 8)⟩, 
 ⟨(some 64), none, .call 14 [(.t 63), (.k (.sc (.string ⟨#[65]⟩))), (.k (.sc (.int .i64 3))), (.k (.sc (.int .i64 1000))), (.k (.sc (.int .i64 300)))]⟩, 
 ⟨(some 62), none, .mv (.t 64)⟩, 
 ⟨(some 65), none, .ext (.t 62) 0⟩, 
 ⟨(some 66), none, .ext (.t 62) 1⟩, 
 ⟨(some 10), none, .al (.agg [(.sc (.string ⟨#[]⟩)), (.sc (.string ⟨#[]⟩)), (.sc (.int .i64 0)), (.sc (.int .i64 0)), (.sc (.int .i64 0)), (.sc (.int .i64 0))]) 6⟩, 
 ⟨none, none, .st 6 (.t 10) (.t 65)⟩, 
 ⟨(some 11), none, .mv (.t 66)⟩])
 (.seq (.reg [⟨(some 68), none, .ld (some 6) (.t 2)⟩, 
 ⟨(some 69), none, .call 14 [(.t 68), (.k (.sc (.string ⟨#[65]⟩))), (.k (.sc (.int .i64 4))), (.k (.sc (.int .i64 0))), (.k (.sc (.int .i64 300)))]⟩, 
 ⟨(some 67), none, .mv (.t 69)⟩, 
 ⟨(some 70), none, .ext (.t 67) 0⟩, 
 ⟨(some 71), none, .ext (.t 67) 1⟩, 
 ⟨(some 12), none, .al (.agg [(.sc (.string ⟨#[]⟩)), (.sc (.string ⟨#[]⟩)), (.sc (.int .i64 0)), (.sc (.int .i64 0)), (.sc (.int .i64 0)), (.sc (.int .i64 0))]) 6⟩, 
 ⟨none, none, .st 6 (.t 12) (.t 70)⟩, 
 ⟨(some 13), none, .mv (.t 71)⟩])
 (.seq (.reg [⟨(some 73), none, .ld (some 6) (.t 2)⟩, 
 ⟨(some 74), none, .call 14 [(.t 73), (.k (.sc (.string ⟨#[66]⟩))), (.k (.sc (.int .i64 2))), (.k (.sc (.int .i64 0))), (.k (.sc (.int .i64 43400)))]⟩, 
 ⟨(some 72), none, .mv (.t 74)⟩, 
 ⟨(some 75), none, .ext (.t 72) 0⟩, 
 ⟨(some 76), none, .ext (.t 72) 1⟩, 
 ⟨(some 14), none, .al (.agg [(.sc (.string ⟨#[]⟩)), (.sc (.string ⟨#[]⟩)), (.sc (.int .i64 0)), (.sc (.int .i64 0)), (.sc (.int .i64 0)), (.sc (.int .i64 0))]) 6⟩, 
 ⟨none, none, .st 6 (.t 14) (.t 75)⟩, 
 ⟨(some 15), none, .mv (.t 76)⟩])
 (.seq (.seq (.reg [⟨(some 77), none, .sh 2 (.t 8)⟩, 
 ⟨(some 78), none, .ld none (.t 77)⟩, 
 ⟨(some 79), none, .bin .neq false (.t 78) (.k (.sc (.int .i64 2))) (pu (.binOp .neq 3 (.tmp 78) (.const (.int .i64 2)) 3) 4)⟩, 
 ⟨(some 80), none, .mv (.t 79)⟩, 
 ⟨(some 81), (some ((some 80), false)), .mv (.t 9)⟩, 
 ⟨(some 82), (some ((some 80), false)), .bin .neq false (.t 81) (.k (.sc (.int .i64 0))) (pu (.binOp .neq 26 (.tmp 81) (.const (.int .i64 0)) 26) 4)⟩, 
 ⟨(some 83), none, .pick (.t 80) (.k (.sc (.bool true))) (.t 82)⟩, 
 ⟨(some 84), none, .mv (.t 83)⟩, 
 ⟨(some 85), (some ((some 84), false)), .sh 2 (.t 10)⟩, 
 ⟨(some 86), (some ((some 84), false)), .ld none (.t 85)⟩, 
 ⟨(some 87), (some ((some 84), false)), .bin .neq false (.t 86) (.k (.sc (.int .i64 4))) (pu (.binOp .neq 3 (.tmp 86) (.const (.int .i64 4)) 3) 4)⟩, 
 ⟨(some 88), none, .pick (.t 84) (.k (.sc (.bool true))) (.t 87)⟩, 
 ⟨(some 89), none, .mv (.t 88)⟩, 
 ⟨(some 90), (some ((some 89), false)), .mv (.t 11)⟩, 
 ⟨(some 91), (some ((some 89), false)), .bin .neq false (.t 90) (.k (.sc (.int .i64 0))) (pu (.binOp .neq 26 (.tmp 90) (.const (.int .i64 0)) 26) 4)⟩, 
 ⟨(some 92), none, .pick (.t 89) (.k (.sc (.bool true))) (.t 91)⟩, 
 ⟨(some 93), none, .mv (.t 92)⟩, 
 ⟨(some 94), (some ((some 93), false)), .mv (.t 13)⟩, 
 ⟨(some 95), (some ((some 93), false)), .bin .neq false (.t 94) (.k (.sc (.int .i64 10))) (pu (.binOp .neq 26 (.tmp 94) (.const (.int .i64 10)) 26) 4)⟩, 
 ⟨(some 96), none, .pick (.t 93) (.k (.sc (.bool true))) (.t 95)⟩, 
 ⟨(some 97), none, .mv (.t 96)⟩, 
 ⟨(some 98), (some ((some 97), false)), .sh 2 (.t 14)⟩, 
 ⟨(some 99), (some ((some 97), false)), .ld none (.t 98)⟩, 
 ⟨(some 100), (some ((some 97), false)), .bin .neq false (.t 99) (.k (.sc (.int .i64 3))) (pu (.binOp .neq 3 (.tmp 99) (.const (.int .i64 3)) 3) 4)⟩, 
 ⟨(some 101), none, .pick (.t 97) (.k (.sc (.bool true))) (.t 100)⟩, 
 ⟨(some 102), none, .mv (.t 101)⟩, 
 ⟨(some 103), (some ((some 102), false)), .mv (.t 15)⟩, 
 ⟨(some 104), (some ((some 102), false)), .bin .neq false (.t 103) (.k (.sc (.int .i64 0))) (pu (.binOp .neq 26 (.tmp 103) (.const (.int .i64 0)) 26) 4)⟩, 
 ⟨(some 105), none, .pick (.t 102) (.k (.sc (.bool true))) (.t 104)⟩])
 (.cond (.t 105) (.seq (.reg [⟨(some 0), none, .mv (.k (.sc (.bool false)))⟩])
  .ret)
 .skip))
 (.seq (.reg [⟨(some 106), none, .ld (some 14) (.t 1)⟩, 
 ⟨(some 107), none, .ld (some 6) (.t 10)⟩, 
 ⟨(some 108), none, .bsl 6 1 true [(.sc (.string ⟨#[]⟩)), (.sc (.string ⟨#[]⟩)), (.sc (.int .i64 0)), (.sc (.int .i64 0)), (.sc (.int .i64 0)), (.sc (.int .i64 0))] [(0, 6, (.t 107))]⟩, 
 ⟨(some 109), none, .call 16 [(.t 106), (.t 108)]⟩, 
 ⟨(some 110), none, .bin .eql false (.t 109) (.k (.sc (.int .i64 6000))) (pu (.binOp .eql 3 (.tmp 109) (.const (.int .i64 6000)) 3) 4)⟩, 
 ⟨(some 111), none, .mv (.t 110)⟩, 
 ⟨(some 112), (some ((some 111), true)), .ld (some 14) (.t 1)⟩, 
 ⟨(some 113), (some ((some 111), true)), .call 16 [(.t 112), (.k (.sc (.slice none 0 0)))]⟩, 
 ⟨(some 114), (some ((some 111), true)), .bin .eql false (.t 113) (.k (.sc (.int .i64 7000))) (pu (.binOp .eql 3 (.tmp 113) (.const (.int .i64 7000)) 3) 4)⟩, 
 ⟨(some 115), none, .pick (.t 111) (.t 114) (.k (.sc (.bool false)))⟩, 
 ⟨(some 116), none, .mv (.t 115)⟩, 
 ⟨(some 117), (some ((some 116), true)), .bld [(.sc (.string ⟨#[]⟩)), (.sc (.string ⟨#[]⟩)), (.sc (.int .i64 0)), (.sc (.int .i64 0)), (.sc (.int .i64 0)), (.sc (.int .i64 0))] []⟩, 
 ⟨(some 118), (some ((some 116), true)), .call 9 [(.t 117)]⟩, 
 ⟨(some 119), (some ((some 116), true)), .bin .eql false (.t 118) (.k (.sc (.int .i64 4))) (pu (.binOp .eql 26 (.tmp 118) (.const (.int .i64 4)) 26) 4)⟩, 
 ⟨(some 120), none, .pick (.t 116) (.t 119) (.k (.sc (.bool false)))⟩, 
 ⟨(some 0), none, .mv (.t 120)⟩])
 .ret))))))))))))
def k8 : List Nat := [0, 1, 2, 3, 5, 7, 8, 9, 10, 11, 13, 14, 15, 56, 105]
theorem ic8 : factsI Try.prog 8 = some (121, [.tmp 0], c8) := by kernel_rfl

-- chargenet/dispute.Valid (58 slots)
def c9 : IC :=
 (.seq (.reg [⟨(some 1), none, .bx (.t 0)⟩, 
 ⟨(some 2), none, .mv (.k (.sc (.int .i64 0)))⟩])
 (.seq (.seq (.reg [⟨(some 3), none, .sh 0 (.t 1)⟩, 
 ⟨(some 4), none, .ld none (.t 3)⟩, 
 ⟨(some 5), none, .call 18 [(.t 4)]⟩, 
 ⟨(some 6), none, .un .not (.t 5) (pu (.unOp .not 4 (.tmp 5)) 4)⟩, 
 ⟨(some 7), none, .mv (.t 6)⟩, 
 ⟨(some 8), (some ((some 7), false)), .sh 1 (.t 1)⟩, 
 ⟨(some 9), (some ((some 7), false)), .ld none (.t 8)⟩, 
 ⟨(some 10), (some ((some 7), false)), .call 18 [(.t 9)]⟩, 
 ⟨(some 11), (some ((some 7), false)), .un .not (.t 10) (pu (.unOp .not 4 (.tmp 10)) 4)⟩, 
 ⟨(some 12), none, .pick (.t 7) (.k (.sc (.bool true))) (.t 11)⟩])
 (.cond (.t 12) (.seq (.reg [⟨(some 2), none, .mv (.k (.sc (.int .i64 4)))⟩])
  .ret)
 .skip))
 (.seq (.seq (.reg [⟨(some 13), none, .sh 2 (.t 1)⟩, 
 ⟨(some 14), none, .ld none (.t 13)⟩, 
 ⟨(some 15), none, .bin .lss false (.t 14) (.k (.sc (.int .i64 1))) (pu (.binOp .lss 3 (.tmp 14) (.const (.int .i64 1)) 3) 4)⟩, 
 ⟨(some 16), none, .mv (.t 15)⟩, 
 ⟨(some 17), (some ((some 16), false)), .sh 2 (.t 1)⟩, 
 ⟨(some 18), (some ((some 16), false)), .ld none (.t 17)⟩, 
 ⟨(some 19), (some ((some 16), false)), .bin .gtr false (.t 18) (.k (.sc (.int .i64 6))) (pu (.binOp .gtr 3 (.tmp 18) (.const (.int .i64 6)) 3) 4)⟩, 
 ⟨(some 20), none, .pick (.t 16) (.k (.sc (.bool true))) (.t 19)⟩, 
 ⟨(some 21), none, .mv (.t 20)⟩, 
 ⟨(some 22), (some ((some 21), false)), .sh 3 (.t 1)⟩, 
 ⟨(some 23), (some ((some 21), false)), .ld none (.t 22)⟩, 
 ⟨(some 24), (some ((some 21), false)), .bin .lss false (.t 23) (.k (.sc (.int .i64 0))) (pu (.binOp .lss 3 (.tmp 23) (.const (.int .i64 0)) 3) 4)⟩, 
 ⟨(some 25), none, .pick (.t 21) (.k (.sc (.bool true))) (.t 24)⟩, 
 ⟨(some 26), none, .mv (.t 25)⟩, 
 ⟨(some 27), (some ((some 26), false)), .sh 3 (.t 1)⟩, 
 ⟨(some 28), (some ((some 26), false)), .ld none (.t 27)⟩, 
 ⟨(some 29), (some ((some 26), false)), .bin .gtr false (.t 28) (.k (.sc (.int .i64 268435456))) (pu (.binOp .gtr 3 (.tmp 28) (.const (.int .i64 268435456)) 3) 4)⟩, 
 ⟨(some 30), none, .pick (.t 26) (.k (.sc (.bool true))) (.t 29)⟩])
 (.cond (.t 30) (.seq (.reg [⟨(some 2), none, .mv (.k (.sc (.int .i64 2)))⟩])
  .ret)
 .skip))
 (.seq (.seq (.reg [⟨(some 31), none, .sh 4 (.t 1)⟩, 
 ⟨(some 32), none, .ld none (.t 31)⟩, 
 ⟨(some 33), none, .bin .lss false (.t 32) (.k (.sc (.int .i64 1))) (pu (.binOp .lss 3 (.tmp 32) (.const (.int .i64 1)) 3) 4)⟩, 
 ⟨(some 34), none, .mv (.t 33)⟩, 
 ⟨(some 35), (some ((some 34), false)), .sh 4 (.t 1)⟩, 
 ⟨(some 36), (some ((some 34), false)), .ld none (.t 35)⟩, 
 ⟨(some 37), (some ((some 34), false)), .bin .gtr false (.t 36) (.k (.sc (.int .i64 36028797018963968))) (pu (.binOp .gtr 3 (.tmp 36) (.const (.int .i64 36028797018963968)) 3) 4)⟩, 
 ⟨(some 38), none, .pick (.t 34) (.k (.sc (.bool true))) (.t 37)⟩, 
 ⟨(some 39), none, .mv (.t 38)⟩, 
 ⟨(some 40), (some ((some 39), false)), .sh 5 (.t 1)⟩, 
 ⟨(some 41), (some ((some 39), false)), .ld none (.t 40)⟩, 
 ⟨(some 42), (some ((some 39), false)), .bin .lss false (.t 41) (.k (.sc (.int .i64 0))) (pu (.binOp .lss 3 (.tmp 41) (.const (.int .i64 0)) 3) 4)⟩, 
 ⟨(some 43), none, .pick (.t 39) (.k (.sc (.bool true))) (.t 42)⟩, 
 ⟨(some 44), none, .mv (.t 43)⟩, 
 ⟨(some 45), (some ((some 44), false)), .sh 5 (.t 1)⟩, 
 ⟨(some 46), (some ((some 44), false)), .ld none (.t 45)⟩, 
 ⟨(some 47), (some ((some 44), false)), .sh 4 (.t 1)⟩, 
 ⟨(some 48), (some ((some 44), false)), .ld none (.t 47)⟩, 
 ⟨(some 49), (some ((some 44), false)), .bin .gtr false (.t 46) (.t 48) (pu (.binOp .gtr 3 (.tmp 46) (.tmp 48) 3) 4)⟩, 
 ⟨(some 50), none, .pick (.t 44) (.k (.sc (.bool true))) (.t 49)⟩])
 (.cond (.t 50) (.seq (.reg [⟨(some 2), none, .mv (.k (.sc (.int .i64 2)))⟩])
  .ret)
 .skip))
 (.seq (.seq (.reg [⟨(some 51), none, .sh 5 (.t 1)⟩, 
 ⟨(some 52), none, .ld none (.t 51)⟩, 
 ⟨(some 53), none, .bin .eql false (.t 52) (.k (.sc (.int .i64 0))) (pu (.binOp .eql 3 (.tmp 52) (.const (.int .i64 0)) 3) 4)⟩, 
 ⟨(some 54), none, .sh 2 (.t 1)⟩, 
 ⟨(some 55), none, .ld none (.t 54)⟩, 
 ⟨(some 56), none, .bin .neq false (.t 55) (.k (.sc (.int .i64 4))) (pu (.binOp .neq 3 (.tmp 55) (.const (.int .i64 4)) 3) 4)⟩, 
 ⟨(some 57), none, .bin .neq true (.t 53) (.t 56) (pu (.binOp .neq 4 (.tmp 53) (.tmp 56) 4) 4)⟩])
 (.cond (.t 57) (.seq (.reg [⟨(some 2), none, .mv (.k (.sc (.int .i64 1)))⟩])
  .ret)
 .skip))
 (.seq (.reg [⟨(some 2), none, .mv (.k (.sc (.int .i64 0)))⟩])
 .ret))))))
def k9 : List Nat := [0, 1, 2, 12, 30, 50, 57]
theorem ic9 : factsI Try.prog 9 = some (58, [.tmp 2], c9) := by kernel_rfl

-- chargenet/chargenetref47.Valid (60 slots)
def c10 : IC :=
 (.seq (.reg [⟨(some 1), none, .bx (.t 0)⟩, 
 ⟨(some 2), none, .mv (.k (.sc (.int .i64 0)))⟩])
 (.seq (.seq (.reg [⟨(some 3), none, .sh 0 (.t 1)⟩, 
 ⟨(some 4), none, .ld none (.t 3)⟩, 
 ⟨(some 5), none, .call 19 [(.t 4)]⟩, 
 ⟨(some 6), none, .un .not (.t 5) (pu (.unOp .not 4 (.tmp 5)) 4)⟩, 
 ⟨(some 7), none, .mv (.t 6)⟩, 
 ⟨(some 8), (some ((some 7), false)), .sh 1 (.t 1)⟩, 
 ⟨(some 9), (some ((some 7), false)), .ld none (.t 8)⟩, 
 ⟨(some 10), (some ((some 7), false)), .call 19 [(.t 9)]⟩, 
 ⟨(some 11), (some ((some 7), false)), .un .not (.t 10) (pu (.unOp .not 4 (.tmp 10)) 4)⟩, 
 ⟨(some 12), none, .pick (.t 7) (.k (.sc (.bool true))) (.t 11)⟩])
 (.cond (.t 12) (.seq (.reg [⟨(some 2), none, .mv (.k (.sc (.int .i64 4)))⟩])
  .ret)
 .skip))
 (.seq (.seq (.reg [⟨(some 13), none, .sh 2 (.t 1)⟩, 
 ⟨(some 14), none, .ld none (.t 13)⟩, 
 ⟨(some 15), none, .bin .lss false (.t 14) (.k (.sc (.int .i64 1))) (pu (.binOp .lss 3 (.tmp 14) (.const (.int .i64 1)) 3) 4)⟩, 
 ⟨(some 16), none, .mv (.t 15)⟩, 
 ⟨(some 17), (some ((some 16), false)), .sh 2 (.t 1)⟩, 
 ⟨(some 18), (some ((some 16), false)), .ld none (.t 17)⟩, 
 ⟨(some 19), (some ((some 16), false)), .bin .gtr false (.t 18) (.k (.sc (.int .i64 6))) (pu (.binOp .gtr 3 (.tmp 18) (.const (.int .i64 6)) 3) 4)⟩, 
 ⟨(some 20), none, .pick (.t 16) (.k (.sc (.bool true))) (.t 19)⟩, 
 ⟨(some 21), none, .mv (.t 20)⟩, 
 ⟨(some 22), (some ((some 21), false)), .sh 3 (.t 1)⟩, 
 ⟨(some 23), (some ((some 21), false)), .ld none (.t 22)⟩, 
 ⟨(some 24), (some ((some 21), false)), .bin .lss false (.t 23) (.k (.sc (.int .i64 0))) (pu (.binOp .lss 3 (.tmp 23) (.const (.int .i64 0)) 3) 4)⟩, 
 ⟨(some 25), none, .pick (.t 21) (.k (.sc (.bool true))) (.t 24)⟩, 
 ⟨(some 26), none, .mv (.t 25)⟩, 
 ⟨(some 27), (some ((some 26), false)), .sh 3 (.t 1)⟩, 
 ⟨(some 28), (some ((some 26), false)), .ld none (.t 27)⟩, 
 ⟨(some 29), (some ((some 26), false)), .bin .gtr false (.t 28) (.k (.sc (.int .i64 268435456))) (pu (.binOp .gtr 3 (.tmp 28) (.const (.int .i64 268435456)) 3) 4)⟩, 
 ⟨(some 30), none, .pick (.t 26) (.k (.sc (.bool true))) (.t 29)⟩, 
 ⟨(some 31), none, .mv (.t 30)⟩, 
 ⟨(some 32), (some ((some 31), false)), .sh 4 (.t 1)⟩, 
 ⟨(some 33), (some ((some 31), false)), .ld none (.t 32)⟩, 
 ⟨(some 34), (some ((some 31), false)), .bin .lss false (.t 33) (.k (.sc (.int .i64 1))) (pu (.binOp .lss 3 (.tmp 33) (.const (.int .i64 1)) 3) 4)⟩, 
 ⟨(some 35), none, .pick (.t 31) (.k (.sc (.bool true))) (.t 34)⟩, 
 ⟨(some 36), none, .mv (.t 35)⟩, 
 ⟨(some 37), (some ((some 36), false)), .sh 4 (.t 1)⟩, 
 ⟨(some 38), (some ((some 36), false)), .ld none (.t 37)⟩, 
 ⟨(some 39), (some ((some 36), false)), .bin .gtr false (.t 38) (.k (.sc (.int .i64 36028797018963968))) (pu (.binOp .gtr 3 (.tmp 38) (.const (.int .i64 36028797018963968)) 3) 4)⟩, 
 ⟨(some 40), none, .pick (.t 36) (.k (.sc (.bool true))) (.t 39)⟩, 
 ⟨(some 41), none, .mv (.t 40)⟩, 
 ⟨(some 42), (some ((some 41), false)), .sh 5 (.t 1)⟩, 
 ⟨(some 43), (some ((some 41), false)), .ld none (.t 42)⟩, 
 ⟨(some 44), (some ((some 41), false)), .bin .lss false (.t 43) (.k (.sc (.int .i64 0))) (pu (.binOp .lss 3 (.tmp 43) (.const (.int .i64 0)) 3) 4)⟩, 
 ⟨(some 45), none, .pick (.t 41) (.k (.sc (.bool true))) (.t 44)⟩, 
 ⟨(some 46), none, .mv (.t 45)⟩, 
 ⟨(some 47), (some ((some 46), false)), .sh 5 (.t 1)⟩, 
 ⟨(some 48), (some ((some 46), false)), .ld none (.t 47)⟩, 
 ⟨(some 49), (some ((some 46), false)), .sh 4 (.t 1)⟩, 
 ⟨(some 50), (some ((some 46), false)), .ld none (.t 49)⟩, 
 ⟨(some 51), (some ((some 46), false)), .bin .gtr false (.t 48) (.t 50) (pu (.binOp .gtr 3 (.tmp 48) (.tmp 50) 3) 4)⟩, 
 ⟨(some 52), none, .pick (.t 46) (.k (.sc (.bool true))) (.t 51)⟩])
 (.cond (.t 52) (.seq (.reg [⟨(some 2), none, .mv (.k (.sc (.int .i64 2)))⟩])
  .ret)
 .skip))
 (.seq (.seq (.reg [⟨(some 53), none, .sh 5 (.t 1)⟩, 
 ⟨(some 54), none, .ld none (.t 53)⟩, 
 ⟨(some 55), none, .bin .neq false (.t 54) (.k (.sc (.int .i64 0))) (pu (.binOp .neq 3 (.tmp 54) (.const (.int .i64 0)) 3) 4)⟩, 
 ⟨(some 56), none, .sh 2 (.t 1)⟩, 
 ⟨(some 57), none, .ld none (.t 56)⟩, 
 ⟨(some 58), none, .bin .eql false (.t 57) (.k (.sc (.int .i64 4))) (pu (.binOp .eql 3 (.tmp 57) (.const (.int .i64 4)) 3) 4)⟩, 
 ⟨(some 59), none, .bin .neq true (.t 55) (.t 58) (pu (.binOp .neq 4 (.tmp 55) (.tmp 58) 4) 4)⟩])
 (.cond (.t 59) (.seq (.reg [⟨(some 2), none, .mv (.k (.sc (.int .i64 1)))⟩])
  .ret)
 .skip))
 (.seq (.reg [⟨(some 2), none, .mv (.k (.sc (.int .i64 0)))⟩])
 .ret)))))
def k10 : List Nat := [0, 1, 2, 12, 52, 59]
theorem ic10 : factsI Try.prog 10 = some (60, [.tmp 2], c10) := by kernel_rfl

-- chargenet/chargenetlaw47.brief (49 slots)
def c11 : IC :=
 (.seq (.reg [⟨(some 1), none, .bx (.t 0)⟩, 
 ⟨(some 2), none, .mv (.k (.sc (.bool false)))⟩])
 (.seq (.reg [⟨(some 3), none, .sh 10 (.t 1)⟩, 
 ⟨(some 4), none, .ld none (.t 3)⟩, 
 ⟨(some 5), none, .len (.t 4) (pu (.call ⟨.builtin .len, #[(.tmp 4)], #[28]⟩) 3)⟩, 
 ⟨(some 6), none, .bin .leq false (.t 5) (.k (.sc (.int .i64 40))) (pu (.binOp .leq 3 (.tmp 5) (.const (.int .i64 40)) 3) 4)⟩, 
 ⟨(some 7), none, .mv (.t 6)⟩, 
 ⟨(some 8), (some ((some 7), true)), .sh 0 (.t 1)⟩, 
 ⟨(some 9), (some ((some 7), true)), .ld none (.t 8)⟩, 
 ⟨(some 10), (some ((some 7), true)), .lens (.t 9) (pu (.call ⟨.builtin .len, #[(.tmp 9)], #[9]⟩) 3)⟩, 
 ⟨(some 11), (some ((some 7), true)), .bin .leq false (.t 10) (.k (.sc (.int .i64 50))) (pu (.binOp .leq 3 (.tmp 10) (.const (.int .i64 50)) 3) 4)⟩, 
 ⟨(some 12), none, .pick (.t 7) (.t 11) (.k (.sc (.bool false)))⟩, 
 ⟨(some 13), none, .mv (.t 12)⟩, 
 ⟨(some 14), (some ((some 13), true)), .sh 1 (.t 1)⟩, 
 ⟨(some 15), (some ((some 13), true)), .ld none (.t 14)⟩, 
 ⟨(some 16), (some ((some 13), true)), .lens (.t 15) (pu (.call ⟨.builtin .len, #[(.tmp 15)], #[9]⟩) 3)⟩, 
 ⟨(some 17), (some ((some 13), true)), .bin .leq false (.t 16) (.k (.sc (.int .i64 50))) (pu (.binOp .leq 3 (.tmp 16) (.const (.int .i64 50)) 3) 4)⟩, 
 ⟨(some 18), none, .pick (.t 13) (.t 17) (.k (.sc (.bool false)))⟩, 
 ⟨(some 19), none, .mv (.t 18)⟩, 
 ⟨(some 20), (some ((some 19), true)), .sh 2 (.t 1)⟩, 
 ⟨(some 21), (some ((some 19), true)), .ld none (.t 20)⟩, 
 ⟨(some 22), (some ((some 19), true)), .lens (.t 21) (pu (.call ⟨.builtin .len, #[(.tmp 21)], #[9]⟩) 3)⟩, 
 ⟨(some 23), (some ((some 19), true)), .bin .leq false (.t 22) (.k (.sc (.int .i64 50))) (pu (.binOp .leq 3 (.tmp 22) (.const (.int .i64 50)) 3) 4)⟩, 
 ⟨(some 24), none, .pick (.t 19) (.t 23) (.k (.sc (.bool false)))⟩, 
 ⟨(some 25), none, .mv (.t 24)⟩, 
 ⟨(some 26), (some ((some 25), true)), .sh 3 (.t 1)⟩, 
 ⟨(some 27), (some ((some 25), true)), .ld none (.t 26)⟩, 
 ⟨(some 28), (some ((some 25), true)), .lens (.t 27) (pu (.call ⟨.builtin .len, #[(.tmp 27)], #[9]⟩) 3)⟩, 
 ⟨(some 29), (some ((some 25), true)), .bin .leq false (.t 28) (.k (.sc (.int .i64 50))) (pu (.binOp .leq 3 (.tmp 28) (.const (.int .i64 50)) 3) 4)⟩, 
 ⟨(some 30), none, .pick (.t 25) (.t 29) (.k (.sc (.bool false)))⟩, 
 ⟨(some 31), none, .mv (.t 30)⟩, 
 ⟨(some 32), (some ((some 31), true)), .sh 8 (.t 1)⟩, 
 ⟨(some 33), (some ((some 31), true)), .ld none (.t 32)⟩, 
 ⟨(some 34), (some ((some 31), true)), .lens (.t 33) (pu (.call ⟨.builtin .len, #[(.tmp 33)], #[9]⟩) 3)⟩, 
 ⟨(some 35), (some ((some 31), true)), .bin .leq false (.t 34) (.k (.sc (.int .i64 50))) (pu (.binOp .leq 3 (.tmp 34) (.const (.int .i64 50)) 3) 4)⟩, 
 ⟨(some 36), none, .pick (.t 31) (.t 35) (.k (.sc (.bool false)))⟩, 
 ⟨(some 37), none, .mv (.t 36)⟩, 
 ⟨(some 38), (some ((some 37), true)), .sh 9 (.t 1)⟩, 
 ⟨(some 39), (some ((some 37), true)), .ld none (.t 38)⟩, 
 ⟨(some 40), (some ((some 37), true)), .lens (.t 39) (pu (.call ⟨.builtin .len, #[(.tmp 39)], #[9]⟩) 3)⟩, 
 ⟨(some 41), (some ((some 37), true)), .bin .leq false (.t 40) (.k (.sc (.int .i64 50))) (pu (.binOp .leq 3 (.tmp 40) (.const (.int .i64 50)) 3) 4)⟩, 
 ⟨(some 42), none, .pick (.t 37) (.t 41) (.k (.sc (.bool false)))⟩, 
 ⟨(some 43), none, .mv (.t 42)⟩, 
 ⟨(some 44), (some ((some 43), true)), .sh 13 (.t 1)⟩, 
 ⟨(some 45), (some ((some 43), true)), .ld none (.t 44)⟩, 
 ⟨(some 46), (some ((some 43), true)), .lens (.t 45) (pu (.call ⟨.builtin .len, #[(.tmp 45)], #[9]⟩) 3)⟩, 
 ⟨(some 47), (some ((some 43), true)), .bin .leq false (.t 46) (.k (.sc (.int .i64 50))) (pu (.binOp .leq 3 (.tmp 46) (.const (.int .i64 50)) 3) 4)⟩, 
 ⟨(some 48), none, .pick (.t 43) (.t 47) (.k (.sc (.bool false)))⟩, 
 ⟨(some 2), none, .mv (.t 48)⟩])
 .ret))
def k11 : List Nat := [0, 1, 2]
theorem ic11 : factsI Try.prog 11 = some (49, [.tmp 2], c11) := by kernel_rfl

-- chargenet/dispute.Open (60 slots)
def c12 : IC :=
 (.seq (.reg [⟨(some 4), none, .bx (.t 0)⟩, 
 ⟨(some 8), none, .al (.agg [(.sc (.string ⟨#[]⟩)), (.sc (.string ⟨#[]⟩)), (.sc (.int .i64 0)), (.sc (.int .i64 0)), (.sc (.int .i64 0)), (.sc (.int .i64 0))]) 6⟩, 
 ⟨(some 9), none, .mv (.k (.sc (.int .i64 0)))⟩])
 (.seq (.seq (.reg [⟨(some 11), none, .ld (some 14) (.t 4)⟩, 
 ⟨(some 12), none, .call 20 [(.t 11)]⟩, 
 ⟨(some 10), none, .mv (.t 12)⟩])
 (.seq (.reg [⟨(some 13), none, .mv (.t 10)⟩, 
 ⟨(some 14), none, .bin .neq false (.t 13) (.k (.sc (.int .i64 0))) (pu (.binOp .neq 26 (.tmp 13) (.const (.int .i64 0)) 26) 4)⟩])
 (.cond (.t 14) (.seq (.reg [⟨(some 15), none, .bld [(.sc (.string ⟨#[]⟩)), (.sc (.string ⟨#[]⟩)), (.sc (.int .i64 0)), (.sc (.int .i64 0)), (.sc (.int .i64 0)), (.sc (.int .i64 0))] []⟩, 
  ⟨(some 16), none, .mv (.t 10)⟩, 
  ⟨none, none, .st 6 (.t 8) (.t 15)⟩, 
  ⟨(some 9), none, .mv (.t 16)⟩])
  .ret)
 .skip)))
 (.seq (.seq (.reg [⟨(some 17), none, .sh 12 (.t 4)⟩, 
 ⟨(some 18), none, .ld none (.t 17)⟩])
 (.cond (.t 18) (.seq (.reg [⟨(some 19), none, .bld [(.sc (.string ⟨#[]⟩)), (.sc (.string ⟨#[]⟩)), (.sc (.int .i64 0)), (.sc (.int .i64 0)), (.sc (.int .i64 0)), (.sc (.int .i64 0))] []⟩, 
  ⟨none, none, .st 6 (.t 8) (.t 19)⟩, 
  ⟨(some 9), none, .mv (.k (.sc (.int .i64 10)))⟩])
  .ret)
 .skip))
 (.seq (.seq (.reg [⟨(some 20), none, .mv (.t 1)⟩, 
 ⟨(some 21), none, .sh 2 (.t 4)⟩, 
 ⟨(some 22), none, .ld none (.t 21)⟩, 
 ⟨(some 23), none, .bin .neq false (.t 20) (.t 22) (pu (.binOp .neq 9 (.tmp 20) (.tmp 22) 9) 4)⟩])
 (.cond (.t 23) (.seq (.reg [⟨(some 24), none, .bld [(.sc (.string ⟨#[]⟩)), (.sc (.string ⟨#[]⟩)), (.sc (.int .i64 0)), (.sc (.int .i64 0)), (.sc (.int .i64 0)), (.sc (.int .i64 0))] []⟩, 
  ⟨none, none, .st 6 (.t 8) (.t 24)⟩, 
  ⟨(some 9), none, .mv (.k (.sc (.int .i64 15)))⟩])
  .ret)
 .skip))
 (.seq (.seq (.reg [⟨(some 25), none, .mv (.t 2)⟩, 
 ⟨(some 26), none, .bin .lss false (.t 25) (.k (.sc (.int .i64 1))) (pu (.binOp .lss 3 (.tmp 25) (.const (.int .i64 1)) 3) 4)⟩, 
 ⟨(some 27), none, .mv (.t 26)⟩, 
 ⟨(some 28), (some ((some 27), false)), .mv (.t 2)⟩, 
 ⟨(some 29), (some ((some 27), false)), .sh 11 (.t 4)⟩, 
 ⟨(some 30), (some ((some 27), false)), .ld none (.t 29)⟩, 
 ⟨(some 31), (some ((some 27), false)), .bin .gtr false (.t 28) (.t 30) (pu (.binOp .gtr 3 (.tmp 28) (.tmp 30) 3) 4)⟩, 
 ⟨(some 32), none, .pick (.t 27) (.k (.sc (.bool true))) (.t 31)⟩, 
 ⟨(some 33), none, .mv (.t 32)⟩, 
 ⟨(some 34), (some ((some 33), false)), .mv (.t 2)⟩, 
 ⟨(some 35), (some ((some 33), false)), .bin .gtr false (.t 34) (.k (.sc (.int .i64 36028797018963968))) (pu (.binOp .gtr 3 (.tmp 34) (.const (.int .i64 36028797018963968)) 3) 4)⟩, 
 ⟨(some 36), none, .pick (.t 33) (.k (.sc (.bool true))) (.t 35)⟩, 
 ⟨(some 37), none, .mv (.t 36)⟩, 
 ⟨(some 38), (some ((some 37), false)), .mv (.t 3)⟩, 
 ⟨(some 39), (some ((some 37), false)), .sh 6 (.t 4)⟩, 
 ⟨(some 40), (some ((some 37), false)), .ld none (.t 39)⟩, 
 ⟨(some 41), (some ((some 37), false)), .bin .lss false (.t 38) (.t 40) (pu (.binOp .lss 3 (.tmp 38) (.tmp 40) 3) 4)⟩, 
 ⟨(some 42), none, .pick (.t 37) (.k (.sc (.bool true))) (.t 41)⟩, 
 ⟨(some 43), none, .mv (.t 42)⟩, 
 ⟨(some 44), (some ((some 43), false)), .mv (.t 3)⟩, 
 ⟨(some 45), (some ((some 43), false)), .bin .gtr false (.t 44) (.k (.sc (.int .i64 268435456))) (pu (.binOp .gtr 3 (.tmp 44) (.const (.int .i64 268435456)) 3) 4)⟩, 
 ⟨(some 46), none, .pick (.t 43) (.k (.sc (.bool true))) (.t 45)⟩])
 (.cond (.t 46) (.seq (.reg [⟨(some 47), none, .bld [(.sc (.string ⟨#[]⟩)), (.sc (.string ⟨#[]⟩)), (.sc (.int .i64 0)), (.sc (.int .i64 0)), (.sc (.int .i64 0)), (.sc (.int .i64 0))] []⟩, 
  ⟨none, none, .st 6 (.t 8) (.t 47)⟩, 
  ⟨(some 9), none, .mv (.k (.sc (.int .i64 2)))⟩])
  .ret)
 .skip))
 (.seq (.seq (.reg [⟨(some 48), none, .mv (.t 3)⟩, 
 ⟨(some 49), none, .sh 6 (.t 4)⟩, 
 ⟨(some 50), none, .ld none (.t 49)⟩, 
 ⟨(some 51), none, .bin .add false (.t 50) (.k (.sc (.int .i64 43200))) (pu (.binOp .add 3 (.tmp 50) (.const (.int .i64 43200)) 3) 3)⟩, 
 ⟨(some 52), none, .bin .gtr false (.t 48) (.t 51) (pu (.binOp .gtr 3 (.tmp 48) (.tmp 51) 3) 4)⟩])
 (.cond (.t 52) (.seq (.reg [⟨(some 53), none, .bld [(.sc (.string ⟨#[]⟩)), (.sc (.string ⟨#[]⟩)), (.sc (.int .i64 0)), (.sc (.int .i64 0)), (.sc (.int .i64 0)), (.sc (.int .i64 0))] []⟩, 
  ⟨none, none, .st 6 (.t 8) (.t 53)⟩, 
  ⟨(some 9), none, .mv (.k (.sc (.int .i64 12)))⟩])
  .ret)
 .skip))
 (.seq (.reg [⟨(some 54), none, .sh 0 (.t 4)⟩, 
 ⟨(some 55), none, .ld none (.t 54)⟩, 
 ⟨(some 56), none, .mv (.t 1)⟩, 
 ⟨(some 57), none, .mv (.t 3)⟩, 
 ⟨(some 58), none, .mv (.t 2)⟩, 
 ⟨(some 59), none, .bld [(.sc (.string ⟨#[]⟩)), (.sc (.string ⟨#[]⟩)), (.sc (.int .i64 0)), (.sc (.int .i64 0)), (.sc (.int .i64 0)), (.sc (.int .i64 0))] [(0, 1, (.t 55)), (1, 1, (.t 56)), (2, 1, (.k (.sc (.int .i64 1)))), (3, 1, (.t 57)), (4, 1, (.t 58))]⟩, 
 ⟨none, none, .st 6 (.t 8) (.t 59)⟩, 
 ⟨(some 9), none, .mv (.k (.sc (.int .i64 0)))⟩])
 .ret)))))))
def k12 : List Nat := [0, 1, 2, 3, 4, 8, 9, 10, 14, 18, 23, 46, 52]
theorem ic12 : factsI Try.prog 12 = some (60, [.cell 8 23, .tmp 9], c12) := by kernel_rfl

-- chargenet/chargenetref47.Open (60 slots)
def c13 : IC :=
 (.seq (.reg [⟨(some 4), none, .bx (.t 0)⟩, 
 ⟨(some 8), none, .al (.agg [(.sc (.string ⟨#[]⟩)), (.sc (.string ⟨#[]⟩)), (.sc (.int .i64 0)), (.sc (.int .i64 0)), (.sc (.int .i64 0)), (.sc (.int .i64 0))]) 6⟩, 
 ⟨(some 9), none, .mv (.k (.sc (.int .i64 0)))⟩])
 (.seq (.seq (.reg [⟨(some 11), none, .ld (some 14) (.t 4)⟩, 
 ⟨(some 12), none, .call 21 [(.t 11)]⟩, 
 ⟨(some 10), none, .mv (.t 12)⟩])
 (.seq (.reg [⟨(some 13), none, .mv (.t 10)⟩, 
 ⟨(some 14), none, .bin .neq false (.t 13) (.k (.sc (.int .i64 0))) (pu (.binOp .neq 26 (.tmp 13) (.const (.int .i64 0)) 26) 4)⟩])
 (.cond (.t 14) (.seq (.reg [⟨(some 15), none, .bld [(.sc (.string ⟨#[]⟩)), (.sc (.string ⟨#[]⟩)), (.sc (.int .i64 0)), (.sc (.int .i64 0)), (.sc (.int .i64 0)), (.sc (.int .i64 0))] []⟩, 
  ⟨(some 16), none, .mv (.t 10)⟩, 
  ⟨none, none, .st 6 (.t 8) (.t 15)⟩, 
  ⟨(some 9), none, .mv (.t 16)⟩])
  .ret)
 .skip)))
 (.seq (.seq (.reg [⟨(some 17), none, .sh 12 (.t 4)⟩, 
 ⟨(some 18), none, .ld none (.t 17)⟩])
 (.cond (.t 18) (.seq (.reg [⟨(some 19), none, .bld [(.sc (.string ⟨#[]⟩)), (.sc (.string ⟨#[]⟩)), (.sc (.int .i64 0)), (.sc (.int .i64 0)), (.sc (.int .i64 0)), (.sc (.int .i64 0))] []⟩, 
  ⟨none, none, .st 6 (.t 8) (.t 19)⟩, 
  ⟨(some 9), none, .mv (.k (.sc (.int .i64 10)))⟩])
  .ret)
 .skip))
 (.seq (.seq (.reg [⟨(some 20), none, .mv (.t 1)⟩, 
 ⟨(some 21), none, .sh 2 (.t 4)⟩, 
 ⟨(some 22), none, .ld none (.t 21)⟩, 
 ⟨(some 23), none, .bin .neq false (.t 20) (.t 22) (pu (.binOp .neq 9 (.tmp 20) (.tmp 22) 9) 4)⟩])
 (.cond (.t 23) (.seq (.reg [⟨(some 24), none, .bld [(.sc (.string ⟨#[]⟩)), (.sc (.string ⟨#[]⟩)), (.sc (.int .i64 0)), (.sc (.int .i64 0)), (.sc (.int .i64 0)), (.sc (.int .i64 0))] []⟩, 
  ⟨none, none, .st 6 (.t 8) (.t 24)⟩, 
  ⟨(some 9), none, .mv (.k (.sc (.int .i64 15)))⟩])
  .ret)
 .skip))
 (.seq (.seq (.reg [⟨(some 25), none, .mv (.t 2)⟩, 
 ⟨(some 26), none, .bin .lss false (.t 25) (.k (.sc (.int .i64 1))) (pu (.binOp .lss 3 (.tmp 25) (.const (.int .i64 1)) 3) 4)⟩, 
 ⟨(some 27), none, .mv (.t 26)⟩, 
 ⟨(some 28), (some ((some 27), false)), .mv (.t 2)⟩, 
 ⟨(some 29), (some ((some 27), false)), .sh 11 (.t 4)⟩, 
 ⟨(some 30), (some ((some 27), false)), .ld none (.t 29)⟩, 
 ⟨(some 31), (some ((some 27), false)), .bin .gtr false (.t 28) (.t 30) (pu (.binOp .gtr 3 (.tmp 28) (.tmp 30) 3) 4)⟩, 
 ⟨(some 32), none, .pick (.t 27) (.k (.sc (.bool true))) (.t 31)⟩, 
 ⟨(some 33), none, .mv (.t 32)⟩, 
 ⟨(some 34), (some ((some 33), false)), .mv (.t 2)⟩, 
 ⟨(some 35), (some ((some 33), false)), .bin .gtr false (.t 34) (.k (.sc (.int .i64 36028797018963968))) (pu (.binOp .gtr 3 (.tmp 34) (.const (.int .i64 36028797018963968)) 3) 4)⟩, 
 ⟨(some 36), none, .pick (.t 33) (.k (.sc (.bool true))) (.t 35)⟩, 
 ⟨(some 37), none, .mv (.t 36)⟩, 
 ⟨(some 38), (some ((some 37), false)), .mv (.t 3)⟩, 
 ⟨(some 39), (some ((some 37), false)), .sh 6 (.t 4)⟩, 
 ⟨(some 40), (some ((some 37), false)), .ld none (.t 39)⟩, 
 ⟨(some 41), (some ((some 37), false)), .bin .lss false (.t 38) (.t 40) (pu (.binOp .lss 3 (.tmp 38) (.tmp 40) 3) 4)⟩, 
 ⟨(some 42), none, .pick (.t 37) (.k (.sc (.bool true))) (.t 41)⟩, 
 ⟨(some 43), none, .mv (.t 42)⟩, 
 ⟨(some 44), (some ((some 43), false)), .mv (.t 3)⟩, 
 ⟨(some 45), (some ((some 43), false)), .bin .gtr false (.t 44) (.k (.sc (.int .i64 268435456))) (pu (.binOp .gtr 3 (.tmp 44) (.const (.int .i64 268435456)) 3) 4)⟩, 
 ⟨(some 46), none, .pick (.t 43) (.k (.sc (.bool true))) (.t 45)⟩])
 (.cond (.t 46) (.seq (.reg [⟨(some 47), none, .bld [(.sc (.string ⟨#[]⟩)), (.sc (.string ⟨#[]⟩)), (.sc (.int .i64 0)), (.sc (.int .i64 0)), (.sc (.int .i64 0)), (.sc (.int .i64 0))] []⟩, 
  ⟨none, none, .st 6 (.t 8) (.t 47)⟩, 
  ⟨(some 9), none, .mv (.k (.sc (.int .i64 2)))⟩])
  .ret)
 .skip))
 (.seq (.seq (.reg [⟨(some 48), none, .mv (.t 3)⟩, 
 ⟨(some 49), none, .sh 6 (.t 4)⟩, 
 ⟨(some 50), none, .ld none (.t 49)⟩, 
 ⟨(some 51), none, .bin .add false (.t 50) (.k (.sc (.int .i64 43200))) (pu (.binOp .add 3 (.tmp 50) (.const (.int .i64 43200)) 3) 3)⟩, 
 ⟨(some 52), none, .bin .gtr false (.t 48) (.t 51) (pu (.binOp .gtr 3 (.tmp 48) (.tmp 51) 3) 4)⟩])
 (.cond (.t 52) (.seq (.reg [⟨(some 53), none, .bld [(.sc (.string ⟨#[]⟩)), (.sc (.string ⟨#[]⟩)), (.sc (.int .i64 0)), (.sc (.int .i64 0)), (.sc (.int .i64 0)), (.sc (.int .i64 0))] []⟩, 
  ⟨none, none, .st 6 (.t 8) (.t 53)⟩, 
  ⟨(some 9), none, .mv (.k (.sc (.int .i64 12)))⟩])
  .ret)
 .skip))
 (.seq (.reg [⟨(some 54), none, .sh 0 (.t 4)⟩, 
 ⟨(some 55), none, .ld none (.t 54)⟩, 
 ⟨(some 56), none, .mv (.t 1)⟩, 
 ⟨(some 57), none, .mv (.t 3)⟩, 
 ⟨(some 58), none, .mv (.t 2)⟩, 
 ⟨(some 59), none, .bld [(.sc (.string ⟨#[]⟩)), (.sc (.string ⟨#[]⟩)), (.sc (.int .i64 0)), (.sc (.int .i64 0)), (.sc (.int .i64 0)), (.sc (.int .i64 0))] [(0, 1, (.t 55)), (1, 1, (.t 56)), (2, 1, (.k (.sc (.int .i64 1)))), (3, 1, (.t 57)), (4, 1, (.t 58))]⟩, 
 ⟨none, none, .st 6 (.t 8) (.t 59)⟩, 
 ⟨(some 9), none, .mv (.k (.sc (.int .i64 0)))⟩])
 .ret)))))))
def k13 : List Nat := [0, 1, 2, 3, 4, 8, 9, 10, 14, 18, 23, 46, 52]
theorem ic13 : factsI Try.prog 13 = some (60, [.cell 8 23, .tmp 9], c13) := by kernel_rfl

-- chargenet/dispute.Step (84 slots)
def c14 : IC :=
 (.seq (.reg [⟨(some 5), none, .bx (.t 0)⟩, 
 ⟨(some 10), none, .al (.agg [(.sc (.string ⟨#[]⟩)), (.sc (.string ⟨#[]⟩)), (.sc (.int .i64 0)), (.sc (.int .i64 0)), (.sc (.int .i64 0)), (.sc (.int .i64 0))]) 6⟩, 
 ⟨(some 11), none, .mv (.k (.sc (.int .i64 0)))⟩])
 (.seq (.seq (.reg [⟨(some 16), none, .ld (some 6) (.t 5)⟩, 
 ⟨(some 17), none, .call 9 [(.t 16)]⟩, 
 ⟨(some 12), none, .mv (.t 17)⟩])
 (.seq (.reg [⟨(some 18), none, .mv (.t 12)⟩, 
 ⟨(some 19), none, .bin .neq false (.t 18) (.k (.sc (.int .i64 0))) (pu (.binOp .neq 26 (.tmp 18) (.const (.int .i64 0)) 26) 4)⟩])
 (.cond (.t 19) (.seq (.reg [⟨(some 20), none, .ld (some 6) (.t 5)⟩, 
  ⟨(some 21), none, .mv (.t 12)⟩, 
  ⟨none, none, .st 6 (.t 10) (.t 20)⟩, 
  ⟨(some 11), none, .mv (.t 21)⟩])
  .ret)
 .skip)))
 (.seq (.seq (.reg [⟨(some 22), none, .mv (.t 1)⟩, 
 ⟨(some 23), none, .call 18 [(.t 22)]⟩, 
 ⟨(some 24), none, .un .not (.t 23) (pu (.unOp .not 4 (.tmp 23)) 4)⟩])
 (.cond (.t 24) (.seq (.reg [⟨(some 25), none, .ld (some 6) (.t 5)⟩, 
  ⟨none, none, .st 6 (.t 10) (.t 25)⟩, 
  ⟨(some 11), none, .mv (.k (.sc (.int .i64 4)))⟩])
  .ret)
 .skip))
 (.seq (.seq (.reg [⟨(some 26), none, .ld (some 6) (.t 5)⟩, 
 ⟨(some 27), none, .mv (.t 2)⟩, 
 ⟨(some 28), none, .mv (.t 3)⟩, 
 ⟨(some 29), none, .mv (.t 4)⟩, 
 ⟨(some 30), none, .call 22 [(.t 26), (.t 27), (.t 28), (.t 29)]⟩, 
 ⟨(some 31), none, .un .not (.t 30) (pu (.unOp .not 4 (.tmp 30)) 4)⟩])
 (.cond (.t 31) (.seq (.reg [⟨(some 32), none, .ld (some 6) (.t 5)⟩, 
  ⟨none, none, .st 6 (.t 10) (.t 32)⟩, 
  ⟨(some 11), none, .mv (.k (.sc (.int .i64 2)))⟩])
  .ret)
 .skip))
 (.seq (.seq (.reg [⟨(some 33), none, .sh 2 (.t 5)⟩, 
 ⟨(some 34), none, .ld none (.t 33)⟩, 
 ⟨(some 35), none, .bin .eql false (.t 34) (.k (.sc (.int .i64 4))) (pu (.binOp .eql 3 (.tmp 34) (.const (.int .i64 4)) 3) 4)⟩, 
 ⟨(some 36), none, .mv (.t 35)⟩, 
 ⟨(some 37), (some ((some 36), false)), .sh 2 (.t 5)⟩, 
 ⟨(some 38), (some ((some 36), false)), .ld none (.t 37)⟩, 
 ⟨(some 39), (some ((some 36), false)), .bin .eql false (.t 38) (.k (.sc (.int .i64 5))) (pu (.binOp .eql 3 (.tmp 38) (.const (.int .i64 5)) 3) 4)⟩, 
 ⟨(some 40), none, .pick (.t 36) (.k (.sc (.bool true))) (.t 39)⟩, 
 ⟨(some 41), none, .mv (.t 40)⟩, 
 ⟨(some 42), (some ((some 41), false)), .sh 2 (.t 5)⟩, 
 ⟨(some 43), (some ((some 41), false)), .ld none (.t 42)⟩, 
 ⟨(some 44), (some ((some 41), false)), .bin .eql false (.t 43) (.k (.sc (.int .i64 6))) (pu (.binOp .eql 3 (.tmp 43) (.const (.int .i64 6)) 3) 4)⟩, 
 ⟨(some 45), none, .pick (.t 41) (.k (.sc (.bool true))) (.t 44)⟩])
 (.cond (.t 45) (.seq (.reg [⟨(some 46), none, .ld (some 6) (.t 5)⟩, 
  ⟨none, none, .st 6 (.t 10) (.t 46)⟩, 
  ⟨(some 11), none, .mv (.k (.sc (.int .i64 10)))⟩])
  .ret)
 .skip))
 (.seq (.seq (.reg [⟨(some 47), none, .mv (.t 2)⟩, 
 ⟨(some 48), none, .mv (.t 1)⟩, 
 ⟨(some 49), none, .sh 1 (.t 5)⟩, 
 ⟨(some 50), none, .ld none (.t 49)⟩, 
 ⟨(some 51), none, .bin .eql false (.t 48) (.t 50) (pu (.binOp .eql 9 (.tmp 48) (.tmp 50) 9) 4)⟩, 
 ⟨(some 52), none, .call 23 [(.t 47), (.t 51)]⟩, 
 ⟨(some 53), none, .un .not (.t 52) (pu (.unOp .not 4 (.tmp 52)) 4)⟩])
 (.cond (.t 53) (.seq (.reg [⟨(some 54), none, .ld (some 6) (.t 5)⟩, 
  ⟨none, none, .st 6 (.t 10) (.t 54)⟩, 
  ⟨(some 11), none, .mv (.k (.sc (.int .i64 15)))⟩])
  .ret)
 .skip))
 (.seq (.reg [⟨(some 55), none, .mv (.t 4)⟩, 
 ⟨(some 56), none, .sh 3 (.t 5)⟩, 
 ⟨(some 57), none, .ld none (.t 56)⟩, 
 ⟨(some 58), none, .bin .add false (.t 57) (.k (.sc (.int .i64 43200))) (pu (.binOp .add 3 (.tmp 57) (.const (.int .i64 43200)) 3) 3)⟩, 
 ⟨(some 59), none, .bin .geq false (.t 55) (.t 58) (pu (.binOp .geq 3 (.tmp 55) (.tmp 58) 3) 4)⟩, 
 ⟨(some 13), none, .mv (.t 59)⟩])
 (.seq (.seq (.reg [⟨(some 60), none, .mv (.t 2)⟩, 
 ⟨(some 61), none, .bin .eql false (.t 60) (.k (.sc (.int .i64 1))) (pu (.binOp .eql 3 (.tmp 60) (.const (.int .i64 1)) 3) 4)⟩, 
 ⟨(some 62), none, .mv (.t 61)⟩, 
 ⟨(some 63), (some ((some 62), true)), .mv (.t 13)⟩, 
 ⟨(some 64), none, .pick (.t 62) (.t 63) (.k (.sc (.bool false)))⟩])
 (.cond (.t 64) (.seq (.reg [⟨(some 65), none, .ld (some 6) (.t 5)⟩, 
  ⟨none, none, .st 6 (.t 10) (.t 65)⟩, 
  ⟨(some 11), none, .mv (.k (.sc (.int .i64 12)))⟩])
  .ret)
 .skip))
 (.seq (.reg [⟨(some 67), none, .sh 2 (.t 5)⟩, 
 ⟨(some 68), none, .ld none (.t 67)⟩, 
 ⟨(some 69), none, .mv (.t 2)⟩, 
 ⟨(some 70), none, .mv (.t 13)⟩, 
 ⟨(some 71), none, .call 24 [(.t 68), (.t 69), (.t 70)]⟩, 
 ⟨(some 66), none, .mv (.t 71)⟩, 
 ⟨(some 72), none, .ext (.t 66) 0⟩, 
 ⟨(some 73), none, .ext (.t 66) 1⟩, 
 ⟨(some 14), none, .mv (.t 72)⟩, 
 ⟨(some 15), none, .mv (.t 73)⟩])
 (.seq (.seq (.reg [⟨(some 74), none, .mv (.t 15)⟩, 
 ⟨(some 75), none, .un .not (.t 74) (pu (.unOp .not 4 (.tmp 74)) 4)⟩])
 (.cond (.t 75) (.seq (.reg [⟨(some 76), none, .ld (some 6) (.t 5)⟩, 
  ⟨none, none, .st 6 (.t 10) (.t 76)⟩, 
  ⟨(some 11), none, .mv (.k (.sc (.int .i64 10)))⟩])
  .ret)
 .skip))
 (.seq (.reg [⟨(some 77), none, .mv (.t 14)⟩, 
 ⟨(some 78), none, .sh 2 (.t 5)⟩, 
 ⟨none, none, .st 1 (.t 78) (.t 77)⟩])
 (.seq (.seq (.reg [⟨(some 79), none, .mv (.t 2)⟩, 
 ⟨(some 80), none, .bin .eql false (.t 79) (.k (.sc (.int .i64 3))) (pu (.binOp .eql 3 (.tmp 79) (.const (.int .i64 3)) 3) 4)⟩])
 (.cond (.t 80) (.reg [⟨(some 81), none, .mv (.t 3)⟩, 
  ⟨(some 82), none, .sh 5 (.t 5)⟩, 
  ⟨none, none, .st 1 (.t 82) (.t 81)⟩])
 .skip))
 (.seq (.reg [⟨(some 83), none, .ld (some 6) (.t 5)⟩, 
 ⟨none, none, .st 6 (.t 10) (.t 83)⟩, 
 ⟨(some 11), none, .mv (.k (.sc (.int .i64 0)))⟩])
 .ret)))))))))))))
def k14 : List Nat := [0, 1, 2, 3, 4, 5, 10, 11, 12, 13, 14, 15, 19, 24, 31, 45, 53, 64, 75, 80]
theorem ic14 : factsI Try.prog 14 = some (84, [.cell 10 23, .tmp 11], c14) := by kernel_rfl

-- chargenet/chargenetref47.Step (68 slots)
def c15 : IC :=
 (.seq (.reg [⟨(some 5), none, .bx (.t 0)⟩, 
 ⟨(some 10), none, .al (.agg [(.sc (.string ⟨#[]⟩)), (.sc (.string ⟨#[]⟩)), (.sc (.int .i64 0)), (.sc (.int .i64 0)), (.sc (.int .i64 0)), (.sc (.int .i64 0))]) 6⟩, 
 ⟨(some 11), none, .mv (.k (.sc (.int .i64 0)))⟩])
 (.seq (.seq (.reg [⟨(some 13), none, .ld (some 6) (.t 5)⟩, 
 ⟨(some 14), none, .call 10 [(.t 13)]⟩, 
 ⟨(some 12), none, .mv (.t 14)⟩])
 (.seq (.reg [⟨(some 15), none, .mv (.t 12)⟩, 
 ⟨(some 16), none, .bin .neq false (.t 15) (.k (.sc (.int .i64 0))) (pu (.binOp .neq 26 (.tmp 15) (.const (.int .i64 0)) 26) 4)⟩])
 (.cond (.t 16) (.seq (.reg [⟨(some 17), none, .ld (some 6) (.t 5)⟩, 
  ⟨(some 18), none, .mv (.t 12)⟩, 
  ⟨none, none, .st 6 (.t 10) (.t 17)⟩, 
  ⟨(some 11), none, .mv (.t 18)⟩])
  .ret)
 .skip)))
 (.seq (.seq (.reg [⟨(some 19), none, .mv (.t 1)⟩, 
 ⟨(some 20), none, .call 19 [(.t 19)]⟩, 
 ⟨(some 21), none, .un .not (.t 20) (pu (.unOp .not 4 (.tmp 20)) 4)⟩])
 (.cond (.t 21) (.seq (.reg [⟨(some 22), none, .ld (some 6) (.t 5)⟩, 
  ⟨none, none, .st 6 (.t 10) (.t 22)⟩, 
  ⟨(some 11), none, .mv (.k (.sc (.int .i64 4)))⟩])
  .ret)
 .skip))
 (.seq (.seq (.reg [⟨(some 23), none, .ld (some 6) (.t 5)⟩, 
 ⟨(some 24), none, .mv (.t 2)⟩, 
 ⟨(some 25), none, .mv (.t 3)⟩, 
 ⟨(some 26), none, .mv (.t 4)⟩, 
 ⟨(some 27), none, .call 25 [(.t 23), (.t 24), (.t 25), (.t 26)]⟩, 
 ⟨(some 28), none, .un .not (.t 27) (pu (.unOp .not 4 (.tmp 27)) 4)⟩])
 (.cond (.t 28) (.seq (.reg [⟨(some 29), none, .ld (some 6) (.t 5)⟩, 
  ⟨none, none, .st 6 (.t 10) (.t 29)⟩, 
  ⟨(some 11), none, .mv (.k (.sc (.int .i64 2)))⟩])
  .ret)
 .skip))
 (.seq (.seq (.reg [⟨(some 30), none, .sh 2 (.t 5)⟩, 
 ⟨(some 31), none, .ld none (.t 30)⟩, 
 ⟨(some 32), none, .bin .geq false (.t 31) (.k (.sc (.int .i64 4))) (pu (.binOp .geq 3 (.tmp 31) (.const (.int .i64 4)) 3) 4)⟩])
 (.cond (.t 32) (.seq (.reg [⟨(some 33), none, .ld (some 6) (.t 5)⟩, 
  ⟨none, none, .st 6 (.t 10) (.t 33)⟩, 
  ⟨(some 11), none, .mv (.k (.sc (.int .i64 10)))⟩])
  .ret)
 .skip))
 (.seq (.seq (.reg [⟨(some 34), none, .mv (.t 2)⟩, 
 ⟨(some 35), none, .bin .eql false (.t 34) (.k (.sc (.int .i64 2))) (pu (.binOp .eql 3 (.tmp 34) (.const (.int .i64 2)) 3) 4)⟩, 
 ⟨(some 36), none, .mv (.t 35)⟩, 
 ⟨(some 37), (some ((some 36), false)), .mv (.t 2)⟩, 
 ⟨(some 38), (some ((some 36), false)), .bin .eql false (.t 37) (.k (.sc (.int .i64 5))) (pu (.binOp .eql 3 (.tmp 37) (.const (.int .i64 5)) 3) 4)⟩, 
 ⟨(some 39), none, .pick (.t 36) (.k (.sc (.bool true))) (.t 38)⟩, 
 ⟨(some 40), none, .mv (.t 1)⟩, 
 ⟨(some 41), none, .sh 1 (.t 5)⟩, 
 ⟨(some 42), none, .ld none (.t 41)⟩, 
 ⟨(some 43), none, .bin .eql false (.t 40) (.t 42) (pu (.binOp .eql 9 (.tmp 40) (.tmp 42) 9) 4)⟩, 
 ⟨(some 44), none, .bin .neq true (.t 39) (.t 43) (pu (.binOp .neq 4 (.tmp 39) (.tmp 43) 4) 4)⟩])
 (.cond (.t 44) (.seq (.reg [⟨(some 45), none, .ld (some 6) (.t 5)⟩, 
  ⟨none, none, .st 6 (.t 10) (.t 45)⟩, 
  ⟨(some 11), none, .mv (.k (.sc (.int .i64 15)))⟩])
  .ret)
 .skip))
 (.seq (.seq (.reg [⟨(some 46), none, .mv (.t 2)⟩, 
 ⟨(some 47), none, .bin .eql false (.t 46) (.k (.sc (.int .i64 1))) (pu (.binOp .eql 3 (.tmp 46) (.const (.int .i64 1)) 3) 4)⟩, 
 ⟨(some 48), none, .mv (.t 47)⟩, 
 ⟨(some 49), (some ((some 48), true)), .mv (.t 4)⟩, 
 ⟨(some 50), (some ((some 48), true)), .sh 3 (.t 5)⟩, 
 ⟨(some 51), (some ((some 48), true)), .ld none (.t 50)⟩, 
 ⟨(some 52), (some ((some 48), true)), .bin .add false (.t 51) (.k (.sc (.int .i64 43200))) (pu (.binOp .add 3 (.tmp 51) (.const (.int .i64 43200)) 3) 3)⟩, 
 ⟨(some 53), (some ((some 48), true)), .bin .geq false (.t 49) (.t 52) (pu (.binOp .geq 3 (.tmp 49) (.tmp 52) 3) 4)⟩, 
 ⟨(some 54), none, .pick (.t 48) (.t 53) (.k (.sc (.bool false)))⟩])
 (.cond (.t 54) (.seq (.reg [⟨(some 55), none, .ld (some 6) (.t 5)⟩, 
  ⟨none, none, .st 6 (.t 10) (.t 55)⟩, 
  ⟨(some 11), none, .mv (.k (.sc (.int .i64 12)))⟩])
  .ret)
 .skip))
 (.seq (.seq (.reg [⟨(some 56), none, .ld (some 6) (.t 5)⟩, 
 ⟨(some 57), none, .mv (.t 2)⟩, 
 ⟨(some 58), none, .mv (.t 4)⟩, 
 ⟨(some 59), none, .call 26 [(.t 56), (.t 57), (.t 58)]⟩, 
 ⟨(some 60), none, .un .not (.t 59) (pu (.unOp .not 4 (.tmp 59)) 4)⟩])
 (.cond (.t 60) (.seq (.reg [⟨(some 61), none, .ld (some 6) (.t 5)⟩, 
  ⟨none, none, .st 6 (.t 10) (.t 61)⟩, 
  ⟨(some 11), none, .mv (.k (.sc (.int .i64 10)))⟩])
  .ret)
 .skip))
 (.seq (.reg [⟨(some 62), none, .mv (.t 2)⟩, 
 ⟨(some 63), none, .call 27 [(.t 62)]⟩, 
 ⟨(some 64), none, .mv (.t 3)⟩, 
 ⟨(some 65), none, .sh 2 (.t 5)⟩, 
 ⟨none, none, .st 1 (.t 65) (.t 63)⟩, 
 ⟨(some 66), none, .sh 5 (.t 5)⟩, 
 ⟨none, none, .st 1 (.t 66) (.t 64)⟩])
 (.seq (.reg [⟨(some 67), none, .ld (some 6) (.t 5)⟩, 
 ⟨none, none, .st 6 (.t 10) (.t 67)⟩, 
 ⟨(some 11), none, .mv (.k (.sc (.int .i64 0)))⟩])
 .ret))))))))))
def k15 : List Nat := [0, 1, 2, 3, 4, 5, 10, 11, 12, 16, 21, 28, 32, 44, 54, 60]
theorem ic15 : factsI Try.prog 15 = some (68, [.cell 10 23, .tmp 11], c15) := by kernel_rfl

-- chargenet/dispute.Amount (31 slots)
def c16 : IC :=
 (.seq (.reg [⟨(some 2), none, .bx (.t 0)⟩, 
 ⟨(some 4), none, .mv (.k (.sc (.int .i64 0)))⟩])
 (.seq (.seq (.reg [⟨(some 7), none, .mv (.t 1)⟩, 
 ⟨(some 8), none, .len (.t 7) (pu (.call ⟨.builtin .len, #[(.tmp 7)], #[41]⟩) 3)⟩, 
 ⟨(some 9), none, .mv (.k (.sc (.int .i64 0)))⟩])
 (.block 0 (.loop (.seq (.reg [⟨(some 10), none, .bin .lss false (.t 9) (.t 8) (pu (.binOp .lss 3 (.tmp 9) (.tmp 8) 3) 0)⟩])
  (.seq (.cond (.t 10) .skip
  (.exit 0))
  (.seq (.block 1 (.seq (.reg [⟨(some 11), none, .ixs 6 (.t 7) (.t 9)⟩, 
  ⟨(some 12), none, .ld (some 6) (.t 11)⟩, 
  ⟨(some 6), none, .al (.agg [(.sc (.string ⟨#[]⟩)), (.sc (.string ⟨#[]⟩)), (.sc (.int .i64 0)), (.sc (.int .i64 0)), (.sc (.int .i64 0)), (.sc (.int .i64 0))]) 6⟩, 
  ⟨none, none, .st 6 (.t 6) (.t 12)⟩])
  (.seq (.reg [⟨(some 13), none, .sh 0 (.t 6)⟩, 
  ⟨(some 14), none, .ld none (.t 13)⟩, 
  ⟨(some 15), none, .sh 0 (.t 2)⟩, 
  ⟨(some 16), none, .ld none (.t 15)⟩, 
  ⟨(some 17), none, .bin .eql false (.t 14) (.t 16) (pu (.binOp .eql 9 (.tmp 14) (.tmp 16) 9) 4)⟩, 
  ⟨(some 18), none, .mv (.t 17)⟩, 
  ⟨(some 19), (some ((some 18), true)), .sh 2 (.t 6)⟩, 
  ⟨(some 20), (some ((some 18), true)), .ld none (.t 19)⟩, 
  ⟨(some 21), (some ((some 18), true)), .bin .eql false (.t 20) (.k (.sc (.int .i64 4))) (pu (.binOp .eql 3 (.tmp 20) (.const (.int .i64 4)) 3) 4)⟩, 
  ⟨(some 22), none, .pick (.t 18) (.t 21) (.k (.sc (.bool false)))⟩])
  (.cond (.t 22) (.seq (.reg [⟨(some 23), none, .sh 11 (.t 2)⟩, 
   ⟨(some 24), none, .ld none (.t 23)⟩, 
   ⟨(some 25), none, .sh 5 (.t 6)⟩, 
   ⟨(some 26), none, .ld none (.t 25)⟩, 
   ⟨(some 27), none, .bin .sub false (.t 24) (.t 26) (pu (.binOp .sub 3 (.tmp 24) (.tmp 26) 3) 3)⟩, 
   ⟨(some 4), none, .mv (.t 27)⟩])
   .ret)
  .skip))))
  (.reg [⟨(some 28), none, .bin .add false (.t 9) (.k (.sc (.int .i64 1))) (pu (.binOp .add 3 (.tmp 9) (.const (.int .i64 1)) 3) 3)⟩, 
  ⟨(some 9), none, .mv (.t 28)⟩])))))))
 (.seq (.reg [⟨(some 29), none, .sh 11 (.t 2)⟩, 
 ⟨(some 30), none, .ld none (.t 29)⟩, 
 ⟨(some 4), none, .mv (.t 30)⟩])
 .ret)))
def k16 : List Nat := [0, 1, 2, 4, 6, 7, 8, 9, 10, 22]
theorem ic16 : factsI Try.prog 16 = some (31, [.tmp 4], c16) := by kernel_rfl

-- chargenet/chargenetlaw47.record (4 slots)
def c17 : IC :=
 (.seq (.reg [⟨(some 0), none, .al (.agg [(.sc (.string ⟨#[]⟩)), (.sc (.string ⟨#[]⟩)), (.sc (.string ⟨#[]⟩)), (.sc (.string ⟨#[]⟩)), (.sc (.int .i64 0)), (.sc (.int .i64 0)), (.sc (.int .i64 0)), (.sc (.int .i64 0)), (.sc (.string ⟨#[]⟩)), (.sc (.string ⟨#[]⟩)), (.sc (.slice none 0 0)), (.sc (.int .i64 0)), (.sc (.bool false)), (.sc (.string ⟨#[]⟩))]) 14⟩])
 (.seq (.reg [⟨(some 1), none, .bld [(.sc (.int .i64 0)), (.sc (.int .i64 0)), (.sc (.int .i64 0)), (.sc (.int .i64 0)), (.sc (.int .i64 0)), (.sc (.int .i64 0)), (.sc (.int .i64 0))] [(0, 1, (.k (.sc (.int .i64 1)))), (4, 1, (.k (.sc (.int .i64 7000)))), (6, 1, (.k (.sc (.int .i64 7000))))]⟩, 
 ⟨(some 2), none, .bsl 7 1 true [(.sc (.int .i64 0)), (.sc (.int .i64 0)), (.sc (.int .i64 0)), (.sc (.int .i64 0)), (.sc (.int .i64 0)), (.sc (.int .i64 0)), (.sc (.int .i64 0))] [(0, 7, (.t 1))]⟩, 
 ⟨(some 3), none, .bld [(.sc (.string ⟨#[]⟩)), (.sc (.string ⟨#[]⟩)), (.sc (.string ⟨#[]⟩)), (.sc (.string ⟨#[]⟩)), (.sc (.int .i64 0)), (.sc (.int .i64 0)), (.sc (.int .i64 0)), (.sc (.int .i64 0)), (.sc (.string ⟨#[]⟩)), (.sc (.string ⟨#[]⟩)), (.sc (.slice none 0 0)), (.sc (.int .i64 0)), (.sc (.bool false)), (.sc (.string ⟨#[]⟩))] [(0, 1, (.k (.sc (.string ⟨#[99, 49]⟩)))), (1, 1, (.k (.sc (.string ⟨#[65]⟩)))), (2, 1, (.k (.sc (.string ⟨#[66]⟩)))), (3, 1, (.k (.sc (.string ⟨#[83, 45, 49]⟩)))), (4, 1, (.k (.sc (.int .i64 1)))), (6, 1, (.k (.sc (.int .i64 100)))), (8, 1, (.k (.sc (.string ⟨#[116]⟩)))), (9, 1, (.k (.sc (.string ⟨#[69, 85, 82]⟩)))), (10, 1, (.t 2)), (11, 1, (.k (.sc (.int .i64 7000))))]⟩, 
 ⟨none, none, .st 14 (.t 0) (.t 3)⟩])
 .ret))
def k17 : List Nat := [0]
theorem ic17 : factsI Try.prog 17 = some (4, [.cell 0 30], c17) := by kernel_rfl

-- chargenet/ident.Valid (28 slots)
def c18 : IC :=
 (.seq (.reg [⟨(some 2), none, .mv (.k (.sc (.bool false)))⟩])
 (.seq (.seq (.reg [⟨(some 5), none, .mv (.t 0)⟩, 
 ⟨(some 6), none, .lens (.t 5) (pu (.call ⟨.builtin .len, #[(.tmp 5)], #[9]⟩) 3)⟩, 
 ⟨(some 7), none, .bin .lss false (.t 6) (.k (.sc (.int .i64 1))) (pu (.binOp .lss 3 (.tmp 6) (.const (.int .i64 1)) 3) 4)⟩, 
 ⟨(some 8), none, .mv (.t 7)⟩, 
 ⟨(some 9), (some ((some 8), false)), .mv (.t 0)⟩, 
 ⟨(some 10), (some ((some 8), false)), .lens (.t 9) (pu (.call ⟨.builtin .len, #[(.tmp 9)], #[9]⟩) 3)⟩, 
 ⟨(some 11), (some ((some 8), false)), .bin .gtr false (.t 10) (.k (.sc (.int .i64 36))) (pu (.binOp .gtr 3 (.tmp 10) (.const (.int .i64 36)) 3) 4)⟩, 
 ⟨(some 12), none, .pick (.t 8) (.k (.sc (.bool true))) (.t 11)⟩])
 (.cond (.t 12) (.seq (.reg [⟨(some 2), none, .mv (.k (.sc (.bool false)))⟩])
  .ret)
 .skip))
 (.seq (.seq (.reg [⟨(some 13), none, .mv (.t 0)⟩, 
 ⟨(some 14), none, .rng (.t 13)⟩])
 (.block 0 (.loop (.seq (.reg [⟨(some 15), none, .nxt (.t 14)⟩, 
  ⟨(some 16), none, .ext (.t 15) 0⟩])
  (.seq (.cond (.t 16) .skip
  (.exit 0))
  (.block 1 (.seq (.reg [⟨(some 17), none, .ext (.t 15) 2⟩, 
  ⟨(some 4), none, .mv (.t 17)⟩])
  (.seq (.seq (.reg [⟨(some 18), none, .mv (.t 4)⟩])
  (.block 2 (.seq (.seq (.reg [⟨(some 20), none, .bin .eql false (.t 18) (.k (.sc (.int .i32 45))) (pu (.binOp .eql 21 (.tmp 18) (.const (.int .i32 45)) 21) 4)⟩, 
  ⟨(some 19), none, .mv (.t 20)⟩])
  (.cond (.t 19) .skip
  (.seq (.reg [⟨(some 21), none, .bin .eql false (.t 18) (.k (.sc (.int .i32 95))) (pu (.binOp .eql 21 (.tmp 18) (.const (.int .i32 95)) 21) 4)⟩, 
   ⟨(some 19), none, .mv (.t 21)⟩])
   (.cond (.t 19) .skip
   (.seq (.reg [⟨(some 22), none, .bin .eql false (.t 18) (.k (.sc (.int .i32 46))) (pu (.binOp .eql 21 (.tmp 18) (.const (.int .i32 46)) 21) 4)⟩, 
    ⟨(some 19), none, .mv (.t 22)⟩])
    (.cond (.t 19) .skip
    (.seq (.reg [⟨(some 23), none, .bin .eql false (.t 18) (.k (.sc (.int .i32 58))) (pu (.binOp .eql 21 (.tmp 18) (.const (.int .i32 58)) 21) 4)⟩, 
     ⟨(some 19), none, .mv (.t 23)⟩])
     (.cond (.t 19) .skip
     (.reg [⟨(some 24), none, .bin .eql false (.t 18) (.k (.sc (.int .i32 42))) (pu (.binOp .eql 21 (.tmp 18) (.const (.int .i32 42)) 21) 4)⟩, 
      ⟨(some 19), none, .mv (.t 24)⟩])))))))))
  (.cond (.t 19) (.exit 1)
  .skip))))
  (.seq (.reg [⟨(some 25), none, .mv (.t 4)⟩, 
  ⟨(some 26), none, .call 28 [(.t 25)]⟩, 
  ⟨(some 27), none, .bin .lss false (.t 26) (.k (.sc (.int .i64 0))) (pu (.binOp .lss 3 (.tmp 26) (.const (.int .i64 0)) 3) 4)⟩])
  (.cond (.t 27) (.seq (.reg [⟨(some 2), none, .mv (.k (.sc (.bool false)))⟩])
   .ret)
  .skip))))))))))
 (.seq (.reg [⟨(some 2), none, .mv (.k (.sc (.bool true)))⟩])
 .ret))))
def k18 : List Nat := [0, 2, 4, 12, 14, 15, 16, 18, 19, 27]
theorem ic18 : factsI Try.prog 18 = some (28, [.tmp 2], c18) := by kernel_rfl

-- chargenet/chargenetref01.Valid (45 slots)
def c19 : IC :=
 (.seq (.reg [⟨(some 2), none, .mv (.k (.sc (.bool false)))⟩])
 (.seq (.seq (.reg [⟨(some 5), none, .mv (.t 0)⟩, 
 ⟨(some 6), none, .lens (.t 5) (pu (.call ⟨.builtin .len, #[(.tmp 5)], #[9]⟩) 3)⟩, 
 ⟨(some 7), none, .bin .lss false (.t 6) (.k (.sc (.int .i64 1))) (pu (.binOp .lss 3 (.tmp 6) (.const (.int .i64 1)) 3) 4)⟩, 
 ⟨(some 8), none, .mv (.t 7)⟩, 
 ⟨(some 9), (some ((some 8), false)), .mv (.t 0)⟩, 
 ⟨(some 10), (some ((some 8), false)), .lens (.t 9) (pu (.call ⟨.builtin .len, #[(.tmp 9)], #[9]⟩) 3)⟩, 
 ⟨(some 11), (some ((some 8), false)), .bin .gtr false (.t 10) (.k (.sc (.int .i64 36))) (pu (.binOp .gtr 3 (.tmp 10) (.const (.int .i64 36)) 3) 4)⟩, 
 ⟨(some 12), none, .pick (.t 8) (.k (.sc (.bool true))) (.t 11)⟩])
 (.cond (.t 12) (.seq (.reg [⟨(some 2), none, .mv (.k (.sc (.bool false)))⟩])
  .ret)
 .skip))
 (.seq (.seq (.reg [⟨(some 3), none, .mv (.k (.sc (.int .i64 0)))⟩])
 (.block 0 (.loop (.seq (.seq (.reg [⟨(some 13), none, .mv (.t 3)⟩, 
  ⟨(some 14), none, .mv (.t 0)⟩, 
  ⟨(some 15), none, .lens (.t 14) (pu (.call ⟨.builtin .len, #[(.tmp 14)], #[9]⟩) 3)⟩, 
  ⟨(some 16), none, .bin .lss false (.t 13) (.t 15) (pu (.binOp .lss 3 (.tmp 13) (.tmp 15) 3) 4)⟩])
  (.cond (.t 16) .skip
  (.exit 0)))
  (.seq (.block 1 (.seq (.reg [⟨(some 19), none, .mv (.t 0)⟩, 
  ⟨(some 20), none, .mv (.t 3)⟩, 
  ⟨(some 21), none, .pur (pu (.index 9 (.tmp 19) (.tmp 20)) 5)⟩, 
  ⟨(some 4), none, .mv (.t 21)⟩])
  (.seq (.reg [⟨(some 22), none, .mv (.t 4)⟩, 
  ⟨(some 23), none, .call 29 [(.t 22)]⟩, 
  ⟨(some 24), none, .bin .lss false (.t 23) (.k (.sc (.int .i64 0))) (pu (.binOp .lss 3 (.tmp 23) (.const (.int .i64 0)) 3) 4)⟩, 
  ⟨(some 25), none, .mv (.t 24)⟩, 
  ⟨(some 26), (some ((some 25), true)), .mv (.t 4)⟩, 
  ⟨(some 27), (some ((some 25), true)), .bin .neq false (.t 26) (.k (.sc (.int .u8 45))) (pu (.binOp .neq 5 (.tmp 26) (.const (.int .u8 45)) 5) 4)⟩, 
  ⟨(some 28), none, .pick (.t 25) (.t 27) (.k (.sc (.bool false)))⟩, 
  ⟨(some 29), none, .mv (.t 28)⟩, 
  ⟨(some 30), (some ((some 29), true)), .mv (.t 4)⟩, 
  ⟨(some 31), (some ((some 29), true)), .bin .neq false (.t 30) (.k (.sc (.int .u8 95))) (pu (.binOp .neq 5 (.tmp 30) (.const (.int .u8 95)) 5) 4)⟩, 
  ⟨(some 32), none, .pick (.t 29) (.t 31) (.k (.sc (.bool false)))⟩, 
  ⟨(some 33), none, .mv (.t 32)⟩, 
  ⟨(some 34), (some ((some 33), true)), .mv (.t 4)⟩, 
  ⟨(some 35), (some ((some 33), true)), .bin .neq false (.t 34) (.k (.sc (.int .u8 46))) (pu (.binOp .neq 5 (.tmp 34) (.const (.int .u8 46)) 5) 4)⟩, 
  ⟨(some 36), none, .pick (.t 33) (.t 35) (.k (.sc (.bool false)))⟩, 
  ⟨(some 37), none, .mv (.t 36)⟩, 
  ⟨(some 38), (some ((some 37), true)), .mv (.t 4)⟩, 
  ⟨(some 39), (some ((some 37), true)), .bin .neq false (.t 38) (.k (.sc (.int .u8 58))) (pu (.binOp .neq 5 (.tmp 38) (.const (.int .u8 58)) 5) 4)⟩, 
  ⟨(some 40), none, .pick (.t 37) (.t 39) (.k (.sc (.bool false)))⟩, 
  ⟨(some 41), none, .mv (.t 40)⟩, 
  ⟨(some 42), (some ((some 41), true)), .mv (.t 4)⟩, 
  ⟨(some 43), (some ((some 41), true)), .bin .neq false (.t 42) (.k (.sc (.int .u8 42))) (pu (.binOp .neq 5 (.tmp 42) (.const (.int .u8 42)) 5) 4)⟩, 
  ⟨(some 44), none, .pick (.t 41) (.t 43) (.k (.sc (.bool false)))⟩])
  (.cond (.t 44) (.seq (.reg [⟨(some 2), none, .mv (.k (.sc (.bool false)))⟩])
   .ret)
  .skip))))
  (.reg [⟨(some 17), none, .mv (.t 3)⟩, 
  ⟨(some 18), none, .bin .add false (.t 17) (.k (.sc (.int .i64 1))) (pu (.binOp .add 3 (.tmp 17) (.const (.int .i64 1)) 3) 3)⟩, 
  ⟨(some 3), none, .mv (.t 18)⟩]))))))
 (.seq (.reg [⟨(some 2), none, .mv (.k (.sc (.bool true)))⟩])
 .ret))))
def k19 : List Nat := [0, 2, 3, 4, 12, 16, 44]
theorem ic19 : factsI Try.prog 19 = some (45, [.tmp 2], c19) := by kernel_rfl

-- chargenet/cdr.Valid (64 slots)
def c20 : IC :=
 (.seq (.reg [⟨(some 1), none, .bx (.t 0)⟩, 
 ⟨(some 2), none, .mv (.k (.sc (.int .i64 0)))⟩])
 (.seq (.seq (.reg [⟨(some 5), none, .sh 0 (.t 1)⟩, 
 ⟨(some 6), none, .ld none (.t 5)⟩, 
 ⟨(some 7), none, .sh 1 (.t 1)⟩, 
 ⟨(some 8), none, .ld none (.t 7)⟩, 
 ⟨(some 9), none, .sh 2 (.t 1)⟩, 
 ⟨(some 10), none, .ld none (.t 9)⟩, 
 ⟨(some 11), none, .sh 3 (.t 1)⟩, 
 ⟨(some 12), none, .ld none (.t 11)⟩, 
 ⟨(some 13), none, .sh 8 (.t 1)⟩, 
 ⟨(some 14), none, .ld none (.t 13)⟩, 
 ⟨(some 15), none, .bsl 1 5 false [(.sc (.string ⟨#[]⟩)), (.sc (.string ⟨#[]⟩)), (.sc (.string ⟨#[]⟩)), (.sc (.string ⟨#[]⟩)), (.sc (.string ⟨#[]⟩))] [(0, 1, (.t 6)), (1, 1, (.t 8)), (2, 1, (.t 10)), (3, 1, (.t 12)), (4, 1, (.t 14))]⟩, 
 ⟨(some 16), none, .call 30 [(.t 15)]⟩, 
 ⟨(some 3), none, .mv (.t 16)⟩])
 (.seq (.reg [⟨(some 17), none, .mv (.t 3)⟩, 
 ⟨(some 18), none, .bin .neq false (.t 17) (.k (.sc (.int .i64 0))) (pu (.binOp .neq 26 (.tmp 17) (.const (.int .i64 0)) 26) 4)⟩])
 (.cond (.t 18) (.seq (.reg [⟨(some 19), none, .mv (.t 3)⟩, 
  ⟨(some 2), none, .mv (.t 19)⟩])
  .ret)
 .skip)))
 (.seq (.seq (.reg [⟨(some 20), none, .sh 1 (.t 1)⟩, 
 ⟨(some 21), none, .ld none (.t 20)⟩, 
 ⟨(some 22), none, .sh 2 (.t 1)⟩, 
 ⟨(some 23), none, .ld none (.t 22)⟩, 
 ⟨(some 24), none, .bin .eql false (.t 21) (.t 23) (pu (.binOp .eql 9 (.tmp 21) (.tmp 23) 9) 4)⟩])
 (.cond (.t 24) (.seq (.reg [⟨(some 2), none, .mv (.k (.sc (.int .i64 1)))⟩])
  .ret)
 .skip))
 (.seq (.seq (.reg [⟨(some 25), none, .sh 4 (.t 1)⟩, 
 ⟨(some 26), none, .ld none (.t 25)⟩, 
 ⟨(some 27), none, .bsl 1 1 false [(.sc (.int .i64 0))] [(0, 1, (.t 26))]⟩, 
 ⟨(some 28), none, .call 31 [(.k (.sc (.int .i64 1))), (.k (.sc (.int .i64 2147483647))), (.t 27)]⟩, 
 ⟨(some 29), none, .un .not (.t 28) (pu (.unOp .not 4 (.tmp 28)) 4)⟩, 
 ⟨(some 30), none, .mv (.t 29)⟩, 
 ⟨(some 31), (some ((some 30), false)), .sh 5 (.t 1)⟩, 
 ⟨(some 32), (some ((some 30), false)), .ld none (.t 31)⟩, 
 ⟨(some 33), (some ((some 30), false)), .sh 6 (.t 1)⟩, 
 ⟨(some 34), (some ((some 30), false)), .ld none (.t 33)⟩, 
 ⟨(some 35), (some ((some 30), false)), .bsl 1 2 false [(.sc (.int .i64 0)), (.sc (.int .i64 0))] [(0, 1, (.t 32)), (1, 1, (.t 34))]⟩, 
 ⟨(some 36), (some ((some 30), false)), .call 31 [(.k (.sc (.int .i64 0))), (.k (.sc (.int .i64 268435456))), (.t 35)]⟩, 
 ⟨(some 37), (some ((some 30), false)), .un .not (.t 36) (pu (.unOp .not 4 (.tmp 36)) 4)⟩, 
 ⟨(some 38), none, .pick (.t 30) (.k (.sc (.bool true))) (.t 37)⟩, 
 ⟨(some 39), none, .mv (.t 38)⟩, 
 ⟨(some 40), (some ((some 39), false)), .sh 5 (.t 1)⟩, 
 ⟨(some 41), (some ((some 39), false)), .ld none (.t 40)⟩, 
 ⟨(some 42), (some ((some 39), false)), .sh 6 (.t 1)⟩, 
 ⟨(some 43), (some ((some 39), false)), .ld none (.t 42)⟩, 
 ⟨(some 44), (some ((some 39), false)), .bin .gtr false (.t 41) (.t 43) (pu (.binOp .gtr 3 (.tmp 41) (.tmp 43) 3) 4)⟩, 
 ⟨(some 45), none, .pick (.t 39) (.k (.sc (.bool true))) (.t 44)⟩, 
 ⟨(some 46), none, .mv (.t 45)⟩, 
 ⟨(some 47), (some ((some 46), false)), .sh 7 (.t 1)⟩, 
 ⟨(some 48), (some ((some 46), false)), .ld none (.t 47)⟩, 
 ⟨(some 49), (some ((some 46), false)), .bsl 1 1 false [(.sc (.int .i64 0))] [(0, 1, (.t 48))]⟩, 
 ⟨(some 50), (some ((some 46), false)), .call 31 [(.k (.sc (.int .i64 0))), (.k (.sc (.int .i64 36028797018963968))), (.t 49)]⟩, 
 ⟨(some 51), (some ((some 46), false)), .un .not (.t 50) (pu (.unOp .not 4 (.tmp 50)) 4)⟩, 
 ⟨(some 52), none, .pick (.t 46) (.k (.sc (.bool true))) (.t 51)⟩])
 (.cond (.t 52) (.seq (.reg [⟨(some 2), none, .mv (.k (.sc (.int .i64 2)))⟩])
  .ret)
 .skip))
 (.seq (.seq (.reg [⟨(some 53), none, .sh 9 (.t 1)⟩, 
 ⟨(some 54), none, .ld none (.t 53)⟩, 
 ⟨(some 55), none, .call 32 [(.t 54)]⟩, 
 ⟨(some 56), none, .un .not (.t 55) (pu (.unOp .not 4 (.tmp 55)) 4)⟩])
 (.cond (.t 56) (.seq (.reg [⟨(some 2), none, .mv (.k (.sc (.int .i64 21)))⟩])
  .ret)
 .skip))
 (.seq (.seq (.reg [⟨(some 57), none, .ld (some 14) (.t 1)⟩, 
 ⟨(some 58), none, .call 33 [(.t 57)]⟩, 
 ⟨(some 4), none, .mv (.t 58)⟩])
 (.seq (.reg [⟨(some 59), none, .mv (.t 4)⟩, 
 ⟨(some 60), none, .bin .neq false (.t 59) (.k (.sc (.int .i64 0))) (pu (.binOp .neq 26 (.tmp 59) (.const (.int .i64 0)) 26) 4)⟩])
 (.cond (.t 60) (.seq (.reg [⟨(some 61), none, .mv (.t 4)⟩, 
  ⟨(some 2), none, .mv (.t 61)⟩])
  .ret)
 .skip)))
 (.seq (.reg [⟨(some 62), none, .ld (some 14) (.t 1)⟩, 
 ⟨(some 63), none, .call 34 [(.t 62)]⟩, 
 ⟨(some 2), none, .mv (.t 63)⟩])
 .ret)))))))
def k20 : List Nat := [0, 1, 2, 3, 4, 18, 24, 52, 56, 60]
theorem ic20 : factsI Try.prog 20 = some (64, [.tmp 2], c20) := by kernel_rfl

-- chargenet/chargenetref46.Valid (126 slots)
def c21 : IC :=
 (.seq (.reg [⟨(some 1), none, .bx (.t 0)⟩, 
 ⟨(some 2), none, .mv (.k (.sc (.int .i64 0)))⟩])
 (.seq (.seq (.reg [⟨(some 5), none, .sh 0 (.t 1)⟩, 
 ⟨(some 6), none, .ld none (.t 5)⟩, 
 ⟨(some 7), none, .call 19 [(.t 6)]⟩, 
 ⟨(some 8), none, .un .not (.t 7) (pu (.unOp .not 4 (.tmp 7)) 4)⟩, 
 ⟨(some 9), none, .mv (.t 8)⟩, 
 ⟨(some 10), (some ((some 9), false)), .sh 1 (.t 1)⟩, 
 ⟨(some 11), (some ((some 9), false)), .ld none (.t 10)⟩, 
 ⟨(some 12), (some ((some 9), false)), .call 19 [(.t 11)]⟩, 
 ⟨(some 13), (some ((some 9), false)), .un .not (.t 12) (pu (.unOp .not 4 (.tmp 12)) 4)⟩, 
 ⟨(some 14), none, .pick (.t 9) (.k (.sc (.bool true))) (.t 13)⟩, 
 ⟨(some 15), none, .mv (.t 14)⟩, 
 ⟨(some 16), (some ((some 15), false)), .sh 2 (.t 1)⟩, 
 ⟨(some 17), (some ((some 15), false)), .ld none (.t 16)⟩, 
 ⟨(some 18), (some ((some 15), false)), .call 19 [(.t 17)]⟩, 
 ⟨(some 19), (some ((some 15), false)), .un .not (.t 18) (pu (.unOp .not 4 (.tmp 18)) 4)⟩, 
 ⟨(some 20), none, .pick (.t 15) (.k (.sc (.bool true))) (.t 19)⟩, 
 ⟨(some 21), none, .mv (.t 20)⟩, 
 ⟨(some 22), (some ((some 21), false)), .sh 3 (.t 1)⟩, 
 ⟨(some 23), (some ((some 21), false)), .ld none (.t 22)⟩, 
 ⟨(some 24), (some ((some 21), false)), .call 19 [(.t 23)]⟩, 
 ⟨(some 25), (some ((some 21), false)), .un .not (.t 24) (pu (.unOp .not 4 (.tmp 24)) 4)⟩, 
 ⟨(some 26), none, .pick (.t 21) (.k (.sc (.bool true))) (.t 25)⟩, 
 ⟨(some 27), none, .mv (.t 26)⟩, 
 ⟨(some 28), (some ((some 27), false)), .sh 8 (.t 1)⟩, 
 ⟨(some 29), (some ((some 27), false)), .ld none (.t 28)⟩, 
 ⟨(some 30), (some ((some 27), false)), .call 19 [(.t 29)]⟩, 
 ⟨(some 31), (some ((some 27), false)), .un .not (.t 30) (pu (.unOp .not 4 (.tmp 30)) 4)⟩, 
 ⟨(some 32), none, .pick (.t 27) (.k (.sc (.bool true))) (.t 31)⟩])
 (.cond (.t 32) (.seq (.reg [⟨(some 2), none, .mv (.k (.sc (.int .i64 4)))⟩])
  .ret)
 .skip))
 (.seq (.seq (.reg [⟨(some 33), none, .sh 1 (.t 1)⟩, 
 ⟨(some 34), none, .ld none (.t 33)⟩, 
 ⟨(some 35), none, .sh 2 (.t 1)⟩, 
 ⟨(some 36), none, .ld none (.t 35)⟩, 
 ⟨(some 37), none, .bin .eql false (.t 34) (.t 36) (pu (.binOp .eql 9 (.tmp 34) (.tmp 36) 9) 4)⟩])
 (.cond (.t 37) (.seq (.reg [⟨(some 2), none, .mv (.k (.sc (.int .i64 1)))⟩])
  .ret)
 .skip))
 (.seq (.seq (.reg [⟨(some 38), none, .sh 4 (.t 1)⟩, 
 ⟨(some 39), none, .ld none (.t 38)⟩, 
 ⟨(some 40), none, .call 35 [(.t 39), (.k (.sc (.int .i64 1))), (.k (.sc (.int .i64 2147483647)))]⟩, 
 ⟨(some 41), none, .un .not (.t 40) (pu (.unOp .not 4 (.tmp 40)) 4)⟩, 
 ⟨(some 42), none, .mv (.t 41)⟩, 
 ⟨(some 43), (some ((some 42), false)), .sh 5 (.t 1)⟩, 
 ⟨(some 44), (some ((some 42), false)), .ld none (.t 43)⟩, 
 ⟨(some 45), (some ((some 42), false)), .bin .lss false (.t 44) (.k (.sc (.int .i64 0))) (pu (.binOp .lss 3 (.tmp 44) (.const (.int .i64 0)) 3) 4)⟩, 
 ⟨(some 46), none, .pick (.t 42) (.k (.sc (.bool true))) (.t 45)⟩, 
 ⟨(some 47), none, .mv (.t 46)⟩, 
 ⟨(some 48), (some ((some 47), false)), .sh 5 (.t 1)⟩, 
 ⟨(some 49), (some ((some 47), false)), .ld none (.t 48)⟩, 
 ⟨(some 50), (some ((some 47), false)), .sh 6 (.t 1)⟩, 
 ⟨(some 51), (some ((some 47), false)), .ld none (.t 50)⟩, 
 ⟨(some 52), (some ((some 47), false)), .bin .gtr false (.t 49) (.t 51) (pu (.binOp .gtr 3 (.tmp 49) (.tmp 51) 3) 4)⟩, 
 ⟨(some 53), none, .pick (.t 47) (.k (.sc (.bool true))) (.t 52)⟩, 
 ⟨(some 54), none, .mv (.t 53)⟩, 
 ⟨(some 55), (some ((some 54), false)), .sh 6 (.t 1)⟩, 
 ⟨(some 56), (some ((some 54), false)), .ld none (.t 55)⟩, 
 ⟨(some 57), (some ((some 54), false)), .bin .gtr false (.t 56) (.k (.sc (.int .i64 268435456))) (pu (.binOp .gtr 3 (.tmp 56) (.const (.int .i64 268435456)) 3) 4)⟩, 
 ⟨(some 58), none, .pick (.t 54) (.k (.sc (.bool true))) (.t 57)⟩, 
 ⟨(some 59), none, .mv (.t 58)⟩, 
 ⟨(some 60), (some ((some 59), false)), .sh 7 (.t 1)⟩, 
 ⟨(some 61), (some ((some 59), false)), .ld none (.t 60)⟩, 
 ⟨(some 62), (some ((some 59), false)), .call 35 [(.t 61), (.k (.sc (.int .i64 0))), (.k (.sc (.int .i64 36028797018963968)))]⟩, 
 ⟨(some 63), (some ((some 59), false)), .un .not (.t 62) (pu (.unOp .not 4 (.tmp 62)) 4)⟩, 
 ⟨(some 64), none, .pick (.t 59) (.k (.sc (.bool true))) (.t 63)⟩])
 (.cond (.t 64) (.seq (.reg [⟨(some 2), none, .mv (.k (.sc (.int .i64 2)))⟩])
  .ret)
 .skip))
 (.seq (.seq (.reg [⟨(some 65), none, .sh 9 (.t 1)⟩, 
 ⟨(some 66), none, .ld none (.t 65)⟩, 
 ⟨(some 67), none, .call 36 [(.t 66)]⟩, 
 ⟨(some 68), none, .un .not (.t 67) (pu (.unOp .not 4 (.tmp 67)) 4)⟩])
 (.cond (.t 68) (.seq (.reg [⟨(some 2), none, .mv (.k (.sc (.int .i64 21)))⟩])
  .ret)
 .skip))
 (.seq (.seq (.reg [⟨(some 69), none, .sh 10 (.t 1)⟩, 
 ⟨(some 70), none, .ld none (.t 69)⟩, 
 ⟨(some 71), none, .len (.t 70) (pu (.call ⟨.builtin .len, #[(.tmp 70)], #[28]⟩) 3)⟩, 
 ⟨(some 72), none, .bin .gtr false (.t 71) (.k (.sc (.int .i64 32))) (pu (.binOp .gtr 3 (.tmp 71) (.const (.int .i64 32)) 3) 4)⟩])
 (.cond (.t 72) (.seq (.reg [⟨(some 2), none, .mv (.k (.sc (.int .i64 3)))⟩])
  .ret)
 .skip))
 (.seq (.reg [⟨(some 3), none, .mv (.k (.sc (.int .i64 0)))⟩])
 (.seq (.seq (.reg [⟨(some 4), none, .mv (.k (.sc (.int .i64 0)))⟩])
 (.block 0 (.loop (.seq (.seq (.reg [⟨(some 73), none, .mv (.t 4)⟩, 
  ⟨(some 74), none, .sh 10 (.t 1)⟩, 
  ⟨(some 75), none, .ld none (.t 74)⟩, 
  ⟨(some 76), none, .len (.t 75) (pu (.call ⟨.builtin .len, #[(.tmp 75)], #[28]⟩) 3)⟩, 
  ⟨(some 77), none, .bin .lss false (.t 73) (.t 76) (pu (.binOp .lss 3 (.tmp 73) (.tmp 76) 3) 4)⟩])
  (.cond (.t 77) .skip
  (.exit 0)))
  (.seq (.block 1 (.seq (.seq (.reg [⟨(some 80), none, .sh 10 (.t 1)⟩, 
  ⟨(some 81), none, .ld none (.t 80)⟩, 
  ⟨(some 82), none, .mv (.t 4)⟩, 
  ⟨(some 83), none, .ixs 7 (.t 81) (.t 82)⟩, 
  ⟨(some 84), none, .ld (some 7) (.t 83)⟩, 
  ⟨(some 85), none, .call 37 [(.t 84)]⟩, 
  ⟨(some 86), none, .un .not (.t 85) (pu (.unOp .not 4 (.tmp 85)) 4)⟩])
  (.cond (.t 86) (.seq (.reg [⟨(some 2), none, .mv (.k (.sc (.int .i64 1)))⟩])
   .ret)
  .skip))
  (.reg [⟨(some 87), none, .mv (.t 3)⟩, 
  ⟨(some 88), none, .sh 10 (.t 1)⟩, 
  ⟨(some 89), none, .ld none (.t 88)⟩, 
  ⟨(some 90), none, .mv (.t 4)⟩, 
  ⟨(some 91), none, .ixs 7 (.t 89) (.t 90)⟩, 
  ⟨(some 92), none, .sh 6 (.t 91)⟩, 
  ⟨(some 93), none, .ld none (.t 92)⟩, 
  ⟨(some 94), none, .bin .add false (.t 87) (.t 93) (pu (.binOp .add 3 (.tmp 87) (.tmp 93) 3) 3)⟩, 
  ⟨(some 3), none, .mv (.t 94)⟩])))
  (.reg [⟨(some 78), none, .mv (.t 4)⟩, 
  ⟨(some 79), none, .bin .add false (.t 78) (.k (.sc (.int .i64 1))) (pu (.binOp .add 3 (.tmp 78) (.const (.int .i64 1)) 3) 3)⟩, 
  ⟨(some 4), none, .mv (.t 79)⟩]))))))
 (.seq (.seq (.reg [⟨(some 95), none, .sh 11 (.t 1)⟩, 
 ⟨(some 96), none, .ld none (.t 95)⟩, 
 ⟨(some 97), none, .mv (.t 3)⟩, 
 ⟨(some 98), none, .bin .neq false (.t 96) (.t 97) (pu (.binOp .neq 3 (.tmp 96) (.tmp 97) 3) 4)⟩])
 (.cond (.t 98) (.seq (.reg [⟨(some 2), none, .mv (.k (.sc (.int .i64 1)))⟩])
  .ret)
 .skip))
 (.seq (.seq (.reg [⟨(some 99), none, .sh 12 (.t 1)⟩, 
 ⟨(some 100), none, .ld none (.t 99)⟩, 
 ⟨(some 101), none, .mv (.t 100)⟩, 
 ⟨(some 102), (some ((some 101), true)), .sh 13 (.t 1)⟩, 
 ⟨(some 103), (some ((some 101), true)), .ld none (.t 102)⟩, 
 ⟨(some 104), (some ((some 101), true)), .call 19 [(.t 103)]⟩, 
 ⟨(some 105), (some ((some 101), true)), .un .not (.t 104) (pu (.unOp .not 4 (.tmp 104)) 4)⟩, 
 ⟨(some 106), none, .pick (.t 101) (.t 105) (.k (.sc (.bool false)))⟩])
 (.cond (.t 106) (.seq (.reg [⟨(some 2), none, .mv (.k (.sc (.int .i64 4)))⟩])
  .ret)
 .skip))
 (.seq (.seq (.reg [⟨(some 107), none, .sh 12 (.t 1)⟩, 
 ⟨(some 108), none, .ld none (.t 107)⟩, 
 ⟨(some 109), none, .mv (.t 108)⟩, 
 ⟨(some 110), (some ((some 109), true)), .sh 13 (.t 1)⟩, 
 ⟨(some 111), (some ((some 109), true)), .ld none (.t 110)⟩, 
 ⟨(some 112), (some ((some 109), true)), .sh 0 (.t 1)⟩, 
 ⟨(some 113), (some ((some 109), true)), .ld none (.t 112)⟩, 
 ⟨(some 114), (some ((some 109), true)), .bin .eql false (.t 111) (.t 113) (pu (.binOp .eql 9 (.tmp 111) (.tmp 113) 9) 4)⟩, 
 ⟨(some 115), none, .pick (.t 109) (.t 114) (.k (.sc (.bool false)))⟩, 
 ⟨(some 116), none, .mv (.t 115)⟩, 
 ⟨(some 117), (some ((some 116), false)), .sh 12 (.t 1)⟩, 
 ⟨(some 118), (some ((some 116), false)), .ld none (.t 117)⟩, 
 ⟨(some 119), (some ((some 116), false)), .un .not (.t 118) (pu (.unOp .not 4 (.tmp 118)) 4)⟩, 
 ⟨(some 120), (some ((some 116), false)), .mv (.t 119)⟩, 
 ⟨(some 121), (some ((some 120), true)), .sh 13 (.t 1)⟩, 
 ⟨(some 122), (some ((some 120), true)), .ld none (.t 121)⟩, 
 ⟨(some 123), (some ((some 120), true)), .bin .neq false (.t 122) (.k (.sc (.string ⟨#[]⟩))) (pu (.binOp .neq 9 (.tmp 122) (.const (.string ⟨#[]⟩)) 9) 4)⟩, 
 ⟨(some 124), (some ((some 116), false)), .pick (.t 120) (.t 123) (.k (.sc (.bool false)))⟩, 
 ⟨(some 125), none, .pick (.t 116) (.k (.sc (.bool true))) (.t 124)⟩])
 (.cond (.t 125) (.seq (.reg [⟨(some 2), none, .mv (.k (.sc (.int .i64 1)))⟩])
  .ret)
 .skip))
 (.seq (.reg [⟨(some 2), none, .mv (.k (.sc (.int .i64 0)))⟩])
 .ret))))))))))))
def k21 : List Nat := [0, 1, 2, 3, 4, 32, 37, 64, 68, 72, 77, 86, 98, 106, 125]
theorem ic21 : factsI Try.prog 21 = some (126, [.tmp 2], c21) := by kernel_rfl

-- chargenet/dispute.inRange (43 slots)
def c22 : IC :=
 (.seq (.reg [⟨(some 4), none, .bx (.t 0)⟩, 
 ⟨(some 8), none, .mv (.k (.sc (.bool false)))⟩])
 (.seq (.seq (.reg [⟨(some 9), none, .mv (.t 1)⟩, 
 ⟨(some 10), none, .bin .lss false (.t 9) (.k (.sc (.int .i64 1))) (pu (.binOp .lss 3 (.tmp 9) (.const (.int .i64 1)) 3) 4)⟩, 
 ⟨(some 11), none, .mv (.t 10)⟩, 
 ⟨(some 12), (some ((some 11), false)), .mv (.t 1)⟩, 
 ⟨(some 13), (some ((some 11), false)), .bin .gtr false (.t 12) (.k (.sc (.int .i64 5))) (pu (.binOp .gtr 3 (.tmp 12) (.const (.int .i64 5)) 3) 4)⟩, 
 ⟨(some 14), none, .pick (.t 11) (.k (.sc (.bool true))) (.t 13)⟩])
 (.cond (.t 14) (.seq (.reg [⟨(some 8), none, .mv (.k (.sc (.bool false)))⟩])
  .ret)
 .skip))
 (.seq (.seq (.reg [⟨(some 15), none, .mv (.t 1)⟩, 
 ⟨(some 16), none, .bin .eql false (.t 15) (.k (.sc (.int .i64 3))) (pu (.binOp .eql 3 (.tmp 15) (.const (.int .i64 3)) 3) 4)⟩, 
 ⟨(some 17), none, .mv (.t 16)⟩, 
 ⟨(some 18), (some ((some 17), true)), .mv (.t 2)⟩, 
 ⟨(some 19), (some ((some 17), true)), .bin .lss false (.t 18) (.k (.sc (.int .i64 1))) (pu (.binOp .lss 3 (.tmp 18) (.const (.int .i64 1)) 3) 4)⟩, 
 ⟨(some 20), (some ((some 17), true)), .mv (.t 19)⟩, 
 ⟨(some 21), (some ((some 20), false)), .mv (.t 2)⟩, 
 ⟨(some 22), (some ((some 20), false)), .sh 4 (.t 4)⟩, 
 ⟨(some 23), (some ((some 20), false)), .ld none (.t 22)⟩, 
 ⟨(some 24), (some ((some 20), false)), .bin .gtr false (.t 21) (.t 23) (pu (.binOp .gtr 3 (.tmp 21) (.tmp 23) 3) 4)⟩, 
 ⟨(some 25), (some ((some 17), true)), .pick (.t 20) (.k (.sc (.bool true))) (.t 24)⟩, 
 ⟨(some 26), none, .pick (.t 17) (.t 25) (.k (.sc (.bool false)))⟩, 
 ⟨(some 27), none, .mv (.t 26)⟩, 
 ⟨(some 28), (some ((some 27), false)), .mv (.t 1)⟩, 
 ⟨(some 29), (some ((some 27), false)), .bin .neq false (.t 28) (.k (.sc (.int .i64 3))) (pu (.binOp .neq 3 (.tmp 28) (.const (.int .i64 3)) 3) 4)⟩, 
 ⟨(some 30), (some ((some 27), false)), .mv (.t 29)⟩, 
 ⟨(some 31), (some ((some 30), true)), .mv (.t 2)⟩, 
 ⟨(some 32), (some ((some 30), true)), .bin .neq false (.t 31) (.k (.sc (.int .i64 0))) (pu (.binOp .neq 3 (.tmp 31) (.const (.int .i64 0)) 3) 4)⟩, 
 ⟨(some 33), (some ((some 27), false)), .pick (.t 30) (.t 32) (.k (.sc (.bool false)))⟩, 
 ⟨(some 34), none, .pick (.t 27) (.k (.sc (.bool true))) (.t 33)⟩])
 (.cond (.t 34) (.seq (.reg [⟨(some 8), none, .mv (.k (.sc (.bool false)))⟩])
  .ret)
 .skip))
 (.seq (.reg [⟨(some 35), none, .mv (.t 3)⟩, 
 ⟨(some 36), none, .sh 3 (.t 4)⟩, 
 ⟨(some 37), none, .ld none (.t 36)⟩, 
 ⟨(some 38), none, .bin .geq false (.t 35) (.t 37) (pu (.binOp .geq 3 (.tmp 35) (.tmp 37) 3) 4)⟩, 
 ⟨(some 39), none, .mv (.t 38)⟩, 
 ⟨(some 40), (some ((some 39), true)), .mv (.t 3)⟩, 
 ⟨(some 41), (some ((some 39), true)), .bin .leq false (.t 40) (.k (.sc (.int .i64 268435456))) (pu (.binOp .leq 3 (.tmp 40) (.const (.int .i64 268435456)) 3) 4)⟩, 
 ⟨(some 42), none, .pick (.t 39) (.t 41) (.k (.sc (.bool false)))⟩, 
 ⟨(some 8), none, .mv (.t 42)⟩])
 .ret))))
def k22 : List Nat := [0, 1, 2, 3, 4, 8, 14, 34]
theorem ic22 : factsI Try.prog 22 = some (43, [.tmp 8], c22) := by kernel_rfl

-- chargenet/dispute.actor (12 slots)
def c23 : IC :=
 (.seq (.reg [⟨(some 4), none, .mv (.k (.sc (.bool false)))⟩])
 (.seq (.seq (.reg [⟨(some 5), none, .mv (.t 0)⟩])
 (.block 0 (.seq (.seq (.reg [⟨(some 7), none, .bin .eql false (.t 5) (.k (.sc (.int .i64 2))) (pu (.binOp .eql 3 (.tmp 5) (.const (.int .i64 2)) 3) 4)⟩, 
 ⟨(some 6), none, .mv (.t 7)⟩])
 (.cond (.t 6) .skip
 (.reg [⟨(some 8), none, .bin .eql false (.t 5) (.k (.sc (.int .i64 5))) (pu (.binOp .eql 3 (.tmp 5) (.const (.int .i64 5)) 3) 4)⟩, 
  ⟨(some 6), none, .mv (.t 8)⟩])))
 (.cond (.t 6) (.seq (.reg [⟨(some 9), none, .mv (.t 1)⟩, 
  ⟨(some 4), none, .mv (.t 9)⟩])
  .ret)
 .skip))))
 (.seq (.reg [⟨(some 10), none, .mv (.t 1)⟩, 
 ⟨(some 11), none, .un .not (.t 10) (pu (.unOp .not 4 (.tmp 10)) 4)⟩, 
 ⟨(some 4), none, .mv (.t 11)⟩])
 .ret)))
def k23 : List Nat := [0, 1, 4, 5, 6]
theorem ic23 : factsI Try.prog 23 = some (12, [.tmp 4], c23) := by kernel_rfl

-- chargenet/dispute.next (56 slots)
def c24 : IC :=
 (.seq (.reg [⟨(some 6), none, .mv (.k (.sc (.int .i64 0)))⟩, 
 ⟨(some 7), none, .mv (.k (.sc (.bool false)))⟩])
 (.seq (.seq (.reg [⟨(some 8), none, .mv (.t 1)⟩])
 (.block 0 (.seq (.reg [⟨(some 10), none, .bin .eql false (.t 8) (.k (.sc (.int .i64 1))) (pu (.binOp .eql 3 (.tmp 8) (.const (.int .i64 1)) 3) 4)⟩, 
 ⟨(some 9), none, .mv (.t 10)⟩])
 (.cond (.t 9) (.seq (.reg [⟨(some 11), none, .mv (.t 0)⟩, 
  ⟨(some 12), none, .bin .eql false (.t 11) (.k (.sc (.int .i64 1))) (pu (.binOp .eql 3 (.tmp 11) (.const (.int .i64 1)) 3) 4)⟩, 
  ⟨(some 6), none, .mv (.k (.sc (.int .i64 2)))⟩, 
  ⟨(some 7), none, .mv (.t 12)⟩])
  .ret)
 (.seq (.reg [⟨(some 14), none, .bin .eql false (.t 8) (.k (.sc (.int .i64 2))) (pu (.binOp .eql 3 (.tmp 8) (.const (.int .i64 2)) 3) 4)⟩, 
  ⟨(some 13), none, .mv (.t 14)⟩])
  (.cond (.t 13) (.seq (.reg [⟨(some 15), none, .mv (.t 0)⟩, 
   ⟨(some 16), none, .bin .eql false (.t 15) (.k (.sc (.int .i64 2))) (pu (.binOp .eql 3 (.tmp 15) (.const (.int .i64 2)) 3) 4)⟩, 
   ⟨(some 17), none, .mv (.t 16)⟩, 
   ⟨(some 18), (some ((some 17), false)), .mv (.t 0)⟩, 
   ⟨(some 19), (some ((some 17), false)), .bin .eql false (.t 18) (.k (.sc (.int .i64 1))) (pu (.binOp .eql 3 (.tmp 18) (.const (.int .i64 1)) 3) 4)⟩, 
   ⟨(some 20), (some ((some 17), false)), .mv (.t 19)⟩, 
   ⟨(some 21), (some ((some 20), true)), .mv (.t 2)⟩, 
   ⟨(some 22), (some ((some 17), false)), .pick (.t 20) (.t 21) (.k (.sc (.bool false)))⟩, 
   ⟨(some 23), none, .pick (.t 17) (.k (.sc (.bool true))) (.t 22)⟩, 
   ⟨(some 6), none, .mv (.k (.sc (.int .i64 3)))⟩, 
   ⟨(some 7), none, .mv (.t 23)⟩])
   .ret)
  (.seq (.reg [⟨(some 25), none, .bin .eql false (.t 8) (.k (.sc (.int .i64 3))) (pu (.binOp .eql 3 (.tmp 8) (.const (.int .i64 3)) 3) 4)⟩, 
   ⟨(some 24), none, .mv (.t 25)⟩])
   (.cond (.t 24) (.seq (.reg [⟨(some 26), none, .mv (.t 0)⟩, 
    ⟨(some 27), none, .bin .eql false (.t 26) (.k (.sc (.int .i64 1))) (pu (.binOp .eql 3 (.tmp 26) (.const (.int .i64 1)) 3) 4)⟩, 
    ⟨(some 28), none, .mv (.t 27)⟩, 
    ⟨(some 29), (some ((some 28), false)), .mv (.t 0)⟩, 
    ⟨(some 30), (some ((some 28), false)), .bin .eql false (.t 29) (.k (.sc (.int .i64 2))) (pu (.binOp .eql 3 (.tmp 29) (.const (.int .i64 2)) 3) 4)⟩, 
    ⟨(some 31), none, .pick (.t 28) (.k (.sc (.bool true))) (.t 30)⟩, 
    ⟨(some 32), none, .mv (.t 31)⟩, 
    ⟨(some 33), (some ((some 32), false)), .mv (.t 0)⟩, 
    ⟨(some 34), (some ((some 32), false)), .bin .eql false (.t 33) (.k (.sc (.int .i64 3))) (pu (.binOp .eql 3 (.tmp 33) (.const (.int .i64 3)) 3) 4)⟩, 
    ⟨(some 35), none, .pick (.t 32) (.k (.sc (.bool true))) (.t 34)⟩, 
    ⟨(some 6), none, .mv (.k (.sc (.int .i64 4)))⟩, 
    ⟨(some 7), none, .mv (.t 35)⟩])
    .ret)
   (.seq (.reg [⟨(some 37), none, .bin .eql false (.t 8) (.k (.sc (.int .i64 4))) (pu (.binOp .eql 3 (.tmp 8) (.const (.int .i64 4)) 3) 4)⟩, 
    ⟨(some 36), none, .mv (.t 37)⟩])
    (.cond (.t 36) (.seq (.reg [⟨(some 38), none, .mv (.t 0)⟩, 
     ⟨(some 39), none, .bin .eql false (.t 38) (.k (.sc (.int .i64 2))) (pu (.binOp .eql 3 (.tmp 38) (.const (.int .i64 2)) 3) 4)⟩, 
     ⟨(some 40), none, .mv (.t 39)⟩, 
     ⟨(some 41), (some ((some 40), false)), .mv (.t 0)⟩, 
     ⟨(some 42), (some ((some 40), false)), .bin .eql false (.t 41) (.k (.sc (.int .i64 3))) (pu (.binOp .eql 3 (.tmp 41) (.const (.int .i64 3)) 3) 4)⟩, 
     ⟨(some 43), none, .pick (.t 40) (.k (.sc (.bool true))) (.t 42)⟩, 
     ⟨(some 6), none, .mv (.k (.sc (.int .i64 5)))⟩, 
     ⟨(some 7), none, .mv (.t 43)⟩])
     .ret)
    (.seq (.reg [⟨(some 45), none, .bin .eql false (.t 8) (.k (.sc (.int .i64 5))) (pu (.binOp .eql 3 (.tmp 8) (.const (.int .i64 5)) 3) 4)⟩, 
     ⟨(some 44), none, .mv (.t 45)⟩])
     (.cond (.t 44) (.seq (.reg [⟨(some 46), none, .mv (.t 0)⟩, 
      ⟨(some 47), none, .bin .eql false (.t 46) (.k (.sc (.int .i64 1))) (pu (.binOp .eql 3 (.tmp 46) (.const (.int .i64 1)) 3) 4)⟩, 
      ⟨(some 48), none, .mv (.t 47)⟩, 
      ⟨(some 49), (some ((some 48), false)), .mv (.t 0)⟩, 
      ⟨(some 50), (some ((some 48), false)), .bin .eql false (.t 49) (.k (.sc (.int .i64 2))) (pu (.binOp .eql 3 (.tmp 49) (.const (.int .i64 2)) 3) 4)⟩, 
      ⟨(some 51), none, .pick (.t 48) (.k (.sc (.bool true))) (.t 50)⟩, 
      ⟨(some 52), none, .mv (.t 51)⟩, 
      ⟨(some 53), (some ((some 52), false)), .mv (.t 0)⟩, 
      ⟨(some 54), (some ((some 52), false)), .bin .eql false (.t 53) (.k (.sc (.int .i64 3))) (pu (.binOp .eql 3 (.tmp 53) (.const (.int .i64 3)) 3) 4)⟩, 
      ⟨(some 55), none, .pick (.t 52) (.k (.sc (.bool true))) (.t 54)⟩, 
      ⟨(some 6), none, .mv (.k (.sc (.int .i64 6)))⟩, 
      ⟨(some 7), none, .mv (.t 55)⟩])
      .ret)
     .skip))))))))))))
 (.seq (.reg [⟨(some 6), none, .mv (.k (.sc (.int .i64 0)))⟩, 
 ⟨(some 7), none, .mv (.k (.sc (.bool false)))⟩])
 .ret)))
def k24 : List Nat := [0, 1, 2, 6, 7, 8, 9, 13, 24, 36, 44]
theorem ic24 : factsI Try.prog 24 = some (56, [.tmp 6, .tmp 7], c24) := by kernel_rfl

-- chargenet/chargenetref47.ranges (37 slots)
def c25 : IC :=
 (.seq (.reg [⟨(some 4), none, .bx (.t 0)⟩, 
 ⟨(some 8), none, .mv (.k (.sc (.bool false)))⟩])
 (.seq (.seq (.reg [⟨(some 9), none, .mv (.t 1)⟩, 
 ⟨(some 10), none, .bin .lss false (.t 9) (.k (.sc (.int .i64 1))) (pu (.binOp .lss 3 (.tmp 9) (.const (.int .i64 1)) 3) 4)⟩, 
 ⟨(some 11), none, .mv (.t 10)⟩, 
 ⟨(some 12), (some ((some 11), false)), .mv (.t 1)⟩, 
 ⟨(some 13), (some ((some 11), false)), .bin .gtr false (.t 12) (.k (.sc (.int .i64 5))) (pu (.binOp .gtr 3 (.tmp 12) (.const (.int .i64 5)) 3) 4)⟩, 
 ⟨(some 14), none, .pick (.t 11) (.k (.sc (.bool true))) (.t 13)⟩, 
 ⟨(some 15), none, .mv (.t 14)⟩, 
 ⟨(some 16), (some ((some 15), false)), .mv (.t 3)⟩, 
 ⟨(some 17), (some ((some 15), false)), .sh 3 (.t 4)⟩, 
 ⟨(some 18), (some ((some 15), false)), .ld none (.t 17)⟩, 
 ⟨(some 19), (some ((some 15), false)), .bin .lss false (.t 16) (.t 18) (pu (.binOp .lss 3 (.tmp 16) (.tmp 18) 3) 4)⟩, 
 ⟨(some 20), none, .pick (.t 15) (.k (.sc (.bool true))) (.t 19)⟩, 
 ⟨(some 21), none, .mv (.t 20)⟩, 
 ⟨(some 22), (some ((some 21), false)), .mv (.t 3)⟩, 
 ⟨(some 23), (some ((some 21), false)), .bin .gtr false (.t 22) (.k (.sc (.int .i64 268435456))) (pu (.binOp .gtr 3 (.tmp 22) (.const (.int .i64 268435456)) 3) 4)⟩, 
 ⟨(some 24), none, .pick (.t 21) (.k (.sc (.bool true))) (.t 23)⟩])
 (.cond (.t 24) (.seq (.reg [⟨(some 8), none, .mv (.k (.sc (.bool false)))⟩])
  .ret)
 .skip))
 (.seq (.seq (.reg [⟨(some 25), none, .mv (.t 1)⟩, 
 ⟨(some 26), none, .bin .eql false (.t 25) (.k (.sc (.int .i64 3))) (pu (.binOp .eql 3 (.tmp 25) (.const (.int .i64 3)) 3) 4)⟩])
 (.cond (.t 26) (.seq (.reg [⟨(some 27), none, .mv (.t 2)⟩, 
  ⟨(some 28), none, .bin .geq false (.t 27) (.k (.sc (.int .i64 1))) (pu (.binOp .geq 3 (.tmp 27) (.const (.int .i64 1)) 3) 4)⟩, 
  ⟨(some 29), none, .mv (.t 28)⟩, 
  ⟨(some 30), (some ((some 29), true)), .mv (.t 2)⟩, 
  ⟨(some 31), (some ((some 29), true)), .sh 4 (.t 4)⟩, 
  ⟨(some 32), (some ((some 29), true)), .ld none (.t 31)⟩, 
  ⟨(some 33), (some ((some 29), true)), .bin .leq false (.t 30) (.t 32) (pu (.binOp .leq 3 (.tmp 30) (.tmp 32) 3) 4)⟩, 
  ⟨(some 34), none, .pick (.t 29) (.t 33) (.k (.sc (.bool false)))⟩, 
  ⟨(some 8), none, .mv (.t 34)⟩])
  .ret)
 .skip))
 (.seq (.reg [⟨(some 35), none, .mv (.t 2)⟩, 
 ⟨(some 36), none, .bin .eql false (.t 35) (.k (.sc (.int .i64 0))) (pu (.binOp .eql 3 (.tmp 35) (.const (.int .i64 0)) 3) 4)⟩, 
 ⟨(some 8), none, .mv (.t 36)⟩])
 .ret))))
def k25 : List Nat := [0, 1, 2, 3, 4, 8, 24, 26]
theorem ic25 : factsI Try.prog 25 = some (37, [.tmp 8], c25) := by kernel_rfl

-- chargenet/chargenetref47.possible (35 slots)
def c26 : IC :=
 (.seq (.reg [⟨(some 3), none, .bx (.t 0)⟩, 
 ⟨(some 6), none, .mv (.k (.sc (.bool false)))⟩])
 (.seq (.seq (.reg [⟨(some 7), none, .mv (.t 1)⟩])
 (.block 0 (.seq (.reg [⟨(some 9), none, .bin .eql false (.t 7) (.k (.sc (.int .i64 1))) (pu (.binOp .eql 3 (.tmp 7) (.const (.int .i64 1)) 3) 4)⟩, 
 ⟨(some 8), none, .mv (.t 9)⟩])
 (.cond (.t 8) (.seq (.reg [⟨(some 10), none, .sh 2 (.t 3)⟩, 
  ⟨(some 11), none, .ld none (.t 10)⟩, 
  ⟨(some 12), none, .bin .eql false (.t 11) (.k (.sc (.int .i64 1))) (pu (.binOp .eql 3 (.tmp 11) (.const (.int .i64 1)) 3) 4)⟩, 
  ⟨(some 6), none, .mv (.t 12)⟩])
  .ret)
 (.seq (.reg [⟨(some 14), none, .bin .eql false (.t 7) (.k (.sc (.int .i64 2))) (pu (.binOp .eql 3 (.tmp 7) (.const (.int .i64 2)) 3) 4)⟩, 
  ⟨(some 13), none, .mv (.t 14)⟩])
  (.cond (.t 13) (.seq (.reg [⟨(some 15), none, .sh 2 (.t 3)⟩, 
   ⟨(some 16), none, .ld none (.t 15)⟩, 
   ⟨(some 17), none, .bin .eql false (.t 16) (.k (.sc (.int .i64 2))) (pu (.binOp .eql 3 (.tmp 16) (.const (.int .i64 2)) 3) 4)⟩, 
   ⟨(some 18), none, .mv (.t 17)⟩, 
   ⟨(some 19), (some ((some 18), false)), .sh 2 (.t 3)⟩, 
   ⟨(some 20), (some ((some 18), false)), .ld none (.t 19)⟩, 
   ⟨(some 21), (some ((some 18), false)), .bin .eql false (.t 20) (.k (.sc (.int .i64 1))) (pu (.binOp .eql 3 (.tmp 20) (.const (.int .i64 1)) 3) 4)⟩, 
   ⟨(some 22), (some ((some 18), false)), .mv (.t 21)⟩, 
   ⟨(some 23), (some ((some 22), true)), .mv (.t 2)⟩, 
   ⟨(some 24), (some ((some 22), true)), .sh 3 (.t 3)⟩, 
   ⟨(some 25), (some ((some 22), true)), .ld none (.t 24)⟩, 
   ⟨(some 26), (some ((some 22), true)), .bin .add false (.t 25) (.k (.sc (.int .i64 43200))) (pu (.binOp .add 3 (.tmp 25) (.const (.int .i64 43200)) 3) 3)⟩, 
   ⟨(some 27), (some ((some 22), true)), .bin .geq false (.t 23) (.t 26) (pu (.binOp .geq 3 (.tmp 23) (.tmp 26) 3) 4)⟩, 
   ⟨(some 28), (some ((some 18), false)), .pick (.t 22) (.t 27) (.k (.sc (.bool false)))⟩, 
   ⟨(some 29), none, .pick (.t 18) (.k (.sc (.bool true))) (.t 28)⟩, 
   ⟨(some 6), none, .mv (.t 29)⟩])
   .ret)
  (.seq (.reg [⟨(some 31), none, .bin .eql false (.t 7) (.k (.sc (.int .i64 4))) (pu (.binOp .eql 3 (.tmp 7) (.const (.int .i64 4)) 3) 4)⟩, 
   ⟨(some 30), none, .mv (.t 31)⟩])
   (.cond (.t 30) (.seq (.reg [⟨(some 32), none, .sh 2 (.t 3)⟩, 
    ⟨(some 33), none, .ld none (.t 32)⟩, 
    ⟨(some 34), none, .bin .neq false (.t 33) (.k (.sc (.int .i64 1))) (pu (.binOp .neq 3 (.tmp 33) (.const (.int .i64 1)) 3) 4)⟩, 
    ⟨(some 6), none, .mv (.t 34)⟩])
    .ret)
   .skip))))))))
 (.seq (.reg [⟨(some 6), none, .mv (.k (.sc (.bool true)))⟩])
 .ret)))
def k26 : List Nat := [0, 1, 2, 3, 6, 7, 8, 13, 30]
theorem ic26 : factsI Try.prog 26 = some (35, [.tmp 6], c26) := by kernel_rfl

-- chargenet/chargenetref47.state (12 slots)
def c27 : IC :=
 (.seq (.reg [⟨(some 2), none, .mv (.k (.sc (.int .i64 0)))⟩])
 (.seq (.seq (.reg [⟨(some 3), none, .mv (.t 0)⟩])
 (.block 0 (.seq (.reg [⟨(some 5), none, .bin .eql false (.t 3) (.k (.sc (.int .i64 1))) (pu (.binOp .eql 3 (.tmp 3) (.const (.int .i64 1)) 3) 4)⟩, 
 ⟨(some 4), none, .mv (.t 5)⟩])
 (.cond (.t 4) (.seq (.reg [⟨(some 2), none, .mv (.k (.sc (.int .i64 2)))⟩])
  .ret)
 (.seq (.reg [⟨(some 7), none, .bin .eql false (.t 3) (.k (.sc (.int .i64 2))) (pu (.binOp .eql 3 (.tmp 3) (.const (.int .i64 2)) 3) 4)⟩, 
  ⟨(some 6), none, .mv (.t 7)⟩])
  (.cond (.t 6) (.seq (.reg [⟨(some 2), none, .mv (.k (.sc (.int .i64 3)))⟩])
   .ret)
  (.seq (.reg [⟨(some 9), none, .bin .eql false (.t 3) (.k (.sc (.int .i64 3))) (pu (.binOp .eql 3 (.tmp 3) (.const (.int .i64 3)) 3) 4)⟩, 
   ⟨(some 8), none, .mv (.t 9)⟩])
   (.cond (.t 8) (.seq (.reg [⟨(some 2), none, .mv (.k (.sc (.int .i64 4)))⟩])
    .ret)
   (.seq (.reg [⟨(some 11), none, .bin .eql false (.t 3) (.k (.sc (.int .i64 4))) (pu (.binOp .eql 3 (.tmp 3) (.const (.int .i64 4)) 3) 4)⟩, 
    ⟨(some 10), none, .mv (.t 11)⟩])
    (.cond (.t 10) (.seq (.reg [⟨(some 2), none, .mv (.k (.sc (.int .i64 5)))⟩])
     .ret)
    .skip))))))))))
 (.seq (.reg [⟨(some 2), none, .mv (.k (.sc (.int .i64 6)))⟩])
 .ret)))
def k27 : List Nat := [0, 2, 3, 4, 6, 8, 10]
theorem ic27 : factsI Try.prog 27 = some (12, [.tmp 2], c27) := by kernel_rfl

-- chargenet/ident.value (35 slots)
def c28 : IC :=
 (.seq (.reg [⟨(some 2), none, .mv (.k (.sc (.int .i64 0)))⟩])
 (.seq (.block 0 (.seq (.reg [⟨(some 4), none, .mv (.t 0)⟩, 
 ⟨(some 5), none, .bin .geq false (.t 4) (.k (.sc (.int .i32 48))) (pu (.binOp .geq 21 (.tmp 4) (.const (.int .i32 48)) 21) 4)⟩, 
 ⟨(some 6), none, .mv (.t 5)⟩, 
 ⟨(some 7), (some ((some 6), true)), .mv (.t 0)⟩, 
 ⟨(some 8), (some ((some 6), true)), .bin .leq false (.t 7) (.k (.sc (.int .i32 57))) (pu (.binOp .leq 21 (.tmp 7) (.const (.int .i32 57)) 21) 4)⟩, 
 ⟨(some 9), none, .pick (.t 6) (.t 8) (.k (.sc (.bool false)))⟩, 
 ⟨(some 3), none, .mv (.t 9)⟩])
 (.cond (.t 3) (.seq (.reg [⟨(some 10), none, .mv (.t 0)⟩, 
  ⟨(some 11), none, .bin .sub false (.t 10) (.k (.sc (.int .i32 48))) (pu (.binOp .sub 21 (.tmp 10) (.const (.int .i32 48)) 21) 21)⟩, 
  ⟨(some 12), none, .pur (pu (.convert 21 3 (.tmp 11)) 3)⟩, 
  ⟨(some 2), none, .mv (.t 12)⟩])
  .ret)
 (.seq (.reg [⟨(some 14), none, .mv (.t 0)⟩, 
  ⟨(some 15), none, .bin .geq false (.t 14) (.k (.sc (.int .i32 65))) (pu (.binOp .geq 21 (.tmp 14) (.const (.int .i32 65)) 21) 4)⟩, 
  ⟨(some 16), none, .mv (.t 15)⟩, 
  ⟨(some 17), (some ((some 16), true)), .mv (.t 0)⟩, 
  ⟨(some 18), (some ((some 16), true)), .bin .leq false (.t 17) (.k (.sc (.int .i32 90))) (pu (.binOp .leq 21 (.tmp 17) (.const (.int .i32 90)) 21) 4)⟩, 
  ⟨(some 19), none, .pick (.t 16) (.t 18) (.k (.sc (.bool false)))⟩, 
  ⟨(some 13), none, .mv (.t 19)⟩])
  (.cond (.t 13) (.seq (.reg [⟨(some 20), none, .mv (.t 0)⟩, 
   ⟨(some 21), none, .bin .sub false (.t 20) (.k (.sc (.int .i32 65))) (pu (.binOp .sub 21 (.tmp 20) (.const (.int .i32 65)) 21) 21)⟩, 
   ⟨(some 22), none, .pur (pu (.convert 21 3 (.tmp 21)) 3)⟩, 
   ⟨(some 23), none, .bin .add false (.t 22) (.k (.sc (.int .i64 10))) (pu (.binOp .add 3 (.tmp 22) (.const (.int .i64 10)) 3) 3)⟩, 
   ⟨(some 2), none, .mv (.t 23)⟩])
   .ret)
  (.seq (.reg [⟨(some 25), none, .mv (.t 0)⟩, 
   ⟨(some 26), none, .bin .geq false (.t 25) (.k (.sc (.int .i32 97))) (pu (.binOp .geq 21 (.tmp 25) (.const (.int .i32 97)) 21) 4)⟩, 
   ⟨(some 27), none, .mv (.t 26)⟩, 
   ⟨(some 28), (some ((some 27), true)), .mv (.t 0)⟩, 
   ⟨(some 29), (some ((some 27), true)), .bin .leq false (.t 28) (.k (.sc (.int .i32 122))) (pu (.binOp .leq 21 (.tmp 28) (.const (.int .i32 122)) 21) 4)⟩, 
   ⟨(some 30), none, .pick (.t 27) (.t 29) (.k (.sc (.bool false)))⟩, 
   ⟨(some 24), none, .mv (.t 30)⟩])
   (.cond (.t 24) (.seq (.reg [⟨(some 31), none, .mv (.t 0)⟩, 
    ⟨(some 32), none, .bin .sub false (.t 31) (.k (.sc (.int .i32 97))) (pu (.binOp .sub 21 (.tmp 31) (.const (.int .i32 97)) 21) 21)⟩, 
    ⟨(some 33), none, .pur (pu (.convert 21 3 (.tmp 32)) 3)⟩, 
    ⟨(some 34), none, .bin .add false (.t 33) (.k (.sc (.int .i64 10))) (pu (.binOp .add 3 (.tmp 33) (.const (.int .i64 10)) 3) 3)⟩, 
    ⟨(some 2), none, .mv (.t 34)⟩])
    .ret)
   .skip)))))))
 (.seq (.reg [⟨(some 2), none, .mv (.k (.sc (.int .i64 (-1))))⟩])
 .ret)))
def k28 : List Nat := [0, 2, 3, 13, 24]
theorem ic28 : factsI Try.prog 28 = some (35, [.tmp 2], c28) := by kernel_rfl

-- chargenet/chargenetref01.Value (14 slots)
def c29 : IC :=
 (.seq (.reg [⟨(some 2), none, .mv (.k (.sc (.int .i64 0)))⟩])
 (.seq (.seq (.reg [⟨(some 3), none, .mv (.k (.sc (.int .i64 0)))⟩])
 (.block 0 (.loop (.seq (.seq (.reg [⟨(some 4), none, .mv (.t 3)⟩, 
  ⟨(some 5), none, .bin .lss false (.t 4) (.k (.sc (.int .i64 36))) (pu (.binOp .lss 3 (.tmp 4) (.const (.int .i64 36)) 3) 4)⟩])
  (.cond (.t 5) .skip
  (.exit 0)))
  (.seq (.block 1 (.seq (.drw [0, 1, 0, 4, 15] [⟨(some 8), none, .mv (.t 3)⟩, 
  ⟨(some 9), none, .pur (pu (.index 9 (.const (.string ⟨#[48, 49, 50, 51, 52, 53, 54, 55, 56, 57, 65, 66, 67, 68, 69, 70, 71, 72, 73, 74, 75, 76, 77, 78, 79, 80, 81, 82, 83, 84, 85, 86, 87, 88, 89, 90]⟩)) (.tmp 8)) 5)⟩, 
  ⟨(some 10), none, .mv (.t 0)⟩, 
  ⟨(some 11), none, .call 38 [(.t 10)]⟩, 
  ⟨(some 12), none, .bin .eql false (.t 9) (.t 11) (pu (.binOp .eql 5 (.tmp 9) (.tmp 11) 5) 4)⟩])
  (.cond (.t 12) (.seq (.reg [⟨(some 13), none, .mv (.t 3)⟩, 
   ⟨(some 2), none, .mv (.t 13)⟩])
   .ret)
  .skip)))
  (.reg [⟨(some 6), none, .mv (.t 3)⟩, 
  ⟨(some 7), none, .bin .add false (.t 6) (.k (.sc (.int .i64 1))) (pu (.binOp .add 3 (.tmp 6) (.const (.int .i64 1)) 3) 3)⟩, 
  ⟨(some 3), none, .mv (.t 7)⟩]))))))
 (.seq (.reg [⟨(some 2), none, .mv (.k (.sc (.int .i64 (-1))))⟩])
 .ret)))
def k29 : List Nat := [0, 2, 3, 5, 12]
theorem ic29 : factsI Try.prog 29 = some (14, [.tmp 2], c29) := by kernel_rfl

-- chargenet/cdr.names (15 slots)
def c30 : IC :=
 (.seq (.reg [⟨(some 2), none, .mv (.k (.sc (.int .i64 0)))⟩])
 (.seq (.seq (.reg [⟨(some 5), none, .mv (.t 0)⟩, 
 ⟨(some 6), none, .len (.t 5) (pu (.call ⟨.builtin .len, #[(.tmp 5)], #[61]⟩) 3)⟩, 
 ⟨(some 7), none, .mv (.k (.sc (.int .i64 0)))⟩])
 (.block 0 (.loop (.seq (.reg [⟨(some 8), none, .bin .lss false (.t 7) (.t 6) (pu (.binOp .lss 3 (.tmp 7) (.tmp 6) 3) 0)⟩])
  (.seq (.cond (.t 8) .skip
  (.exit 0))
  (.seq (.block 1 (.seq (.reg [⟨(some 9), none, .ixs 1 (.t 5) (.t 7)⟩, 
  ⟨(some 10), none, .ld none (.t 9)⟩, 
  ⟨(some 4), none, .mv (.t 10)⟩])
  (.seq (.reg [⟨(some 11), none, .mv (.t 4)⟩, 
  ⟨(some 12), none, .call 18 [(.t 11)]⟩, 
  ⟨(some 13), none, .un .not (.t 12) (pu (.unOp .not 4 (.tmp 12)) 4)⟩])
  (.cond (.t 13) (.seq (.reg [⟨(some 2), none, .mv (.k (.sc (.int .i64 4)))⟩])
   .ret)
  .skip))))
  (.reg [⟨(some 14), none, .bin .add false (.t 7) (.k (.sc (.int .i64 1))) (pu (.binOp .add 3 (.tmp 7) (.const (.int .i64 1)) 3) 3)⟩, 
  ⟨(some 7), none, .mv (.t 14)⟩])))))))
 (.seq (.reg [⟨(some 2), none, .mv (.k (.sc (.int .i64 0)))⟩])
 .ret)))
def k30 : List Nat := [0, 2, 4, 5, 6, 7, 8, 13]
theorem ic30 : factsI Try.prog 30 = some (15, [.tmp 2], c30) := by kernel_rfl

-- chargenet/cdr.within (24 slots)
def c31 : IC :=
 (.seq (.reg [⟨(some 6), none, .mv (.k (.sc (.bool false)))⟩])
 (.seq (.seq (.reg [⟨(some 9), none, .mv (.t 2)⟩, 
 ⟨(some 10), none, .len (.t 9) (pu (.call ⟨.builtin .len, #[(.tmp 9)], #[62]⟩) 3)⟩, 
 ⟨(some 11), none, .mv (.k (.sc (.int .i64 0)))⟩])
 (.block 0 (.loop (.seq (.reg [⟨(some 12), none, .bin .lss false (.t 11) (.t 10) (pu (.binOp .lss 3 (.tmp 11) (.tmp 10) 3) 0)⟩])
  (.seq (.cond (.t 12) .skip
  (.exit 0))
  (.seq (.block 1 (.seq (.reg [⟨(some 13), none, .ixs 1 (.t 9) (.t 11)⟩, 
  ⟨(some 14), none, .ld none (.t 13)⟩, 
  ⟨(some 8), none, .mv (.t 14)⟩])
  (.seq (.reg [⟨(some 15), none, .mv (.t 8)⟩, 
  ⟨(some 16), none, .mv (.t 0)⟩, 
  ⟨(some 17), none, .bin .lss false (.t 15) (.t 16) (pu (.binOp .lss 3 (.tmp 15) (.tmp 16) 3) 4)⟩, 
  ⟨(some 18), none, .mv (.t 17)⟩, 
  ⟨(some 19), (some ((some 18), false)), .mv (.t 8)⟩, 
  ⟨(some 20), (some ((some 18), false)), .mv (.t 1)⟩, 
  ⟨(some 21), (some ((some 18), false)), .bin .gtr false (.t 19) (.t 20) (pu (.binOp .gtr 3 (.tmp 19) (.tmp 20) 3) 4)⟩, 
  ⟨(some 22), none, .pick (.t 18) (.k (.sc (.bool true))) (.t 21)⟩])
  (.cond (.t 22) (.seq (.reg [⟨(some 6), none, .mv (.k (.sc (.bool false)))⟩])
   .ret)
  .skip))))
  (.reg [⟨(some 23), none, .bin .add false (.t 11) (.k (.sc (.int .i64 1))) (pu (.binOp .add 3 (.tmp 11) (.const (.int .i64 1)) 3) 3)⟩, 
  ⟨(some 11), none, .mv (.t 23)⟩])))))))
 (.seq (.reg [⟨(some 6), none, .mv (.k (.sc (.bool true)))⟩])
 .ret)))
def k31 : List Nat := [0, 1, 2, 6, 8, 9, 10, 11, 12, 22]
theorem ic31 : factsI Try.prog 31 = some (24, [.tmp 6], c31) := by kernel_rfl

-- chargenet/cdr.isCurrency (23 slots)
def c32 : IC :=
 (.seq (.reg [⟨(some 2), none, .mv (.k (.sc (.bool false)))⟩])
 (.seq (.seq (.reg [⟨(some 4), none, .mv (.t 0)⟩, 
 ⟨(some 5), none, .lens (.t 4) (pu (.call ⟨.builtin .len, #[(.tmp 4)], #[9]⟩) 3)⟩, 
 ⟨(some 6), none, .bin .neq false (.t 5) (.k (.sc (.int .i64 3))) (pu (.binOp .neq 3 (.tmp 5) (.const (.int .i64 3)) 3) 4)⟩])
 (.cond (.t 6) (.seq (.reg [⟨(some 2), none, .mv (.k (.sc (.bool false)))⟩])
  .ret)
 .skip))
 (.seq (.seq (.reg [⟨(some 7), none, .mv (.t 0)⟩, 
 ⟨(some 8), none, .lens (.t 7) (pu (.call ⟨.builtin .len, #[(.tmp 7)], #[9]⟩) 3)⟩, 
 ⟨(some 9), none, .mv (.k (.sc (.int .i64 0)))⟩])
 (.block 0 (.loop (.seq (.reg [⟨(some 10), none, .bin .lss false (.t 9) (.t 8) (pu (.binOp .lss 3 (.tmp 9) (.tmp 8) 3) 4)⟩])
  (.seq (.cond (.t 10) .skip
  (.exit 0))
  (.seq (.block 1 (.seq (.reg [⟨(some 11), none, .mv (.t 9)⟩, 
  ⟨(some 3), none, .mv (.t 11)⟩])
  (.seq (.reg [⟨(some 12), none, .mv (.t 0)⟩, 
  ⟨(some 13), none, .mv (.t 3)⟩, 
  ⟨(some 14), none, .pur (pu (.index 9 (.tmp 12) (.tmp 13)) 5)⟩, 
  ⟨(some 15), none, .bin .lss false (.t 14) (.k (.sc (.int .u8 65))) (pu (.binOp .lss 5 (.tmp 14) (.const (.int .u8 65)) 5) 4)⟩, 
  ⟨(some 16), none, .mv (.t 15)⟩, 
  ⟨(some 17), (some ((some 16), false)), .mv (.t 0)⟩, 
  ⟨(some 18), (some ((some 16), false)), .mv (.t 3)⟩, 
  ⟨(some 19), (some ((some 16), false)), .pur (pu (.index 9 (.tmp 17) (.tmp 18)) 5)⟩, 
  ⟨(some 20), (some ((some 16), false)), .bin .gtr false (.t 19) (.k (.sc (.int .u8 90))) (pu (.binOp .gtr 5 (.tmp 19) (.const (.int .u8 90)) 5) 4)⟩, 
  ⟨(some 21), none, .pick (.t 16) (.k (.sc (.bool true))) (.t 20)⟩])
  (.cond (.t 21) (.seq (.reg [⟨(some 2), none, .mv (.k (.sc (.bool false)))⟩])
   .ret)
  .skip))))
  (.reg [⟨(some 22), none, .bin .add false (.t 9) (.k (.sc (.int .i64 1))) (pu (.binOp .add 3 (.tmp 9) (.const (.int .i64 1)) 3) 3)⟩, 
  ⟨(some 9), none, .mv (.t 22)⟩])))))))
 (.seq (.reg [⟨(some 2), none, .mv (.k (.sc (.bool true)))⟩])
 .ret))))
def k32 : List Nat := [0, 2, 3, 6, 8, 9, 10, 21]
theorem ic32 : factsI Try.prog 32 = some (23, [.tmp 2], c32) := by kernel_rfl

-- chargenet/cdr.validItems (29 slots)
def c33 : IC :=
 (.seq (.reg [⟨(some 1), none, .bx (.t 0)⟩, 
 ⟨(some 2), none, .mv (.k (.sc (.int .i64 0)))⟩])
 (.seq (.seq (.reg [⟨(some 6), none, .sh 10 (.t 1)⟩, 
 ⟨(some 7), none, .ld none (.t 6)⟩, 
 ⟨(some 8), none, .len (.t 7) (pu (.call ⟨.builtin .len, #[(.tmp 7)], #[28]⟩) 3)⟩, 
 ⟨(some 9), none, .bin .gtr false (.t 8) (.k (.sc (.int .i64 32))) (pu (.binOp .gtr 3 (.tmp 8) (.const (.int .i64 32)) 3) 4)⟩])
 (.cond (.t 9) (.seq (.reg [⟨(some 2), none, .mv (.k (.sc (.int .i64 3)))⟩])
  .ret)
 .skip))
 (.seq (.reg [⟨(some 3), none, .mv (.k (.sc (.int .i64 0)))⟩])
 (.seq (.seq (.reg [⟨(some 10), none, .sh 10 (.t 1)⟩, 
 ⟨(some 11), none, .ld none (.t 10)⟩, 
 ⟨(some 12), none, .len (.t 11) (pu (.call ⟨.builtin .len, #[(.tmp 11)], #[28]⟩) 3)⟩, 
 ⟨(some 13), none, .mv (.k (.sc (.int .i64 0)))⟩])
 (.block 0 (.loop (.seq (.reg [⟨(some 14), none, .bin .lss false (.t 13) (.t 12) (pu (.binOp .lss 3 (.tmp 13) (.tmp 12) 3) 0)⟩])
  (.seq (.cond (.t 14) .skip
  (.exit 0))
  (.seq (.block 1 (.seq (.reg [⟨(some 15), none, .ixs 7 (.t 11) (.t 13)⟩, 
  ⟨(some 16), none, .ld (some 7) (.t 15)⟩, 
  ⟨(some 5), none, .al (.agg [(.sc (.int .i64 0)), (.sc (.int .i64 0)), (.sc (.int .i64 0)), (.sc (.int .i64 0)), (.sc (.int .i64 0)), (.sc (.int .i64 0)), (.sc (.int .i64 0))]) 7⟩, 
  ⟨none, none, .st 7 (.t 5) (.t 16)⟩])
  (.seq (.seq (.reg [⟨(some 17), none, .ld (some 7) (.t 5)⟩, 
  ⟨(some 18), none, .call 39 [(.t 17)]⟩, 
  ⟨(some 19), none, .un .not (.t 18) (pu (.unOp .not 4 (.tmp 18)) 4)⟩])
  (.cond (.t 19) (.seq (.reg [⟨(some 2), none, .mv (.k (.sc (.int .i64 1)))⟩])
   .ret)
  .skip))
  (.reg [⟨(some 20), none, .mv (.t 3)⟩, 
  ⟨(some 21), none, .sh 6 (.t 5)⟩, 
  ⟨(some 22), none, .ld none (.t 21)⟩, 
  ⟨(some 23), none, .bin .add false (.t 20) (.t 22) (pu (.binOp .add 3 (.tmp 20) (.tmp 22) 3) 3)⟩, 
  ⟨(some 3), none, .mv (.t 23)⟩]))))
  (.reg [⟨(some 24), none, .bin .add false (.t 13) (.k (.sc (.int .i64 1))) (pu (.binOp .add 3 (.tmp 13) (.const (.int .i64 1)) 3) 3)⟩, 
  ⟨(some 13), none, .mv (.t 24)⟩])))))))
 (.seq (.seq (.reg [⟨(some 25), none, .sh 11 (.t 1)⟩, 
 ⟨(some 26), none, .ld none (.t 25)⟩, 
 ⟨(some 27), none, .mv (.t 3)⟩, 
 ⟨(some 28), none, .bin .neq false (.t 26) (.t 27) (pu (.binOp .neq 3 (.tmp 26) (.tmp 27) 3) 4)⟩])
 (.cond (.t 28) (.seq (.reg [⟨(some 2), none, .mv (.k (.sc (.int .i64 1)))⟩])
  .ret)
 .skip))
 (.seq (.reg [⟨(some 2), none, .mv (.k (.sc (.int .i64 0)))⟩])
 .ret))))))
def k33 : List Nat := [0, 1, 2, 3, 5, 9, 11, 12, 13, 14, 19, 28]
theorem ic33 : factsI Try.prog 33 = some (29, [.tmp 2], c33) := by kernel_rfl

-- chargenet/cdr.validRef (18 slots)
def c34 : IC :=
 (.seq (.reg [⟨(some 1), none, .bx (.t 0)⟩, 
 ⟨(some 2), none, .mv (.k (.sc (.int .i64 0)))⟩])
 (.seq (.seq (.reg [⟨(some 3), none, .sh 12 (.t 1)⟩, 
 ⟨(some 4), none, .ld none (.t 3)⟩, 
 ⟨(some 5), none, .un .not (.t 4) (pu (.unOp .not 4 (.tmp 4)) 4)⟩])
 (.cond (.t 5) (.seq (.seq (.reg [⟨(some 6), none, .sh 13 (.t 1)⟩, 
  ⟨(some 7), none, .ld none (.t 6)⟩, 
  ⟨(some 8), none, .bin .neq false (.t 7) (.k (.sc (.string ⟨#[]⟩))) (pu (.binOp .neq 9 (.tmp 7) (.const (.string ⟨#[]⟩)) 9) 4)⟩])
  (.cond (.t 8) (.seq (.reg [⟨(some 2), none, .mv (.k (.sc (.int .i64 1)))⟩])
   .ret)
  .skip))
  (.seq (.reg [⟨(some 2), none, .mv (.k (.sc (.int .i64 0)))⟩])
  .ret))
 .skip))
 (.seq (.seq (.reg [⟨(some 9), none, .sh 13 (.t 1)⟩, 
 ⟨(some 10), none, .ld none (.t 9)⟩, 
 ⟨(some 11), none, .call 18 [(.t 10)]⟩, 
 ⟨(some 12), none, .un .not (.t 11) (pu (.unOp .not 4 (.tmp 11)) 4)⟩])
 (.cond (.t 12) (.seq (.reg [⟨(some 2), none, .mv (.k (.sc (.int .i64 4)))⟩])
  .ret)
 .skip))
 (.seq (.seq (.reg [⟨(some 13), none, .sh 13 (.t 1)⟩, 
 ⟨(some 14), none, .ld none (.t 13)⟩, 
 ⟨(some 15), none, .sh 0 (.t 1)⟩, 
 ⟨(some 16), none, .ld none (.t 15)⟩, 
 ⟨(some 17), none, .bin .eql false (.t 14) (.t 16) (pu (.binOp .eql 9 (.tmp 14) (.tmp 16) 9) 4)⟩])
 (.cond (.t 17) (.seq (.reg [⟨(some 2), none, .mv (.k (.sc (.int .i64 1)))⟩])
  .ret)
 .skip))
 (.seq (.reg [⟨(some 2), none, .mv (.k (.sc (.int .i64 0)))⟩])
 .ret)))))
def k34 : List Nat := [0, 1, 2, 5, 8, 12, 17]
theorem ic34 : factsI Try.prog 34 = some (18, [.tmp 2], c34) := by kernel_rfl

-- chargenet/chargenetref46.in (15 slots)
def c35 : IC :=
 (.seq (.reg [⟨(some 6), none, .mv (.k (.sc (.bool false)))⟩])
 (.seq (.reg [⟨(some 7), none, .mv (.t 0)⟩, 
 ⟨(some 8), none, .mv (.t 1)⟩, 
 ⟨(some 9), none, .bin .geq false (.t 7) (.t 8) (pu (.binOp .geq 3 (.tmp 7) (.tmp 8) 3) 4)⟩, 
 ⟨(some 10), none, .mv (.t 9)⟩, 
 ⟨(some 11), (some ((some 10), true)), .mv (.t 0)⟩, 
 ⟨(some 12), (some ((some 10), true)), .mv (.t 2)⟩, 
 ⟨(some 13), (some ((some 10), true)), .bin .leq false (.t 11) (.t 12) (pu (.binOp .leq 3 (.tmp 11) (.tmp 12) 3) 4)⟩, 
 ⟨(some 14), none, .pick (.t 10) (.t 13) (.k (.sc (.bool false)))⟩, 
 ⟨(some 6), none, .mv (.t 14)⟩])
 .ret))
def k35 : List Nat := [0, 1, 2, 6]
theorem ic35 : factsI Try.prog 35 = some (15, [.tmp 6], c35) := by kernel_rfl

-- chargenet/chargenetref46.currency (23 slots)
def c36 : IC :=
 (.seq (.reg [⟨(some 2), none, .mv (.k (.sc (.bool false)))⟩])
 (.seq (.seq (.reg [⟨(some 3), none, .mv (.k (.sc (.int .i64 0)))⟩])
 (.block 0 (.loop (.seq (.seq (.reg [⟨(some 4), none, .mv (.t 3)⟩, 
  ⟨(some 5), none, .mv (.t 0)⟩, 
  ⟨(some 6), none, .lens (.t 5) (pu (.call ⟨.builtin .len, #[(.tmp 5)], #[9]⟩) 3)⟩, 
  ⟨(some 7), none, .bin .lss false (.t 4) (.t 6) (pu (.binOp .lss 3 (.tmp 4) (.tmp 6) 3) 4)⟩])
  (.cond (.t 7) .skip
  (.exit 0)))
  (.seq (.block 1 (.seq (.reg [⟨(some 10), none, .mv (.t 0)⟩, 
  ⟨(some 11), none, .mv (.t 3)⟩, 
  ⟨(some 12), none, .pur (pu (.index 9 (.tmp 10) (.tmp 11)) 5)⟩, 
  ⟨(some 13), none, .bin .lss false (.t 12) (.k (.sc (.int .u8 65))) (pu (.binOp .lss 5 (.tmp 12) (.const (.int .u8 65)) 5) 4)⟩, 
  ⟨(some 14), none, .mv (.t 13)⟩, 
  ⟨(some 15), (some ((some 14), false)), .mv (.t 0)⟩, 
  ⟨(some 16), (some ((some 14), false)), .mv (.t 3)⟩, 
  ⟨(some 17), (some ((some 14), false)), .pur (pu (.index 9 (.tmp 15) (.tmp 16)) 5)⟩, 
  ⟨(some 18), (some ((some 14), false)), .bin .gtr false (.t 17) (.k (.sc (.int .u8 90))) (pu (.binOp .gtr 5 (.tmp 17) (.const (.int .u8 90)) 5) 4)⟩, 
  ⟨(some 19), none, .pick (.t 14) (.k (.sc (.bool true))) (.t 18)⟩])
  (.cond (.t 19) (.seq (.reg [⟨(some 2), none, .mv (.k (.sc (.bool false)))⟩])
   .ret)
  .skip)))
  (.reg [⟨(some 8), none, .mv (.t 3)⟩, 
  ⟨(some 9), none, .bin .add false (.t 8) (.k (.sc (.int .i64 1))) (pu (.binOp .add 3 (.tmp 8) (.const (.int .i64 1)) 3) 3)⟩, 
  ⟨(some 3), none, .mv (.t 9)⟩]))))))
 (.seq (.reg [⟨(some 20), none, .mv (.t 0)⟩, 
 ⟨(some 21), none, .lens (.t 20) (pu (.call ⟨.builtin .len, #[(.tmp 20)], #[9]⟩) 3)⟩, 
 ⟨(some 22), none, .bin .eql false (.t 21) (.k (.sc (.int .i64 3))) (pu (.binOp .eql 3 (.tmp 21) (.const (.int .i64 3)) 3) 4)⟩, 
 ⟨(some 2), none, .mv (.t 22)⟩])
 .ret)))
def k36 : List Nat := [0, 2, 3, 7, 19]
theorem ic36 : factsI Try.prog 36 = some (23, [.tmp 2], c36) := by kernel_rfl

-- chargenet/chargenetref46.item (41 slots)
def c37 : IC :=
 (.seq (.reg [⟨(some 1), none, .bx (.t 0)⟩, 
 ⟨(some 2), none, .mv (.k (.sc (.bool false)))⟩])
 (.seq (.reg [⟨(some 3), none, .sh 0 (.t 1)⟩, 
 ⟨(some 4), none, .ld none (.t 3)⟩, 
 ⟨(some 5), none, .call 35 [(.t 4), (.k (.sc (.int .i64 1))), (.k (.sc (.int .i64 4)))]⟩, 
 ⟨(some 6), none, .mv (.t 5)⟩, 
 ⟨(some 7), (some ((some 6), true)), .sh 2 (.t 1)⟩, 
 ⟨(some 8), (some ((some 6), true)), .ld none (.t 7)⟩, 
 ⟨(some 9), (some ((some 6), true)), .call 35 [(.t 8), (.k (.sc (.int .i64 0))), (.k (.sc (.int .i64 10000)))]⟩, 
 ⟨(some 10), none, .pick (.t 6) (.t 9) (.k (.sc (.bool false)))⟩, 
 ⟨(some 11), none, .mv (.t 10)⟩, 
 ⟨(some 12), (some ((some 11), true)), .sh 4 (.t 1)⟩, 
 ⟨(some 13), (some ((some 11), true)), .ld none (.t 12)⟩, 
 ⟨(some 14), (some ((some 11), true)), .call 35 [(.t 13), (.k (.sc (.int .i64 (-36028797018963968)))), (.k (.sc (.int .i64 36028797018963968)))]⟩, 
 ⟨(some 15), none, .pick (.t 11) (.t 14) (.k (.sc (.bool false)))⟩, 
 ⟨(some 16), none, .mv (.t 15)⟩, 
 ⟨(some 17), (some ((some 16), true)), .sh 5 (.t 1)⟩, 
 ⟨(some 18), (some ((some 16), true)), .ld none (.t 17)⟩, 
 ⟨(some 19), (some ((some 16), true)), .call 35 [(.t 18), (.k (.sc (.int .i64 (-36028797018963968)))), (.k (.sc (.int .i64 36028797018963968)))]⟩, 
 ⟨(some 20), none, .pick (.t 16) (.t 19) (.k (.sc (.bool false)))⟩, 
 ⟨(some 21), none, .mv (.t 20)⟩, 
 ⟨(some 22), (some ((some 21), true)), .sh 1 (.t 1)⟩, 
 ⟨(some 23), (some ((some 21), true)), .ld none (.t 22)⟩, 
 ⟨(some 24), (some ((some 21), true)), .call 35 [(.t 23), (.k (.sc (.int .i64 (-36028797018963968)))), (.k (.sc (.int .i64 36028797018963968)))]⟩, 
 ⟨(some 25), none, .pick (.t 21) (.t 24) (.k (.sc (.bool false)))⟩, 
 ⟨(some 26), none, .mv (.t 25)⟩, 
 ⟨(some 27), (some ((some 26), true)), .sh 3 (.t 1)⟩, 
 ⟨(some 28), (some ((some 26), true)), .ld none (.t 27)⟩, 
 ⟨(some 29), (some ((some 26), true)), .call 35 [(.t 28), (.k (.sc (.int .i64 0))), (.k (.sc (.int .i64 36028797018963968)))]⟩, 
 ⟨(some 30), none, .pick (.t 26) (.t 29) (.k (.sc (.bool false)))⟩, 
 ⟨(some 31), none, .mv (.t 30)⟩, 
 ⟨(some 32), (some ((some 31), true)), .sh 6 (.t 1)⟩, 
 ⟨(some 33), (some ((some 31), true)), .ld none (.t 32)⟩, 
 ⟨(some 34), (some ((some 31), true)), .sh 4 (.t 1)⟩, 
 ⟨(some 35), (some ((some 31), true)), .ld none (.t 34)⟩, 
 ⟨(some 36), (some ((some 31), true)), .sh 5 (.t 1)⟩, 
 ⟨(some 37), (some ((some 31), true)), .ld none (.t 36)⟩, 
 ⟨(some 38), (some ((some 31), true)), .bin .add false (.t 35) (.t 37) (pu (.binOp .add 3 (.tmp 35) (.tmp 37) 3) 3)⟩, 
 ⟨(some 39), (some ((some 31), true)), .bin .eql false (.t 33) (.t 38) (pu (.binOp .eql 3 (.tmp 33) (.tmp 38) 3) 4)⟩, 
 ⟨(some 40), none, .pick (.t 31) (.t 39) (.k (.sc (.bool false)))⟩, 
 ⟨(some 2), none, .mv (.t 40)⟩])
 .ret))
def k37 : List Nat := [0, 1, 2]
theorem ic37 : factsI Try.prog 37 = some (41, [.tmp 2], c37) := by kernel_rfl

-- chargenet/chargenetref01.Capital (12 slots)
def c38 : IC :=
 (.seq (.reg [⟨(some 2), none, .mv (.k (.sc (.int .u8 0)))⟩])
 (.seq (.seq (.reg [⟨(some 3), none, .mv (.t 0)⟩, 
 ⟨(some 4), none, .bin .geq false (.t 3) (.k (.sc (.int .u8 97))) (pu (.binOp .geq 5 (.tmp 3) (.const (.int .u8 97)) 5) 4)⟩, 
 ⟨(some 5), none, .mv (.t 4)⟩, 
 ⟨(some 6), (some ((some 5), true)), .mv (.t 0)⟩, 
 ⟨(some 7), (some ((some 5), true)), .bin .leq false (.t 6) (.k (.sc (.int .u8 122))) (pu (.binOp .leq 5 (.tmp 6) (.const (.int .u8 122)) 5) 4)⟩, 
 ⟨(some 8), none, .pick (.t 5) (.t 7) (.k (.sc (.bool false)))⟩])
 (.cond (.t 8) (.seq (.reg [⟨(some 9), none, .mv (.t 0)⟩, 
  ⟨(some 10), none, .bin .sub false (.t 9) (.k (.sc (.int .u8 32))) (pu (.binOp .sub 5 (.tmp 9) (.const (.int .u8 32)) 5) 5)⟩, 
  ⟨(some 2), none, .mv (.t 10)⟩])
  .ret)
 .skip))
 (.seq (.reg [⟨(some 11), none, .mv (.t 0)⟩, 
 ⟨(some 2), none, .mv (.t 11)⟩])
 .ret)))
def k38 : List Nat := [0, 2, 8]
theorem ic38 : factsI Try.prog 38 = some (12, [.tmp 2], c38) := by kernel_rfl

-- chargenet/cdr.validItem (39 slots)
def c39 : IC :=
 (.seq (.reg [⟨(some 1), none, .bx (.t 0)⟩, 
 ⟨(some 2), none, .mv (.k (.sc (.bool false)))⟩])
 (.seq (.reg [⟨(some 3), none, .sh 0 (.t 1)⟩, 
 ⟨(some 4), none, .ld none (.t 3)⟩, 
 ⟨(some 5), none, .bsl 1 1 false [(.sc (.int .i64 0))] [(0, 1, (.t 4))]⟩, 
 ⟨(some 6), none, .call 31 [(.k (.sc (.int .i64 1))), (.k (.sc (.int .i64 4))), (.t 5)]⟩, 
 ⟨(some 7), none, .mv (.t 6)⟩, 
 ⟨(some 8), (some ((some 7), true)), .sh 2 (.t 1)⟩, 
 ⟨(some 9), (some ((some 7), true)), .ld none (.t 8)⟩, 
 ⟨(some 10), (some ((some 7), true)), .bsl 1 1 false [(.sc (.int .i64 0))] [(0, 1, (.t 9))]⟩, 
 ⟨(some 11), (some ((some 7), true)), .call 31 [(.k (.sc (.int .i64 0))), (.k (.sc (.int .i64 10000))), (.t 10)]⟩, 
 ⟨(some 12), none, .pick (.t 7) (.t 11) (.k (.sc (.bool false)))⟩, 
 ⟨(some 13), none, .mv (.t 12)⟩, 
 ⟨(some 14), (some ((some 13), true)), .sh 4 (.t 1)⟩, 
 ⟨(some 15), (some ((some 13), true)), .ld none (.t 14)⟩, 
 ⟨(some 16), (some ((some 13), true)), .sh 5 (.t 1)⟩, 
 ⟨(some 17), (some ((some 13), true)), .ld none (.t 16)⟩, 
 ⟨(some 18), (some ((some 13), true)), .sh 1 (.t 1)⟩, 
 ⟨(some 19), (some ((some 13), true)), .ld none (.t 18)⟩, 
 ⟨(some 20), (some ((some 13), true)), .bsl 1 3 false [(.sc (.int .i64 0)), (.sc (.int .i64 0)), (.sc (.int .i64 0))] [(0, 1, (.t 15)), (1, 1, (.t 17)), (2, 1, (.t 19))]⟩, 
 ⟨(some 21), (some ((some 13), true)), .call 31 [(.k (.sc (.int .i64 (-36028797018963968)))), (.k (.sc (.int .i64 36028797018963968))), (.t 20)]⟩, 
 ⟨(some 22), none, .pick (.t 13) (.t 21) (.k (.sc (.bool false)))⟩, 
 ⟨(some 23), none, .mv (.t 22)⟩, 
 ⟨(some 24), (some ((some 23), true)), .sh 3 (.t 1)⟩, 
 ⟨(some 25), (some ((some 23), true)), .ld none (.t 24)⟩, 
 ⟨(some 26), (some ((some 23), true)), .bsl 1 1 false [(.sc (.int .i64 0))] [(0, 1, (.t 25))]⟩, 
 ⟨(some 27), (some ((some 23), true)), .call 31 [(.k (.sc (.int .i64 0))), (.k (.sc (.int .i64 36028797018963968))), (.t 26)]⟩, 
 ⟨(some 28), none, .pick (.t 23) (.t 27) (.k (.sc (.bool false)))⟩, 
 ⟨(some 29), none, .mv (.t 28)⟩, 
 ⟨(some 30), (some ((some 29), true)), .sh 6 (.t 1)⟩, 
 ⟨(some 31), (some ((some 29), true)), .ld none (.t 30)⟩, 
 ⟨(some 32), (some ((some 29), true)), .sh 4 (.t 1)⟩, 
 ⟨(some 33), (some ((some 29), true)), .ld none (.t 32)⟩, 
 ⟨(some 34), (some ((some 29), true)), .sh 5 (.t 1)⟩, 
 ⟨(some 35), (some ((some 29), true)), .ld none (.t 34)⟩, 
 ⟨(some 36), (some ((some 29), true)), .bin .add false (.t 33) (.t 35) (pu (.binOp .add 3 (.tmp 33) (.tmp 35) 3) 3)⟩, 
 ⟨(some 37), (some ((some 29), true)), .bin .eql false (.t 31) (.t 36) (pu (.binOp .eql 3 (.tmp 31) (.tmp 36) 3) 4)⟩, 
 ⟨(some 38), none, .pick (.t 29) (.t 37) (.k (.sc (.bool false)))⟩, 
 ⟨(some 2), none, .mv (.t 38)⟩])
 .ret))
def k39 : List Nat := [0, 1, 2]
theorem ic39 : factsI Try.prog 39 = some (39, [.tmp 2], c39) := by kernel_rfl

end Go.Proofs.Ytkgjifofpejanaa
