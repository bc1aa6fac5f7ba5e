import Derived.Test.YtlkejejgaenjcaaRows
import Derived.Test.YtlkejejgaenjcaaIdlM4
namespace Go.Proofs.Ytlkejejgaenjcaa
open Go.Idl
-- chargenet/chargenetlaw22.ListValid (16 slots)
def c3 : IC :=
 (.seq (.reg [⟨(some 1), none, .bx (.t 0)⟩, 
 ⟨(some 2), none, .mv (.k (.sc (.bool false)))⟩])
 (.seq (.seq (.reg [⟨(some 3), none, .sh 1 (.t 1)⟩, 
 ⟨(some 4), none, .ld none (.t 3)⟩, 
 ⟨(some 5), none, .call 10 [(.t 4)]⟩, 
 ⟨(some 6), none, .un .not (.t 5) (pu (.unOp .not 4 (.tmp 5)) 4)⟩])
 (.cond (.t 6) (.seq (.reg [⟨(some 7), none, .call 11 []⟩, 
  ⟨(some 2), none, .mv (.t 7)⟩])
  .ret)
 .skip))
 (.seq (.drw [0, 1, 0, 7, 15, 31, 63, 127, 255] [⟨(some 8), none, .ld (some 2) (.t 1)⟩, 
 ⟨(some 9), none, .call 12 [(.t 8)]⟩, 
 ⟨(some 10), none, .ld (some 2) (.t 1)⟩, 
 ⟨(some 11), none, .call 13 [(.t 10)]⟩, 
 ⟨(some 12), none, .bin .eql false (.t 9) (.t 11) (pu (.binOp .eql 27 (.tmp 9) (.tmp 11) 27) 4)⟩, 
 ⟨(some 13), none, .mv (.t 12)⟩, 
 ⟨(some 14), (some ((some 13), true)), .call 11 []⟩, 
 ⟨(some 15), none, .pick (.t 13) (.t 14) (.k (.sc (.bool false)))⟩, 
 ⟨(some 2), none, .mv (.t 15)⟩])
 .ret)))
def k3 : List Nat := [0, 1, 2, 6]
theorem ic3 : factsI Try.prog 3 = some (16, [.tmp 2], c3) := by kernel_rfl

-- chargenet/chargenetlaw22.ListFull (46 slots)
def c4 : IC :=
 (.seq (.reg [⟨(some 3), none, .bx (.t 0)⟩, 
 ⟨(some 6), none, .mv (.k (.sc (.bool false)))⟩])
 (.seq (.seq (.reg [⟨(some 11), none, .sh 1 (.t 3)⟩, 
 ⟨(some 12), none, .ld none (.t 11)⟩, 
 ⟨(some 13), none, .call 10 [(.t 12)]⟩, 
 ⟨(some 14), none, .un .not (.t 13) (pu (.unOp .not 4 (.tmp 13)) 4)⟩, 
 ⟨(some 15), none, .mv (.t 14)⟩, 
 ⟨(some 16), (some ((some 15), false)), .mv (.t 2)⟩, 
 ⟨(some 17), (some ((some 15), false)), .call 10 [(.t 16)]⟩, 
 ⟨(some 18), (some ((some 15), false)), .un .not (.t 17) (pu (.unOp .not 4 (.tmp 17)) 4)⟩, 
 ⟨(some 19), none, .pick (.t 15) (.k (.sc (.bool true))) (.t 18)⟩])
 (.cond (.t 19) (.seq (.reg [⟨(some 20), none, .call 11 []⟩, 
  ⟨(some 6), none, .mv (.t 20)⟩])
  .ret)
 .skip))
 (.seq (.reg [⟨(some 22), none, .ld (some 2) (.t 3)⟩, 
 ⟨(some 23), none, .mv (.t 1)⟩, 
 ⟨(some 24), none, .mv (.t 2)⟩, 
 ⟨(some 25), none, .call 14 [(.t 22), (.t 23), (.t 24)]⟩, 
 ⟨(some 21), none, .mv (.t 25)⟩, 
 ⟨(some 26), none, .ext (.t 21) 0⟩, 
 ⟨(some 27), none, .ext (.t 21) 1⟩, 
 ⟨(some 7), none, .al (.agg [(.sc (.int .i64 0)), (.sc (.slice none 0 0))]) 2⟩, 
 ⟨none, none, .st 2 (.t 7) (.t 26)⟩, 
 ⟨(some 8), none, .mv (.t 27)⟩])
 (.seq (.reg [⟨(some 29), none, .ld (some 2) (.t 3)⟩, 
 ⟨(some 30), none, .mv (.t 1)⟩, 
 ⟨(some 31), none, .mv (.t 2)⟩, 
 ⟨(some 32), none, .call 15 [(.t 29), (.t 30), (.t 31)]⟩, 
 ⟨(some 28), none, .mv (.t 32)⟩, 
 ⟨(some 33), none, .ext (.t 28) 0⟩, 
 ⟨(some 34), none, .ext (.t 28) 1⟩, 
 ⟨(some 9), none, .al (.agg [(.sc (.int .i64 0)), (.sc (.slice none 0 0))]) 2⟩, 
 ⟨none, none, .st 2 (.t 9) (.t 33)⟩, 
 ⟨(some 10), none, .mv (.t 34)⟩])
 (.seq (.reg [⟨(some 35), none, .mv (.t 8)⟩, 
 ⟨(some 36), none, .mv (.t 10)⟩, 
 ⟨(some 37), none, .bin .eql false (.t 35) (.t 36) (pu (.binOp .eql 27 (.tmp 35) (.tmp 36) 27) 4)⟩, 
 ⟨(some 38), none, .mv (.t 37)⟩, 
 ⟨(some 39), (some ((some 38), true)), .ld (some 2) (.t 7)⟩, 
 ⟨(some 40), (some ((some 38), true)), .ld (some 2) (.t 9)⟩, 
 ⟨(some 41), (some ((some 38), true)), .call 16 [(.t 39), (.t 40)]⟩, 
 ⟨(some 42), none, .pick (.t 38) (.t 41) (.k (.sc (.bool false)))⟩, 
 ⟨(some 43), none, .mv (.t 42)⟩, 
 ⟨(some 44), (some ((some 43), true)), .call 11 []⟩, 
 ⟨(some 45), none, .pick (.t 43) (.t 44) (.k (.sc (.bool false)))⟩, 
 ⟨(some 6), none, .mv (.t 45)⟩])
 .ret)))))
def k4 : List Nat := [0, 1, 2, 3, 6, 7, 8, 9, 10, 19]
theorem ic4 : factsI Try.prog 4 = some (46, [.tmp 6], c4) := by kernel_rfl

-- chargenet/chargenetlaw22.ListChange (52 slots)
def c5 : IC :=
 (.seq (.reg [⟨(some 3), none, .bx (.t 0)⟩, 
 ⟨(some 4), none, .bx (.t 1)⟩, 
 ⟨(some 6), none, .mv (.k (.sc (.bool false)))⟩])
 (.seq (.seq (.reg [⟨(some 11), none, .sh 1 (.t 3)⟩, 
 ⟨(some 12), none, .ld none (.t 11)⟩, 
 ⟨(some 13), none, .call 10 [(.t 12)]⟩, 
 ⟨(some 14), none, .un .not (.t 13) (pu (.unOp .not 4 (.tmp 13)) 4)⟩, 
 ⟨(some 15), none, .mv (.t 14)⟩, 
 ⟨(some 16), (some ((some 15), false)), .mv (.t 2)⟩, 
 ⟨(some 17), (some ((some 15), false)), .call 10 [(.t 16)]⟩, 
 ⟨(some 18), (some ((some 15), false)), .un .not (.t 17) (pu (.unOp .not 4 (.tmp 17)) 4)⟩, 
 ⟨(some 19), none, .pick (.t 15) (.k (.sc (.bool true))) (.t 18)⟩])
 (.cond (.t 19) (.seq (.reg [⟨(some 20), none, .call 11 []⟩, 
  ⟨(some 6), none, .mv (.t 20)⟩])
  .ret)
 .skip))
 (.seq (.reg [⟨(some 22), none, .ld (some 2) (.t 3)⟩, 
 ⟨(some 23), none, .sh 0 (.t 4)⟩, 
 ⟨(some 24), none, .ld none (.t 23)⟩, 
 ⟨(some 25), none, .sh 1 (.t 4)⟩, 
 ⟨(some 26), none, .ld none (.t 25)⟩, 
 ⟨(some 27), none, .mv (.t 2)⟩, 
 ⟨(some 28), none, .call 17 [(.t 22), (.t 24), (.t 26), (.t 27)]⟩, 
 ⟨(some 21), none, .mv (.t 28)⟩, 
 ⟨(some 29), none, .ext (.t 21) 0⟩, 
 ⟨(some 30), none, .ext (.t 21) 1⟩, 
 ⟨(some 7), none, .al (.agg [(.sc (.int .i64 0)), (.sc (.slice none 0 0))]) 2⟩, 
 ⟨none, none, .st 2 (.t 7) (.t 29)⟩, 
 ⟨(some 8), none, .mv (.t 30)⟩])
 (.seq (.reg [⟨(some 32), none, .ld (some 2) (.t 3)⟩, 
 ⟨(some 33), none, .sh 0 (.t 4)⟩, 
 ⟨(some 34), none, .ld none (.t 33)⟩, 
 ⟨(some 35), none, .sh 1 (.t 4)⟩, 
 ⟨(some 36), none, .ld none (.t 35)⟩, 
 ⟨(some 37), none, .mv (.t 2)⟩, 
 ⟨(some 38), none, .call 18 [(.t 32), (.t 34), (.t 36), (.t 37)]⟩, 
 ⟨(some 31), none, .mv (.t 38)⟩, 
 ⟨(some 39), none, .ext (.t 31) 0⟩, 
 ⟨(some 40), none, .ext (.t 31) 1⟩, 
 ⟨(some 9), none, .al (.agg [(.sc (.int .i64 0)), (.sc (.slice none 0 0))]) 2⟩, 
 ⟨none, none, .st 2 (.t 9) (.t 39)⟩, 
 ⟨(some 10), none, .mv (.t 40)⟩])
 (.seq (.reg [⟨(some 41), none, .mv (.t 8)⟩, 
 ⟨(some 42), none, .mv (.t 10)⟩, 
 ⟨(some 43), none, .bin .eql false (.t 41) (.t 42) (pu (.binOp .eql 27 (.tmp 41) (.tmp 42) 27) 4)⟩, 
 ⟨(some 44), none, .mv (.t 43)⟩, 
 ⟨(some 45), (some ((some 44), true)), .ld (some 2) (.t 7)⟩, 
 ⟨(some 46), (some ((some 44), true)), .ld (some 2) (.t 9)⟩, 
 ⟨(some 47), (some ((some 44), true)), .call 16 [(.t 45), (.t 46)]⟩, 
 ⟨(some 48), none, .pick (.t 44) (.t 47) (.k (.sc (.bool false)))⟩, 
 ⟨(some 49), none, .mv (.t 48)⟩, 
 ⟨(some 50), (some ((some 49), true)), .call 11 []⟩, 
 ⟨(some 51), none, .pick (.t 49) (.t 50) (.k (.sc (.bool false)))⟩, 
 ⟨(some 6), none, .mv (.t 51)⟩])
 .ret)))))
def k5 : List Nat := [0, 1, 2, 3, 4, 6, 7, 8, 9, 10, 19]
theorem ic5 : factsI Try.prog 5 = some (52, [.tmp 6], c5) := by kernel_rfl

-- chargenet/chargenetlaw22.ListDiff (43 slots)
def c6 : IC :=
 (.seq (.reg [⟨(some 2), none, .bx (.t 0)⟩, 
 ⟨(some 3), none, .bx (.t 1)⟩, 
 ⟨(some 4), none, .mv (.k (.sc (.bool false)))⟩])
 (.seq (.seq (.reg [⟨(some 9), none, .sh 1 (.t 2)⟩, 
 ⟨(some 10), none, .ld none (.t 9)⟩, 
 ⟨(some 11), none, .call 10 [(.t 10)]⟩, 
 ⟨(some 12), none, .un .not (.t 11) (pu (.unOp .not 4 (.tmp 11)) 4)⟩, 
 ⟨(some 13), none, .mv (.t 12)⟩, 
 ⟨(some 14), (some ((some 13), false)), .sh 1 (.t 3)⟩, 
 ⟨(some 15), (some ((some 13), false)), .ld none (.t 14)⟩, 
 ⟨(some 16), (some ((some 13), false)), .call 10 [(.t 15)]⟩, 
 ⟨(some 17), (some ((some 13), false)), .un .not (.t 16) (pu (.unOp .not 4 (.tmp 16)) 4)⟩, 
 ⟨(some 18), none, .pick (.t 13) (.k (.sc (.bool true))) (.t 17)⟩])
 (.cond (.t 18) (.seq (.reg [⟨(some 19), none, .call 11 []⟩, 
  ⟨(some 4), none, .mv (.t 19)⟩])
  .ret)
 .skip))
 (.seq (.reg [⟨(some 21), none, .ld (some 2) (.t 2)⟩, 
 ⟨(some 22), none, .ld (some 2) (.t 3)⟩, 
 ⟨(some 23), none, .call 19 [(.t 21), (.t 22)]⟩, 
 ⟨(some 20), none, .mv (.t 23)⟩, 
 ⟨(some 24), none, .ext (.t 20) 0⟩, 
 ⟨(some 25), none, .ext (.t 20) 1⟩, 
 ⟨(some 5), none, .mv (.t 24)⟩, 
 ⟨(some 6), none, .mv (.t 25)⟩])
 (.seq (.reg [⟨(some 27), none, .ld (some 2) (.t 2)⟩, 
 ⟨(some 28), none, .ld (some 2) (.t 3)⟩, 
 ⟨(some 29), none, .call 20 [(.t 27), (.t 28)]⟩, 
 ⟨(some 26), none, .mv (.t 29)⟩, 
 ⟨(some 30), none, .ext (.t 26) 0⟩, 
 ⟨(some 31), none, .ext (.t 26) 1⟩, 
 ⟨(some 7), none, .mv (.t 30)⟩, 
 ⟨(some 8), none, .mv (.t 31)⟩])
 (.seq (.reg [⟨(some 32), none, .mv (.t 6)⟩, 
 ⟨(some 33), none, .mv (.t 8)⟩, 
 ⟨(some 34), none, .bin .eql false (.t 32) (.t 33) (pu (.binOp .eql 27 (.tmp 32) (.tmp 33) 27) 4)⟩, 
 ⟨(some 35), none, .mv (.t 34)⟩, 
 ⟨(some 36), (some ((some 35), true)), .mv (.t 5)⟩, 
 ⟨(some 37), (some ((some 35), true)), .mv (.t 7)⟩, 
 ⟨(some 38), (some ((some 35), true)), .call 21 [(.t 36), (.t 37)]⟩, 
 ⟨(some 39), none, .pick (.t 35) (.t 38) (.k (.sc (.bool false)))⟩, 
 ⟨(some 40), none, .mv (.t 39)⟩, 
 ⟨(some 41), (some ((some 40), true)), .call 11 []⟩, 
 ⟨(some 42), none, .pick (.t 40) (.t 41) (.k (.sc (.bool false)))⟩, 
 ⟨(some 4), none, .mv (.t 42)⟩])
 .ret)))))
def k6 : List Nat := [0, 1, 2, 3, 4, 5, 6, 7, 8, 18]
theorem ic6 : factsI Try.prog 6 = some (43, [.tmp 4], c6) := by kernel_rfl

-- chargenet/chargenetlaw22.ListBack (54 slots)
def c7 : IC :=
 (.seq (.reg [⟨(some 2), none, .bx (.t 0)⟩, 
 ⟨(some 3), none, .bx (.t 1)⟩, 
 ⟨(some 4), none, .mv (.k (.sc (.bool false)))⟩])
 (.seq (.seq (.reg [⟨(some 9), none, .sh 1 (.t 2)⟩, 
 ⟨(some 10), none, .ld none (.t 9)⟩, 
 ⟨(some 11), none, .call 10 [(.t 10)]⟩, 
 ⟨(some 12), none, .un .not (.t 11) (pu (.unOp .not 4 (.tmp 11)) 4)⟩, 
 ⟨(some 13), none, .mv (.t 12)⟩, 
 ⟨(some 14), (some ((some 13), false)), .sh 1 (.t 3)⟩, 
 ⟨(some 15), (some ((some 13), false)), .ld none (.t 14)⟩, 
 ⟨(some 16), (some ((some 13), false)), .call 10 [(.t 15)]⟩, 
 ⟨(some 17), (some ((some 13), false)), .un .not (.t 16) (pu (.unOp .not 4 (.tmp 16)) 4)⟩, 
 ⟨(some 18), none, .pick (.t 13) (.k (.sc (.bool true))) (.t 17)⟩])
 (.cond (.t 18) (.seq (.reg [⟨(some 19), none, .call 11 []⟩, 
  ⟨(some 4), none, .mv (.t 19)⟩])
  .ret)
 .skip))
 (.seq (.reg [⟨(some 21), none, .ld (some 2) (.t 2)⟩, 
 ⟨(some 22), none, .ld (some 2) (.t 3)⟩, 
 ⟨(some 23), none, .call 19 [(.t 21), (.t 22)]⟩, 
 ⟨(some 20), none, .mv (.t 23)⟩, 
 ⟨(some 24), none, .ext (.t 20) 0⟩, 
 ⟨(some 25), none, .ext (.t 20) 1⟩, 
 ⟨(some 5), none, .mv (.t 24)⟩, 
 ⟨(some 6), none, .mv (.t 25)⟩])
 (.seq (.seq (.reg [⟨(some 26), none, .mv (.t 6)⟩, 
 ⟨(some 27), none, .bin .neq false (.t 26) (.k (.sc (.int .i64 0))) (pu (.binOp .neq 27 (.tmp 26) (.const (.int .i64 0)) 27) 4)⟩, 
 ⟨(some 28), none, .mv (.t 27)⟩, 
 ⟨(some 29), (some ((some 28), false)), .mv (.t 5)⟩, 
 ⟨(some 30), (some ((some 28), false)), .len (.t 29) (pu (.call ⟨.builtin .len, #[(.tmp 29)], #[22]⟩) 3)⟩, 
 ⟨(some 31), (some ((some 28), false)), .bin .gtr false (.t 30) (.k (.sc (.int .i64 128))) (pu (.binOp .gtr 3 (.tmp 30) (.const (.int .i64 128)) 3) 4)⟩, 
 ⟨(some 32), none, .pick (.t 28) (.k (.sc (.bool true))) (.t 31)⟩])
 (.cond (.t 32) (.seq (.reg [⟨(some 33), none, .call 11 []⟩, 
  ⟨(some 4), none, .mv (.t 33)⟩])
  .ret)
 .skip))
 (.seq (.reg [⟨(some 35), none, .ld (some 2) (.t 2)⟩, 
 ⟨(some 36), none, .sh 0 (.t 2)⟩, 
 ⟨(some 37), none, .ld none (.t 36)⟩, 
 ⟨(some 38), none, .sh 0 (.t 3)⟩, 
 ⟨(some 39), none, .ld none (.t 38)⟩, 
 ⟨(some 40), none, .mv (.t 5)⟩, 
 ⟨(some 41), none, .call 17 [(.t 35), (.t 37), (.t 39), (.t 40)]⟩, 
 ⟨(some 34), none, .mv (.t 41)⟩, 
 ⟨(some 42), none, .ext (.t 34) 0⟩, 
 ⟨(some 43), none, .ext (.t 34) 1⟩, 
 ⟨(some 7), none, .al (.agg [(.sc (.int .i64 0)), (.sc (.slice none 0 0))]) 2⟩, 
 ⟨none, none, .st 2 (.t 7) (.t 42)⟩, 
 ⟨(some 8), none, .mv (.t 43)⟩])
 (.seq (.reg [⟨(some 44), none, .mv (.t 8)⟩, 
 ⟨(some 45), none, .bin .eql false (.t 44) (.k (.sc (.int .i64 0))) (pu (.binOp .eql 27 (.tmp 44) (.const (.int .i64 0)) 27) 4)⟩, 
 ⟨(some 46), none, .mv (.t 45)⟩, 
 ⟨(some 47), (some ((some 46), true)), .ld (some 2) (.t 7)⟩, 
 ⟨(some 48), (some ((some 46), true)), .ld (some 2) (.t 3)⟩, 
 ⟨(some 49), (some ((some 46), true)), .call 16 [(.t 47), (.t 48)]⟩, 
 ⟨(some 50), none, .pick (.t 46) (.t 49) (.k (.sc (.bool false)))⟩, 
 ⟨(some 51), none, .mv (.t 50)⟩, 
 ⟨(some 52), (some ((some 51), true)), .call 11 []⟩, 
 ⟨(some 53), none, .pick (.t 51) (.t 52) (.k (.sc (.bool false)))⟩, 
 ⟨(some 4), none, .mv (.t 53)⟩])
 .ret))))))
def k7 : List Nat := [0, 1, 2, 3, 4, 5, 6, 7, 8, 18, 32]
theorem ic7 : factsI Try.prog 7 = some (54, [.tmp 4], c7) := by kernel_rfl

-- chargenet/chargenetlaw22.ListTurns (144 slots)
def c8 : IC :=
 (.seq (.reg [⟨(some 3), none, .bx (.t 0)⟩, 
 ⟨(some 6), none, .mv (.k (.sc (.bool false)))⟩])
 (.seq (.seq (.reg [⟨(some 16), none, .sh 1 (.t 3)⟩, 
 ⟨(some 17), none, .ld none (.t 16)⟩, 
 ⟨(some 18), none, .call 10 [(.t 17)]⟩, 
 ⟨(some 19), none, .un .not (.t 18) (pu (.unOp .not 4 (.tmp 18)) 4)⟩, 
 ⟨(some 20), none, .mv (.t 19)⟩, 
 ⟨(some 21), (some ((some 20), false)), .mv (.t 1)⟩, 
 ⟨(some 22), (some ((some 20), false)), .call 10 [(.t 21)]⟩, 
 ⟨(some 23), (some ((some 20), false)), .un .not (.t 22) (pu (.unOp .not 4 (.tmp 22)) 4)⟩, 
 ⟨(some 24), none, .pick (.t 20) (.k (.sc (.bool true))) (.t 23)⟩, 
 ⟨(some 25), none, .mv (.t 24)⟩, 
 ⟨(some 26), (some ((some 25), false)), .mv (.t 2)⟩, 
 ⟨(some 27), (some ((some 25), false)), .bin .lss false (.t 26) (.k (.sc (.int .i64 0))) (pu (.binOp .lss 3 (.tmp 26) (.const (.int .i64 0)) 3) 4)⟩, 
 ⟨(some 28), none, .pick (.t 25) (.k (.sc (.bool true))) (.t 27)⟩, 
 ⟨(some 29), none, .mv (.t 28)⟩, 
 ⟨(some 30), (some ((some 29), false)), .mv (.t 2)⟩, 
 ⟨(some 31), (some ((some 29), false)), .mv (.t 1)⟩, 
 ⟨(some 32), (some ((some 29), false)), .len (.t 31) (pu (.call ⟨.builtin .len, #[(.tmp 31)], #[22]⟩) 3)⟩, 
 ⟨(some 33), (some ((some 29), false)), .bin .gtr false (.t 30) (.t 32) (pu (.binOp .gtr 3 (.tmp 30) (.tmp 32) 3) 4)⟩, 
 ⟨(some 34), none, .pick (.t 29) (.k (.sc (.bool true))) (.t 33)⟩, 
 ⟨(some 35), none, .mv (.t 34)⟩, 
 ⟨(some 36), (some ((some 35), false)), .sh 0 (.t 3)⟩, 
 ⟨(some 37), (some ((some 35), false)), .ld none (.t 36)⟩, 
 ⟨(some 38), (some ((some 35), false)), .bin .lss false (.t 37) (.k (.sc (.int .i64 0))) (pu (.binOp .lss 3 (.tmp 37) (.const (.int .i64 0)) 3) 4)⟩, 
 ⟨(some 39), none, .pick (.t 35) (.k (.sc (.bool true))) (.t 38)⟩, 
 ⟨(some 40), none, .mv (.t 39)⟩, 
 ⟨(some 41), (some ((some 40), false)), .sh 0 (.t 3)⟩, 
 ⟨(some 42), (some ((some 40), false)), .ld none (.t 41)⟩, 
 ⟨(some 43), (some ((some 40), false)), .bin .gtr false (.t 42) (.k (.sc (.int .i64 2147483648))) (pu (.binOp .gtr 3 (.tmp 42) (.const (.int .i64 2147483648)) 3) 4)⟩, 
 ⟨(some 44), none, .pick (.t 40) (.k (.sc (.bool true))) (.t 43)⟩])
 (.cond (.t 44) (.seq (.reg [⟨(some 45), none, .call 11 []⟩, 
  ⟨(some 6), none, .mv (.t 45)⟩])
  .ret)
 .skip))
 (.seq (.drw [0, 0, 0, 6, 15, 0, 0, 96, 255, 511] [⟨(some 46), none, .bsl 6 0 true [] []⟩, 
 ⟨(some 47), none, .mv (.t 1)⟩, 
 ⟨(some 48), none, .mv (.t 2)⟩, 
 ⟨(some 49), none, .sl 6 (.t 47) (some (.t 48)) none none (pu (.slice 22 (.tmp 47) (some (.tmp 48)) none none) 22)⟩, 
 ⟨(some 50), none, .app 6 72 (.t 46) (.t 49)⟩, 
 ⟨(some 51), none, .mv (.t 1)⟩, 
 ⟨(some 52), none, .mv (.t 2)⟩, 
 ⟨(some 53), none, .sl 6 (.t 51) none (some (.t 52)) none (pu (.slice 22 (.tmp 51) none (some (.tmp 52)) none) 22)⟩, 
 ⟨(some 54), none, .app 6 72 (.t 50) (.t 53)⟩, 
 ⟨(some 7), none, .mv (.t 54)⟩])
 (.seq (.reg [⟨(some 56), none, .ld (some 2) (.t 3)⟩, 
 ⟨(some 57), none, .sh 0 (.t 3)⟩, 
 ⟨(some 58), none, .ld none (.t 57)⟩, 
 ⟨(some 59), none, .bin .add false (.t 58) (.k (.sc (.int .i64 1))) (pu (.binOp .add 3 (.tmp 58) (.const (.int .i64 1)) 3) 3)⟩, 
 ⟨(some 60), none, .mv (.t 1)⟩, 
 ⟨(some 61), none, .call 14 [(.t 56), (.t 59), (.t 60)]⟩, 
 ⟨(some 55), none, .mv (.t 61)⟩, 
 ⟨(some 62), none, .ext (.t 55) 0⟩, 
 ⟨(some 63), none, .ext (.t 55) 1⟩, 
 ⟨(some 8), none, .al (.agg [(.sc (.int .i64 0)), (.sc (.slice none 0 0))]) 2⟩, 
 ⟨none, none, .st 2 (.t 8) (.t 62)⟩, 
 ⟨(some 9), none, .mv (.t 63)⟩])
 (.seq (.reg [⟨(some 65), none, .ld (some 2) (.t 3)⟩, 
 ⟨(some 66), none, .sh 0 (.t 3)⟩, 
 ⟨(some 67), none, .ld none (.t 66)⟩, 
 ⟨(some 68), none, .bin .add false (.t 67) (.k (.sc (.int .i64 1))) (pu (.binOp .add 3 (.tmp 67) (.const (.int .i64 1)) 3) 3)⟩, 
 ⟨(some 69), none, .mv (.t 7)⟩, 
 ⟨(some 70), none, .call 14 [(.t 65), (.t 68), (.t 69)]⟩, 
 ⟨(some 64), none, .mv (.t 70)⟩, 
 ⟨(some 71), none, .ext (.t 64) 0⟩, 
 ⟨(some 72), none, .ext (.t 64) 1⟩, 
 ⟨(some 10), none, .al (.agg [(.sc (.int .i64 0)), (.sc (.slice none 0 0))]) 2⟩, 
 ⟨none, none, .st 2 (.t 10) (.t 71)⟩, 
 ⟨(some 11), none, .mv (.t 72)⟩])
 (.seq (.reg [⟨(some 74), none, .ld (some 2) (.t 3)⟩, 
 ⟨(some 75), none, .sh 0 (.t 3)⟩, 
 ⟨(some 76), none, .ld none (.t 75)⟩, 
 ⟨(some 77), none, .sh 0 (.t 3)⟩, 
 ⟨(some 78), none, .ld none (.t 77)⟩, 
 ⟨(some 79), none, .bin .add false (.t 78) (.k (.sc (.int .i64 1))) (pu (.binOp .add 3 (.tmp 78) (.const (.int .i64 1)) 3) 3)⟩, 
 ⟨(some 80), none, .mv (.t 1)⟩, 
 ⟨(some 81), none, .call 17 [(.t 74), (.t 76), (.t 79), (.t 80)]⟩, 
 ⟨(some 73), none, .mv (.t 81)⟩, 
 ⟨(some 82), none, .ext (.t 73) 0⟩, 
 ⟨(some 83), none, .ext (.t 73) 1⟩, 
 ⟨(some 12), none, .al (.agg [(.sc (.int .i64 0)), (.sc (.slice none 0 0))]) 2⟩, 
 ⟨none, none, .st 2 (.t 12) (.t 82)⟩, 
 ⟨(some 13), none, .mv (.t 83)⟩])
 (.seq (.reg [⟨(some 85), none, .ld (some 2) (.t 3)⟩, 
 ⟨(some 86), none, .sh 0 (.t 3)⟩, 
 ⟨(some 87), none, .ld none (.t 86)⟩, 
 ⟨(some 88), none, .sh 0 (.t 3)⟩, 
 ⟨(some 89), none, .ld none (.t 88)⟩, 
 ⟨(some 90), none, .bin .add false (.t 89) (.k (.sc (.int .i64 1))) (pu (.binOp .add 3 (.tmp 89) (.const (.int .i64 1)) 3) 3)⟩, 
 ⟨(some 91), none, .mv (.t 7)⟩, 
 ⟨(some 92), none, .call 17 [(.t 85), (.t 87), (.t 90), (.t 91)]⟩, 
 ⟨(some 84), none, .mv (.t 92)⟩, 
 ⟨(some 93), none, .ext (.t 84) 0⟩, 
 ⟨(some 94), none, .ext (.t 84) 1⟩, 
 ⟨(some 14), none, .al (.agg [(.sc (.int .i64 0)), (.sc (.slice none 0 0))]) 2⟩, 
 ⟨none, none, .st 2 (.t 14) (.t 93)⟩, 
 ⟨(some 15), none, .mv (.t 94)⟩])
 (.seq (.seq (.reg [⟨(some 95), none, .mv (.t 9)⟩, 
 ⟨(some 96), none, .bin .eql false (.t 95) (.k (.sc (.int .i64 0))) (pu (.binOp .eql 27 (.tmp 95) (.const (.int .i64 0)) 27) 4)⟩, 
 ⟨(some 97), none, .mv (.t 11)⟩, 
 ⟨(some 98), none, .bin .eql false (.t 97) (.k (.sc (.int .i64 0))) (pu (.binOp .eql 27 (.tmp 97) (.const (.int .i64 0)) 27) 4)⟩, 
 ⟨(some 99), none, .bin .neq true (.t 96) (.t 98) (pu (.binOp .neq 4 (.tmp 96) (.tmp 98) 4) 4)⟩, 
 ⟨(some 100), none, .mv (.t 99)⟩, 
 ⟨(some 101), (some ((some 100), false)), .mv (.t 13)⟩, 
 ⟨(some 102), (some ((some 100), false)), .bin .eql false (.t 101) (.k (.sc (.int .i64 0))) (pu (.binOp .eql 27 (.tmp 101) (.const (.int .i64 0)) 27) 4)⟩, 
 ⟨(some 103), (some ((some 100), false)), .mv (.t 15)⟩, 
 ⟨(some 104), (some ((some 100), false)), .bin .eql false (.t 103) (.k (.sc (.int .i64 0))) (pu (.binOp .eql 27 (.tmp 103) (.const (.int .i64 0)) 27) 4)⟩, 
 ⟨(some 105), (some ((some 100), false)), .bin .neq true (.t 102) (.t 104) (pu (.binOp .neq 4 (.tmp 102) (.tmp 104) 4) 4)⟩, 
 ⟨(some 106), none, .pick (.t 100) (.k (.sc (.bool true))) (.t 105)⟩])
 (.cond (.t 106) (.seq (.reg [⟨(some 6), none, .mv (.k (.sc (.bool false)))⟩])
  .ret)
 .skip))
 (.seq (.seq (.reg [⟨(some 107), none, .mv (.t 9)⟩, 
 ⟨(some 108), none, .bin .eql false (.t 107) (.k (.sc (.int .i64 0))) (pu (.binOp .eql 27 (.tmp 107) (.const (.int .i64 0)) 27) 4)⟩, 
 ⟨(some 109), none, .mv (.t 108)⟩, 
 ⟨(some 110), (some ((some 109), true)), .ld (some 2) (.t 8)⟩, 
 ⟨(some 111), (some ((some 109), true)), .ld (some 2) (.t 10)⟩, 
 ⟨(some 112), (some ((some 109), true)), .call 16 [(.t 110), (.t 111)]⟩, 
 ⟨(some 113), (some ((some 109), true)), .un .not (.t 112) (pu (.unOp .not 4 (.tmp 112)) 4)⟩, 
 ⟨(some 114), (some ((some 109), true)), .mv (.t 113)⟩, 
 ⟨(some 115), (some ((some 114), false)), .ld (some 2) (.t 8)⟩, 
 ⟨(some 116), (some ((some 114), false)), .call 12 [(.t 115)]⟩, 
 ⟨(some 117), (some ((some 114), false)), .bin .neq false (.t 116) (.k (.sc (.int .i64 0))) (pu (.binOp .neq 27 (.tmp 116) (.const (.int .i64 0)) 27) 4)⟩, 
 ⟨(some 118), (some ((some 109), true)), .pick (.t 114) (.k (.sc (.bool true))) (.t 117)⟩, 
 ⟨(some 119), (some ((some 109), true)), .mv (.t 118)⟩, 
 ⟨(some 120), (some ((some 119), false)), .sh 1 (.t 8)⟩, 
 ⟨(some 121), (some ((some 119), false)), .ld none (.t 120)⟩, 
 ⟨(some 122), (some ((some 119), false)), .len (.t 121) (pu (.call ⟨.builtin .len, #[(.tmp 121)], #[22]⟩) 3)⟩, 
 ⟨(some 123), (some ((some 119), false)), .mv (.t 1)⟩, 
 ⟨(some 124), (some ((some 119), false)), .len (.t 123) (pu (.call ⟨.builtin .len, #[(.tmp 123)], #[22]⟩) 3)⟩, 
 ⟨(some 125), (some ((some 119), false)), .bin .neq false (.t 122) (.t 124) (pu (.binOp .neq 3 (.tmp 122) (.tmp 124) 3) 4)⟩, 
 ⟨(some 126), (some ((some 109), true)), .pick (.t 119) (.k (.sc (.bool true))) (.t 125)⟩, 
 ⟨(some 127), none, .pick (.t 109) (.t 126) (.k (.sc (.bool false)))⟩, 
 ⟨(some 128), none, .mv (.t 127)⟩, 
 ⟨(some 129), (some ((some 128), false)), .mv (.t 13)⟩, 
 ⟨(some 130), (some ((some 128), false)), .bin .eql false (.t 129) (.k (.sc (.int .i64 0))) (pu (.binOp .eql 27 (.tmp 129) (.const (.int .i64 0)) 27) 4)⟩, 
 ⟨(some 131), (some ((some 128), false)), .mv (.t 130)⟩, 
 ⟨(some 132), (some ((some 131), true)), .ld (some 2) (.t 12)⟩, 
 ⟨(some 133), (some ((some 131), true)), .ld (some 2) (.t 14)⟩, 
 ⟨(some 134), (some ((some 131), true)), .call 16 [(.t 132), (.t 133)]⟩, 
 ⟨(some 135), (some ((some 131), true)), .un .not (.t 134) (pu (.unOp .not 4 (.tmp 134)) 4)⟩, 
 ⟨(some 136), (some ((some 131), true)), .mv (.t 135)⟩, 
 ⟨(some 137), (some ((some 136), false)), .ld (some 2) (.t 12)⟩, 
 ⟨(some 138), (some ((some 136), false)), .call 12 [(.t 137)]⟩, 
 ⟨(some 139), (some ((some 136), false)), .bin .neq false (.t 138) (.k (.sc (.int .i64 0))) (pu (.binOp .neq 27 (.tmp 138) (.const (.int .i64 0)) 27) 4)⟩, 
 ⟨(some 140), (some ((some 131), true)), .pick (.t 136) (.k (.sc (.bool true))) (.t 139)⟩, 
 ⟨(some 141), (some ((some 128), false)), .pick (.t 131) (.t 140) (.k (.sc (.bool false)))⟩, 
 ⟨(some 142), none, .pick (.t 128) (.k (.sc (.bool true))) (.t 141)⟩])
 (.cond (.t 142) (.seq (.reg [⟨(some 6), none, .mv (.k (.sc (.bool false)))⟩])
  .ret)
 .skip))
 (.seq (.reg [⟨(some 143), none, .call 11 []⟩, 
 ⟨(some 6), none, .mv (.t 143)⟩])
 .ret))))))))))
def k8 : List Nat := [0, 1, 2, 3, 6, 7, 8, 9, 10, 11, 12, 13, 14, 15, 44, 106, 142]
theorem ic8 : factsI Try.prog 8 = some (144, [.tmp 6], c8) := by kernel_rfl

-- chargenet/chargenetlaw22.ListKeeps (106 slots)
def c9 : IC :=
 (.seq (.reg [⟨(some 2), none, .bx (.t 0)⟩, 
 ⟨(some 4), none, .mv (.k (.sc (.bool false)))⟩])
 (.seq (.seq (.reg [⟨(some 13), none, .sh 1 (.t 2)⟩, 
 ⟨(some 14), none, .ld none (.t 13)⟩, 
 ⟨(some 15), none, .call 10 [(.t 14)]⟩, 
 ⟨(some 16), none, .un .not (.t 15) (pu (.unOp .not 4 (.tmp 15)) 4)⟩, 
 ⟨(some 17), none, .mv (.t 16)⟩, 
 ⟨(some 18), (some ((some 17), false)), .mv (.t 1)⟩, 
 ⟨(some 19), (some ((some 17), false)), .call 10 [(.t 18)]⟩, 
 ⟨(some 20), (some ((some 17), false)), .un .not (.t 19) (pu (.unOp .not 4 (.tmp 19)) 4)⟩, 
 ⟨(some 21), none, .pick (.t 17) (.k (.sc (.bool true))) (.t 20)⟩, 
 ⟨(some 22), none, .mv (.t 21)⟩, 
 ⟨(some 23), (some ((some 22), false)), .sh 0 (.t 2)⟩, 
 ⟨(some 24), (some ((some 22), false)), .ld none (.t 23)⟩, 
 ⟨(some 25), (some ((some 22), false)), .bin .lss false (.t 24) (.k (.sc (.int .i64 0))) (pu (.binOp .lss 3 (.tmp 24) (.const (.int .i64 0)) 3) 4)⟩, 
 ⟨(some 26), none, .pick (.t 22) (.k (.sc (.bool true))) (.t 25)⟩, 
 ⟨(some 27), none, .mv (.t 26)⟩, 
 ⟨(some 28), (some ((some 27), false)), .sh 0 (.t 2)⟩, 
 ⟨(some 29), (some ((some 27), false)), .ld none (.t 28)⟩, 
 ⟨(some 30), (some ((some 27), false)), .bin .gtr false (.t 29) (.k (.sc (.int .i64 2147483648))) (pu (.binOp .gtr 3 (.tmp 29) (.const (.int .i64 2147483648)) 3) 4)⟩, 
 ⟨(some 31), none, .pick (.t 27) (.k (.sc (.bool true))) (.t 30)⟩])
 (.cond (.t 31) (.seq (.reg [⟨(some 32), none, .call 11 []⟩, 
  ⟨(some 4), none, .mv (.t 32)⟩])
  .ret)
 .skip))
 (.seq (.reg [⟨(some 34), none, .ld (some 2) (.t 2)⟩, 
 ⟨(some 35), none, .sh 0 (.t 2)⟩, 
 ⟨(some 36), none, .ld none (.t 35)⟩, 
 ⟨(some 37), none, .sh 0 (.t 2)⟩, 
 ⟨(some 38), none, .ld none (.t 37)⟩, 
 ⟨(some 39), none, .bin .add false (.t 38) (.k (.sc (.int .i64 1))) (pu (.binOp .add 3 (.tmp 38) (.const (.int .i64 1)) 3) 3)⟩, 
 ⟨(some 40), none, .mv (.t 1)⟩, 
 ⟨(some 41), none, .call 17 [(.t 34), (.t 36), (.t 39), (.t 40)]⟩, 
 ⟨(some 33), none, .mv (.t 41)⟩, 
 ⟨(some 42), none, .ext (.t 33) 0⟩, 
 ⟨(some 43), none, .ext (.t 33) 1⟩, 
 ⟨(some 5), none, .al (.agg [(.sc (.int .i64 0)), (.sc (.slice none 0 0))]) 2⟩, 
 ⟨none, none, .st 2 (.t 5) (.t 42)⟩, 
 ⟨(some 6), none, .mv (.t 43)⟩])
 (.seq (.seq (.reg [⟨(some 44), none, .mv (.t 6)⟩, 
 ⟨(some 45), none, .bin .neq false (.t 44) (.k (.sc (.int .i64 0))) (pu (.binOp .neq 27 (.tmp 44) (.const (.int .i64 0)) 27) 4)⟩])
 (.cond (.t 45) (.seq (.reg [⟨(some 46), none, .ld (some 2) (.t 5)⟩, 
  ⟨(some 47), none, .ld (some 2) (.t 2)⟩, 
  ⟨(some 48), none, .call 16 [(.t 46), (.t 47)]⟩, 
  ⟨(some 49), none, .mv (.t 48)⟩, 
  ⟨(some 50), (some ((some 49), true)), .call 11 []⟩, 
  ⟨(some 51), none, .pick (.t 49) (.t 50) (.k (.sc (.bool false)))⟩, 
  ⟨(some 4), none, .mv (.t 51)⟩])
  .ret)
 .skip))
 (.seq (.seq (.reg [⟨(some 52), none, .sh 1 (.t 2)⟩, 
 ⟨(some 53), none, .ld none (.t 52)⟩, 
 ⟨(some 54), none, .len (.t 53) (pu (.call ⟨.builtin .len, #[(.tmp 53)], #[22]⟩) 3)⟩, 
 ⟨(some 55), none, .mv (.k (.sc (.int .i64 0)))⟩])
 (.block 0 (.loop (.seq (.reg [⟨(some 56), none, .bin .lss false (.t 55) (.t 54) (pu (.binOp .lss 3 (.tmp 55) (.tmp 54) 3) 0)⟩])
  (.seq (.cond (.t 56) .skip
  (.exit 0))
  (.seq (.block 1 (.seq (.reg [⟨(some 57), none, .ixs 6 (.t 53) (.t 55)⟩, 
  ⟨(some 58), none, .ld (some 6) (.t 57)⟩, 
  ⟨(some 8), none, .al (.agg [(.sc (.string ⟨#[]⟩)), (.sc (.string ⟨#[]⟩)), (.sc (.string ⟨#[]⟩)), (.sc (.int .i64 0)), (.sc (.int .i64 0)), (.sc (.int .i64 0))]) 6⟩, 
  ⟨none, none, .st 6 (.t 8) (.t 58)⟩])
  (.seq (.reg [⟨(some 59), none, .mv (.t 1)⟩, 
  ⟨(some 60), none, .ld (some 6) (.t 8)⟩, 
  ⟨(some 61), none, .call 22 [(.t 59), (.t 60)]⟩, 
  ⟨(some 62), none, .un .not (.t 61) (pu (.unOp .not 4 (.tmp 61)) 4)⟩, 
  ⟨(some 63), none, .mv (.t 62)⟩, 
  ⟨(some 64), (some ((some 63), true)), .sh 1 (.t 5)⟩, 
  ⟨(some 65), (some ((some 63), true)), .ld none (.t 64)⟩, 
  ⟨(some 66), (some ((some 63), true)), .ld (some 6) (.t 8)⟩, 
  ⟨(some 67), (some ((some 63), true)), .call 23 [(.t 65), (.t 66)]⟩, 
  ⟨(some 68), (some ((some 63), true)), .un .not (.t 67) (pu (.unOp .not 4 (.tmp 67)) 4)⟩, 
  ⟨(some 69), none, .pick (.t 63) (.t 68) (.k (.sc (.bool false)))⟩])
  (.cond (.t 69) (.seq (.reg [⟨(some 4), none, .mv (.k (.sc (.bool false)))⟩])
   .ret)
  .skip))))
  (.reg [⟨(some 70), none, .bin .add false (.t 55) (.k (.sc (.int .i64 1))) (pu (.binOp .add 3 (.tmp 55) (.const (.int .i64 1)) 3) 3)⟩, 
  ⟨(some 55), none, .mv (.t 70)⟩])))))))
 (.seq (.seq (.reg [⟨(some 71), none, .mv (.t 1)⟩, 
 ⟨(some 72), none, .len (.t 71) (pu (.call ⟨.builtin .len, #[(.tmp 71)], #[22]⟩) 3)⟩, 
 ⟨(some 73), none, .mv (.k (.sc (.int .i64 0)))⟩])
 (.block 2 (.loop (.seq (.reg [⟨(some 74), none, .bin .lss false (.t 73) (.t 72) (pu (.binOp .lss 3 (.tmp 73) (.tmp 72) 3) 0)⟩])
  (.seq (.cond (.t 74) .skip
  (.exit 2))
  (.seq (.block 3 (.seq (.reg [⟨(some 75), none, .ixs 6 (.t 71) (.t 73)⟩, 
  ⟨(some 76), none, .ld (some 6) (.t 75)⟩, 
  ⟨(some 10), none, .al (.agg [(.sc (.string ⟨#[]⟩)), (.sc (.string ⟨#[]⟩)), (.sc (.string ⟨#[]⟩)), (.sc (.int .i64 0)), (.sc (.int .i64 0)), (.sc (.int .i64 0))]) 6⟩, 
  ⟨none, none, .st 6 (.t 10) (.t 76)⟩])
  (.seq (.drw [0, 1, 0, 7, 0, 16, 48, 127] [⟨(some 77), none, .sh 1 (.t 5)⟩, 
  ⟨(some 78), none, .ld none (.t 77)⟩, 
  ⟨(some 79), none, .ld (some 6) (.t 10)⟩, 
  ⟨(some 80), none, .call 23 [(.t 78), (.t 79)]⟩, 
  ⟨(some 81), none, .sh 4 (.t 10)⟩, 
  ⟨(some 82), none, .ld none (.t 81)⟩, 
  ⟨(some 83), none, .bin .neq false (.t 82) (.k (.sc (.int .i64 0))) (pu (.binOp .neq 3 (.tmp 82) (.const (.int .i64 0)) 3) 4)⟩, 
  ⟨(some 84), none, .bin .neq true (.t 80) (.t 83) (pu (.binOp .neq 4 (.tmp 80) (.tmp 83) 4) 4)⟩])
  (.cond (.t 84) (.seq (.reg [⟨(some 4), none, .mv (.k (.sc (.bool false)))⟩])
   .ret)
  .skip))))
  (.reg [⟨(some 85), none, .bin .add false (.t 73) (.k (.sc (.int .i64 1))) (pu (.binOp .add 3 (.tmp 73) (.const (.int .i64 1)) 3) 3)⟩, 
  ⟨(some 73), none, .mv (.t 85)⟩])))))))
 (.seq (.seq (.reg [⟨(some 86), none, .sh 1 (.t 5)⟩, 
 ⟨(some 87), none, .ld none (.t 86)⟩, 
 ⟨(some 88), none, .len (.t 87) (pu (.call ⟨.builtin .len, #[(.tmp 87)], #[22]⟩) 3)⟩, 
 ⟨(some 89), none, .mv (.k (.sc (.int .i64 0)))⟩])
 (.block 4 (.loop (.seq (.reg [⟨(some 90), none, .bin .lss false (.t 89) (.t 88) (pu (.binOp .lss 3 (.tmp 89) (.tmp 88) 3) 0)⟩])
  (.seq (.cond (.t 90) .skip
  (.exit 4))
  (.seq (.block 5 (.seq (.reg [⟨(some 91), none, .ixs 6 (.t 87) (.t 89)⟩, 
  ⟨(some 92), none, .ld (some 6) (.t 91)⟩, 
  ⟨(some 12), none, .al (.agg [(.sc (.string ⟨#[]⟩)), (.sc (.string ⟨#[]⟩)), (.sc (.string ⟨#[]⟩)), (.sc (.int .i64 0)), (.sc (.int .i64 0)), (.sc (.int .i64 0))]) 6⟩, 
  ⟨none, none, .st 6 (.t 12) (.t 92)⟩])
  (.seq (.reg [⟨(some 93), none, .sh 1 (.t 2)⟩, 
  ⟨(some 94), none, .ld none (.t 93)⟩, 
  ⟨(some 95), none, .ld (some 6) (.t 12)⟩, 
  ⟨(some 96), none, .call 23 [(.t 94), (.t 95)]⟩, 
  ⟨(some 97), none, .un .not (.t 96) (pu (.unOp .not 4 (.tmp 96)) 4)⟩, 
  ⟨(some 98), none, .mv (.t 97)⟩, 
  ⟨(some 99), (some ((some 98), true)), .mv (.t 1)⟩, 
  ⟨(some 100), (some ((some 98), true)), .ld (some 6) (.t 12)⟩, 
  ⟨(some 101), (some ((some 98), true)), .call 23 [(.t 99), (.t 100)]⟩, 
  ⟨(some 102), (some ((some 98), true)), .un .not (.t 101) (pu (.unOp .not 4 (.tmp 101)) 4)⟩, 
  ⟨(some 103), none, .pick (.t 98) (.t 102) (.k (.sc (.bool false)))⟩])
  (.cond (.t 103) (.seq (.reg [⟨(some 4), none, .mv (.k (.sc (.bool false)))⟩])
   .ret)
  .skip))))
  (.reg [⟨(some 104), none, .bin .add false (.t 89) (.k (.sc (.int .i64 1))) (pu (.binOp .add 3 (.tmp 89) (.const (.int .i64 1)) 3) 3)⟩, 
  ⟨(some 89), none, .mv (.t 104)⟩])))))))
 (.seq (.reg [⟨(some 105), none, .call 11 []⟩, 
 ⟨(some 4), none, .mv (.t 105)⟩])
 .ret))))))))
def k9 : List Nat := [0, 1, 2, 4, 5, 6, 8, 10, 12, 31, 45, 53, 54, 55, 56, 69, 71, 72, 73, 74, 84, 87, 88, 89, 90, 103]
theorem ic9 : factsI Try.prog 9 = some (106, [.tmp 4], c9) := by kernel_rfl

-- chargenet/chargenetlaw22.small (6 slots)
def c10 : IC :=
 (.seq (.reg [⟨(some 2), none, .mv (.k (.sc (.bool false)))⟩])
 (.seq (.reg [⟨(some 3), none, .mv (.t 0)⟩, 
 ⟨(some 4), none, .len (.t 3) (pu (.call ⟨.builtin .len, #[(.tmp 3)], #[22]⟩) 3)⟩, 
 ⟨(some 5), none, .bin .leq false (.t 4) (.k (.sc (.int .i64 140))) (pu (.binOp .leq 3 (.tmp 4) (.const (.int .i64 140)) 3) 4)⟩, 
 ⟨(some 2), none, .mv (.t 5)⟩])
 .ret))
def k10 : List Nat := [0, 2]
theorem ic10 : factsI Try.prog 10 = some (6, [.tmp 2], c10) := by kernel_rfl

-- chargenet/chargenetlaw22.exampleHolds (135 slots)
def c11 : IC :=
 (.seq (.reg [⟨(some 0), none, .mv (.k (.sc (.bool false)))⟩])
 (.seq (.reg [⟨(some 12), none, .bld [(.sc (.int .i64 0)), (.sc (.slice none 0 0))] []⟩, 
 ⟨(some 13), none, .call 24 [(.k (.sc (.string ⟨#[98]⟩))), (.k (.sc (.int .i64 1)))]⟩, 
 ⟨(some 14), none, .call 24 [(.k (.sc (.string ⟨#[65]⟩))), (.k (.sc (.int .i64 1)))]⟩, 
 ⟨(some 15), none, .bsl 6 2 true [(.sc (.string ⟨#[]⟩)), (.sc (.string ⟨#[]⟩)), (.sc (.string ⟨#[]⟩)), (.sc (.int .i64 0)), (.sc (.int .i64 0)), (.sc (.int .i64 0)), (.sc (.string ⟨#[]⟩)), (.sc (.string ⟨#[]⟩)), (.sc (.string ⟨#[]⟩)), (.sc (.int .i64 0)), (.sc (.int .i64 0)), (.sc (.int .i64 0))] [(0, 6, (.t 13)), (6, 6, (.t 14))]⟩, 
 ⟨(some 16), none, .call 14 [(.t 12), (.k (.sc (.int .i64 3))), (.t 15)]⟩, 
 ⟨(some 11), none, .mv (.t 16)⟩, 
 ⟨(some 17), none, .ext (.t 11) 0⟩, 
 ⟨(some 18), none, .ext (.t 11) 1⟩, 
 ⟨(some 1), none, .al (.agg [(.sc (.int .i64 0)), (.sc (.slice none 0 0))]) 2⟩, 
 ⟨none, none, .st 2 (.t 1) (.t 17)⟩, 
 ⟨(some 2), none, .mv (.t 18)⟩])
 (.seq (.seq (.reg [⟨(some 19), none, .mv (.t 2)⟩, 
 ⟨(some 20), none, .bin .neq false (.t 19) (.k (.sc (.int .i64 0))) (pu (.binOp .neq 27 (.tmp 19) (.const (.int .i64 0)) 27) 4)⟩, 
 ⟨(some 21), none, .mv (.t 20)⟩, 
 ⟨(some 22), (some ((some 21), false)), .sh 0 (.t 1)⟩, 
 ⟨(some 23), (some ((some 21), false)), .ld none (.t 22)⟩, 
 ⟨(some 24), (some ((some 21), false)), .bin .neq false (.t 23) (.k (.sc (.int .i64 3))) (pu (.binOp .neq 3 (.tmp 23) (.const (.int .i64 3)) 3) 4)⟩, 
 ⟨(some 25), none, .pick (.t 21) (.k (.sc (.bool true))) (.t 24)⟩, 
 ⟨(some 26), none, .mv (.t 25)⟩, 
 ⟨(some 27), (some ((some 26), false)), .sh 1 (.t 1)⟩, 
 ⟨(some 28), (some ((some 26), false)), .ld none (.t 27)⟩, 
 ⟨(some 29), (some ((some 26), false)), .len (.t 28) (pu (.call ⟨.builtin .len, #[(.tmp 28)], #[22]⟩) 3)⟩, 
 ⟨(some 30), (some ((some 26), false)), .bin .neq false (.t 29) (.k (.sc (.int .i64 2))) (pu (.binOp .neq 3 (.tmp 29) (.const (.int .i64 2)) 3) 4)⟩, 
 ⟨(some 31), none, .pick (.t 26) (.k (.sc (.bool true))) (.t 30)⟩, 
 ⟨(some 32), none, .mv (.t 31)⟩, 
 ⟨(some 33), (some ((some 32), false)), .sh 1 (.t 1)⟩, 
 ⟨(some 34), (some ((some 32), false)), .ld none (.t 33)⟩, 
 ⟨(some 35), (some ((some 32), false)), .ixs 6 (.t 34) (.k (.sc (.int .i64 0)))⟩, 
 ⟨(some 36), (some ((some 32), false)), .sh 0 (.t 35)⟩, 
 ⟨(some 37), (some ((some 32), false)), .ld none (.t 36)⟩, 
 ⟨(some 38), (some ((some 32), false)), .bin .neq false (.t 37) (.k (.sc (.string ⟨#[65]⟩))) (pu (.binOp .neq 9 (.tmp 37) (.const (.string ⟨#[65]⟩)) 9) 4)⟩, 
 ⟨(some 39), none, .pick (.t 32) (.k (.sc (.bool true))) (.t 38)⟩, 
 ⟨(some 40), none, .mv (.t 39)⟩, 
 ⟨(some 41), (some ((some 40), false)), .sh 1 (.t 1)⟩, 
 ⟨(some 42), (some ((some 40), false)), .ld none (.t 41)⟩, 
 ⟨(some 43), (some ((some 40), false)), .ixs 6 (.t 42) (.k (.sc (.int .i64 1)))⟩, 
 ⟨(some 44), (some ((some 40), false)), .sh 0 (.t 43)⟩, 
 ⟨(some 45), (some ((some 40), false)), .ld none (.t 44)⟩, 
 ⟨(some 46), (some ((some 40), false)), .bin .neq false (.t 45) (.k (.sc (.string ⟨#[98]⟩))) (pu (.binOp .neq 9 (.tmp 45) (.const (.string ⟨#[98]⟩)) 9) 4)⟩, 
 ⟨(some 47), none, .pick (.t 40) (.k (.sc (.bool true))) (.t 46)⟩, 
 ⟨(some 48), none, .mv (.t 47)⟩, 
 ⟨(some 49), (some ((some 48), false)), .ld (some 2) (.t 1)⟩, 
 ⟨(some 50), (some ((some 48), false)), .call 12 [(.t 49)]⟩, 
 ⟨(some 51), (some ((some 48), false)), .bin .neq false (.t 50) (.k (.sc (.int .i64 0))) (pu (.binOp .neq 27 (.tmp 50) (.const (.int .i64 0)) 27) 4)⟩, 
 ⟨(some 52), none, .pick (.t 48) (.k (.sc (.bool true))) (.t 51)⟩])
 (.cond (.t 52) (.seq (.reg [⟨(some 0), none, .mv (.k (.sc (.bool false)))⟩])
  .ret)
 .skip))
 (.seq (.reg [⟨(some 54), none, .ld (some 2) (.t 1)⟩, 
 ⟨(some 55), none, .bld [(.sc (.string ⟨#[]⟩)), (.sc (.string ⟨#[]⟩)), (.sc (.string ⟨#[]⟩)), (.sc (.int .i64 0)), (.sc (.int .i64 0)), (.sc (.int .i64 0))] [(0, 1, (.k (.sc (.string ⟨#[97]⟩))))]⟩, 
 ⟨(some 56), none, .bsl 6 1 true [(.sc (.string ⟨#[]⟩)), (.sc (.string ⟨#[]⟩)), (.sc (.string ⟨#[]⟩)), (.sc (.int .i64 0)), (.sc (.int .i64 0)), (.sc (.int .i64 0))] [(0, 6, (.t 55))]⟩, 
 ⟨(some 57), none, .call 17 [(.t 54), (.k (.sc (.int .i64 3))), (.k (.sc (.int .i64 4))), (.t 56)]⟩, 
 ⟨(some 53), none, .mv (.t 57)⟩, 
 ⟨(some 58), none, .ext (.t 53) 0⟩, 
 ⟨(some 59), none, .ext (.t 53) 1⟩, 
 ⟨(some 3), none, .al (.agg [(.sc (.int .i64 0)), (.sc (.slice none 0 0))]) 2⟩, 
 ⟨none, none, .st 2 (.t 3) (.t 58)⟩, 
 ⟨(some 4), none, .mv (.t 59)⟩])
 (.seq (.reg [⟨(some 61), none, .ld (some 2) (.t 1)⟩, 
 ⟨(some 62), none, .bld [(.sc (.string ⟨#[]⟩)), (.sc (.string ⟨#[]⟩)), (.sc (.string ⟨#[]⟩)), (.sc (.int .i64 0)), (.sc (.int .i64 0)), (.sc (.int .i64 0))] [(0, 1, (.k (.sc (.string ⟨#[67]⟩))))]⟩, 
 ⟨(some 63), none, .bsl 6 1 true [(.sc (.string ⟨#[]⟩)), (.sc (.string ⟨#[]⟩)), (.sc (.string ⟨#[]⟩)), (.sc (.int .i64 0)), (.sc (.int .i64 0)), (.sc (.int .i64 0))] [(0, 6, (.t 62))]⟩, 
 ⟨(some 64), none, .call 17 [(.t 61), (.k (.sc (.int .i64 3))), (.k (.sc (.int .i64 4))), (.t 63)]⟩, 
 ⟨(some 60), none, .mv (.t 64)⟩, 
 ⟨(some 65), none, .ext (.t 60) 0⟩, 
 ⟨(some 66), none, .ext (.t 60) 1⟩, 
 ⟨(some 5), none, .al (.agg [(.sc (.int .i64 0)), (.sc (.slice none 0 0))]) 2⟩, 
 ⟨none, none, .st 2 (.t 5) (.t 65)⟩, 
 ⟨(some 6), none, .mv (.t 66)⟩])
 (.seq (.reg [⟨(some 68), none, .ld (some 2) (.t 1)⟩, 
 ⟨(some 69), none, .call 17 [(.t 68), (.k (.sc (.int .i64 2))), (.k (.sc (.int .i64 4))), (.k (.sc (.slice none 0 0)))]⟩, 
 ⟨(some 67), none, .mv (.t 69)⟩, 
 ⟨(some 70), none, .ext (.t 67) 0⟩, 
 ⟨(some 71), none, .ext (.t 67) 1⟩, 
 ⟨(some 7), none, .al (.agg [(.sc (.int .i64 0)), (.sc (.slice none 0 0))]) 2⟩, 
 ⟨none, none, .st 2 (.t 7) (.t 70)⟩, 
 ⟨(some 8), none, .mv (.t 71)⟩])
 (.seq (.drw [0, 0, 2, 6, 14, 31, 63, 127, 127, 255, 1023] [⟨(some 73), none, .ld (some 2) (.t 1)⟩, 
 ⟨(some 74), none, .call 24 [(.k (.sc (.string ⟨#[66]⟩))), (.k (.sc (.int .i64 2)))]⟩, 
 ⟨(some 75), none, .call 24 [(.k (.sc (.string ⟨#[67]⟩))), (.k (.sc (.int .i64 1)))]⟩, 
 ⟨(some 76), none, .bsl 6 2 true [(.sc (.string ⟨#[]⟩)), (.sc (.string ⟨#[]⟩)), (.sc (.string ⟨#[]⟩)), (.sc (.int .i64 0)), (.sc (.int .i64 0)), (.sc (.int .i64 0)), (.sc (.string ⟨#[]⟩)), (.sc (.string ⟨#[]⟩)), (.sc (.string ⟨#[]⟩)), (.sc (.int .i64 0)), (.sc (.int .i64 0)), (.sc (.int .i64 0))] [(0, 6, (.t 74)), (6, 6, (.t 75))]⟩, 
 ⟨(some 77), none, .bld [(.sc (.int .i64 0)), (.sc (.slice none 0 0))] [(0, 1, (.k (.sc (.int .i64 5)))), (1, 1, (.t 76))]⟩, 
 ⟨(some 78), none, .call 19 [(.t 73), (.t 77)]⟩, 
 ⟨(some 72), none, .mv (.t 78)⟩, 
 ⟨(some 79), none, .ext (.t 72) 0⟩, 
 ⟨(some 80), none, .ext (.t 72) 1⟩, 
 ⟨(some 9), none, .mv (.t 79)⟩, 
 ⟨(some 10), none, .mv (.t 80)⟩])
 (.seq (.reg [⟨(some 81), none, .mv (.t 4)⟩, 
 ⟨(some 82), none, .bin .eql false (.t 81) (.k (.sc (.int .i64 0))) (pu (.binOp .eql 27 (.tmp 81) (.const (.int .i64 0)) 27) 4)⟩, 
 ⟨(some 83), none, .mv (.t 82)⟩, 
 ⟨(some 84), (some ((some 83), true)), .sh 1 (.t 3)⟩, 
 ⟨(some 85), (some ((some 83), true)), .ld none (.t 84)⟩, 
 ⟨(some 86), (some ((some 83), true)), .len (.t 85) (pu (.call ⟨.builtin .len, #[(.tmp 85)], #[22]⟩) 3)⟩, 
 ⟨(some 87), (some ((some 83), true)), .bin .eql false (.t 86) (.k (.sc (.int .i64 1))) (pu (.binOp .eql 3 (.tmp 86) (.const (.int .i64 1)) 3) 4)⟩, 
 ⟨(some 88), none, .pick (.t 83) (.t 87) (.k (.sc (.bool false)))⟩, 
 ⟨(some 89), none, .mv (.t 88)⟩, 
 ⟨(some 90), (some ((some 89), true)), .sh 1 (.t 3)⟩, 
 ⟨(some 91), (some ((some 89), true)), .ld none (.t 90)⟩, 
 ⟨(some 92), (some ((some 89), true)), .ixs 6 (.t 91) (.k (.sc (.int .i64 0)))⟩, 
 ⟨(some 93), (some ((some 89), true)), .sh 0 (.t 92)⟩, 
 ⟨(some 94), (some ((some 89), true)), .ld none (.t 93)⟩, 
 ⟨(some 95), (some ((some 89), true)), .bin .eql false (.t 94) (.k (.sc (.string ⟨#[98]⟩))) (pu (.binOp .eql 9 (.tmp 94) (.const (.string ⟨#[98]⟩)) 9) 4)⟩, 
 ⟨(some 96), none, .pick (.t 89) (.t 95) (.k (.sc (.bool false)))⟩, 
 ⟨(some 97), none, .mv (.t 96)⟩, 
 ⟨(some 98), (some ((some 97), true)), .mv (.t 6)⟩, 
 ⟨(some 99), (some ((some 97), true)), .bin .eql false (.t 98) (.k (.sc (.int .i64 8))) (pu (.binOp .eql 27 (.tmp 98) (.const (.int .i64 8)) 27) 4)⟩, 
 ⟨(some 100), none, .pick (.t 97) (.t 99) (.k (.sc (.bool false)))⟩, 
 ⟨(some 101), none, .mv (.t 100)⟩, 
 ⟨(some 102), (some ((some 101), true)), .mv (.t 8)⟩, 
 ⟨(some 103), (some ((some 101), true)), .bin .eql false (.t 102) (.k (.sc (.int .i64 11))) (pu (.binOp .eql 27 (.tmp 102) (.const (.int .i64 11)) 27) 4)⟩, 
 ⟨(some 104), none, .pick (.t 101) (.t 103) (.k (.sc (.bool false)))⟩, 
 ⟨(some 105), none, .mv (.t 104)⟩, 
 ⟨(some 106), (some ((some 105), true)), .mv (.t 10)⟩, 
 ⟨(some 107), (some ((some 105), true)), .bin .eql false (.t 106) (.k (.sc (.int .i64 0))) (pu (.binOp .eql 27 (.tmp 106) (.const (.int .i64 0)) 27) 4)⟩, 
 ⟨(some 108), none, .pick (.t 105) (.t 107) (.k (.sc (.bool false)))⟩, 
 ⟨(some 109), none, .mv (.t 108)⟩, 
 ⟨(some 110), (some ((some 109), true)), .mv (.t 9)⟩, 
 ⟨(some 111), (some ((some 109), true)), .len (.t 110) (pu (.call ⟨.builtin .len, #[(.tmp 110)], #[22]⟩) 3)⟩, 
 ⟨(some 112), (some ((some 109), true)), .bin .eql false (.t 111) (.k (.sc (.int .i64 3))) (pu (.binOp .eql 3 (.tmp 111) (.const (.int .i64 3)) 3) 4)⟩, 
 ⟨(some 113), none, .pick (.t 109) (.t 112) (.k (.sc (.bool false)))⟩, 
 ⟨(some 114), none, .mv (.t 113)⟩, 
 ⟨(some 115), (some ((some 114), true)), .mv (.t 9)⟩, 
 ⟨(some 116), (some ((some 114), true)), .ixs 6 (.t 115) (.k (.sc (.int .i64 0)))⟩, 
 ⟨(some 117), (some ((some 114), true)), .ld (some 6) (.t 116)⟩, 
 ⟨(some 118), (some ((some 114), true)), .bld [(.sc (.string ⟨#[]⟩)), (.sc (.string ⟨#[]⟩)), (.sc (.string ⟨#[]⟩)), (.sc (.int .i64 0)), (.sc (.int .i64 0)), (.sc (.int .i64 0))] [(0, 1, (.k (.sc (.string ⟨#[65]⟩))))]⟩, 
 ⟨(some 119), (some ((some 114), true)), .bin .eql false (.t 117) (.t 118) (pu (.binOp .eql 43 (.tmp 117) (.tmp 118) 43) 4)⟩, 
 ⟨(some 120), none, .pick (.t 114) (.t 119) (.k (.sc (.bool false)))⟩, 
 ⟨(some 121), none, .mv (.t 120)⟩, 
 ⟨(some 122), (some ((some 121), true)), .mv (.t 9)⟩, 
 ⟨(some 123), (some ((some 121), true)), .ixs 6 (.t 122) (.k (.sc (.int .i64 1)))⟩, 
 ⟨(some 124), (some ((some 121), true)), .sh 0 (.t 123)⟩, 
 ⟨(some 125), (some ((some 121), true)), .ld none (.t 124)⟩, 
 ⟨(some 126), (some ((some 121), true)), .bin .eql false (.t 125) (.k (.sc (.string ⟨#[66]⟩))) (pu (.binOp .eql 9 (.tmp 125) (.const (.string ⟨#[66]⟩)) 9) 4)⟩, 
 ⟨(some 127), none, .pick (.t 121) (.t 126) (.k (.sc (.bool false)))⟩, 
 ⟨(some 128), none, .mv (.t 127)⟩, 
 ⟨(some 129), (some ((some 128), true)), .mv (.t 9)⟩, 
 ⟨(some 130), (some ((some 128), true)), .ixs 6 (.t 129) (.k (.sc (.int .i64 2)))⟩, 
 ⟨(some 131), (some ((some 128), true)), .sh 0 (.t 130)⟩, 
 ⟨(some 132), (some ((some 128), true)), .ld none (.t 131)⟩, 
 ⟨(some 133), (some ((some 128), true)), .bin .eql false (.t 132) (.k (.sc (.string ⟨#[67]⟩))) (pu (.binOp .eql 9 (.tmp 132) (.const (.string ⟨#[67]⟩)) 9) 4)⟩, 
 ⟨(some 134), none, .pick (.t 128) (.t 133) (.k (.sc (.bool false)))⟩, 
 ⟨(some 0), none, .mv (.t 134)⟩])
 .ret))))))))
def k11 : List Nat := [0, 1, 2, 3, 4, 6, 8, 9, 10, 52]
theorem ic11 : factsI Try.prog 11 = some (135, [.tmp 0], c11) := by kernel_rfl

-- chargenet/list.Valid (54 slots)
def c12 : IC :=
 (.seq (.reg [⟨(some 1), none, .bx (.t 0)⟩, 
 ⟨(some 2), none, .mv (.k (.sc (.int .i64 0)))⟩])
 (.seq (.seq (.reg [⟨(some 6), none, .sh 0 (.t 1)⟩, 
 ⟨(some 7), none, .ld none (.t 6)⟩, 
 ⟨(some 8), none, .bin .lss false (.t 7) (.k (.sc (.int .i64 0))) (pu (.binOp .lss 3 (.tmp 7) (.const (.int .i64 0)) 3) 4)⟩, 
 ⟨(some 9), none, .mv (.t 8)⟩, 
 ⟨(some 10), (some ((some 9), false)), .sh 0 (.t 1)⟩, 
 ⟨(some 11), (some ((some 9), false)), .ld none (.t 10)⟩, 
 ⟨(some 12), (some ((some 9), false)), .bin .gtr false (.t 11) (.k (.sc (.int .i64 2147483647))) (pu (.binOp .gtr 3 (.tmp 11) (.const (.int .i64 2147483647)) 3) 4)⟩, 
 ⟨(some 13), none, .pick (.t 9) (.k (.sc (.bool true))) (.t 12)⟩])
 (.cond (.t 13) (.seq (.reg [⟨(some 2), none, .mv (.k (.sc (.int .i64 2)))⟩])
  .ret)
 .skip))
 (.seq (.seq (.reg [⟨(some 14), none, .sh 1 (.t 1)⟩, 
 ⟨(some 15), none, .ld none (.t 14)⟩, 
 ⟨(some 16), none, .len (.t 15) (pu (.call ⟨.builtin .len, #[(.tmp 15)], #[22]⟩) 3)⟩, 
 ⟨(some 17), none, .bin .gtr false (.t 16) (.k (.sc (.int .i64 128))) (pu (.binOp .gtr 3 (.tmp 16) (.const (.int .i64 128)) 3) 4)⟩])
 (.cond (.t 17) (.seq (.reg [⟨(some 2), none, .mv (.k (.sc (.int .i64 3)))⟩])
  .ret)
 .skip))
 (.seq (.seq (.reg [⟨(some 18), none, .sh 0 (.t 1)⟩, 
 ⟨(some 19), none, .ld none (.t 18)⟩, 
 ⟨(some 20), none, .bin .eql false (.t 19) (.k (.sc (.int .i64 0))) (pu (.binOp .eql 3 (.tmp 19) (.const (.int .i64 0)) 3) 4)⟩, 
 ⟨(some 21), none, .mv (.t 20)⟩, 
 ⟨(some 22), (some ((some 21), true)), .sh 1 (.t 1)⟩, 
 ⟨(some 23), (some ((some 21), true)), .ld none (.t 22)⟩, 
 ⟨(some 24), (some ((some 21), true)), .len (.t 23) (pu (.call ⟨.builtin .len, #[(.tmp 23)], #[22]⟩) 3)⟩, 
 ⟨(some 25), (some ((some 21), true)), .bin .gtr false (.t 24) (.k (.sc (.int .i64 0))) (pu (.binOp .gtr 3 (.tmp 24) (.const (.int .i64 0)) 3) 4)⟩, 
 ⟨(some 26), none, .pick (.t 21) (.t 25) (.k (.sc (.bool false)))⟩])
 (.cond (.t 26) (.seq (.reg [⟨(some 2), none, .mv (.k (.sc (.int .i64 1)))⟩])
  .ret)
 .skip))
 (.seq (.seq (.reg [⟨(some 27), none, .sh 1 (.t 1)⟩, 
 ⟨(some 28), none, .ld none (.t 27)⟩, 
 ⟨(some 29), none, .len (.t 28) (pu (.call ⟨.builtin .len, #[(.tmp 28)], #[22]⟩) 3)⟩, 
 ⟨(some 30), none, .mv (.k (.sc (.int .i64 0)))⟩])
 (.block 0 (.loop (.seq (.reg [⟨(some 31), none, .bin .lss false (.t 30) (.t 29) (pu (.binOp .lss 3 (.tmp 30) (.tmp 29) 3) 0)⟩])
  (.seq (.cond (.t 31) .skip
  (.exit 0))
  (.seq (.block 1 (.seq (.reg [⟨(some 32), none, .mv (.t 30)⟩, 
  ⟨(some 33), none, .ixs 6 (.t 28) (.t 30)⟩, 
  ⟨(some 34), none, .ld (some 6) (.t 33)⟩, 
  ⟨(some 4), none, .al (.agg [(.sc (.string ⟨#[]⟩)), (.sc (.string ⟨#[]⟩)), (.sc (.string ⟨#[]⟩)), (.sc (.int .i64 0)), (.sc (.int .i64 0)), (.sc (.int .i64 0))]) 6⟩, 
  ⟨(some 3), none, .mv (.t 32)⟩, 
  ⟨none, none, .st 6 (.t 4) (.t 34)⟩])
  (.seq (.seq (.reg [⟨(some 35), none, .ld (some 6) (.t 4)⟩, 
  ⟨(some 36), none, .call 25 [(.t 35)]⟩, 
  ⟨(some 5), none, .mv (.t 36)⟩])
  (.seq (.reg [⟨(some 37), none, .mv (.t 5)⟩, 
  ⟨(some 38), none, .bin .neq false (.t 37) (.k (.sc (.int .i64 0))) (pu (.binOp .neq 27 (.tmp 37) (.const (.int .i64 0)) 27) 4)⟩])
  (.cond (.t 38) (.seq (.reg [⟨(some 39), none, .mv (.t 5)⟩, 
   ⟨(some 2), none, .mv (.t 39)⟩])
   .ret)
  .skip)))
  (.seq (.drw [0, 1, 3, 7, 15, 7, 39, 127, 255, 7, 1023, 2047, 4095] [⟨(some 40), none, .mv (.t 3)⟩, 
  ⟨(some 41), none, .bin .gtr false (.t 40) (.k (.sc (.int .i64 0))) (pu (.binOp .gtr 3 (.tmp 40) (.const (.int .i64 0)) 3) 4)⟩, 
  ⟨(some 42), none, .mv (.t 41)⟩, 
  ⟨(some 43), (some ((some 42), true)), .sh 1 (.t 1)⟩, 
  ⟨(some 44), (some ((some 42), true)), .ld none (.t 43)⟩, 
  ⟨(some 45), (some ((some 42), true)), .mv (.t 3)⟩, 
  ⟨(some 46), (some ((some 42), true)), .bin .sub false (.t 45) (.k (.sc (.int .i64 1))) (pu (.binOp .sub 3 (.tmp 45) (.const (.int .i64 1)) 3) 3)⟩, 
  ⟨(some 47), (some ((some 42), true)), .ixs 6 (.t 44) (.t 46)⟩, 
  ⟨(some 48), (some ((some 42), true)), .ld (some 6) (.t 47)⟩, 
  ⟨(some 49), (some ((some 42), true)), .ld (some 6) (.t 4)⟩, 
  ⟨(some 50), (some ((some 42), true)), .call 26 [(.t 48), (.t 49)]⟩, 
  ⟨(some 51), (some ((some 42), true)), .bin .geq false (.t 50) (.k (.sc (.int .i64 0))) (pu (.binOp .geq 3 (.tmp 50) (.const (.int .i64 0)) 3) 4)⟩, 
  ⟨(some 52), none, .pick (.t 42) (.t 51) (.k (.sc (.bool false)))⟩])
  (.cond (.t 52) (.seq (.reg [⟨(some 2), none, .mv (.k (.sc (.int .i64 1)))⟩])
   .ret)
  .skip)))))
  (.reg [⟨(some 53), none, .bin .add false (.t 30) (.k (.sc (.int .i64 1))) (pu (.binOp .add 3 (.tmp 30) (.const (.int .i64 1)) 3) 3)⟩, 
  ⟨(some 30), none, .mv (.t 53)⟩])))))))
 (.seq (.reg [⟨(some 2), none, .mv (.k (.sc (.int .i64 0)))⟩])
 .ret))))))
def k12 : List Nat := [0, 1, 2, 3, 4, 5, 13, 17, 26, 28, 29, 30, 31, 38, 52]
theorem ic12 : factsI Try.prog 12 = some (54, [.tmp 2], c12) := by kernel_rfl

-- chargenet/chargenetref22.Valid (58 slots)
def c13 : IC :=
 (.seq (.reg [⟨(some 1), none, .bx (.t 0)⟩, 
 ⟨(some 2), none, .mv (.k (.sc (.int .i64 0)))⟩])
 (.seq (.seq (.reg [⟨(some 5), none, .sh 0 (.t 1)⟩, 
 ⟨(some 6), none, .ld none (.t 5)⟩, 
 ⟨(some 7), none, .call 27 [(.t 6), (.k (.sc (.int .i64 0)))]⟩, 
 ⟨(some 8), none, .un .not (.t 7) (pu (.unOp .not 4 (.tmp 7)) 4)⟩])
 (.cond (.t 8) (.seq (.reg [⟨(some 2), none, .mv (.k (.sc (.int .i64 2)))⟩])
  .ret)
 .skip))
 (.seq (.seq (.reg [⟨(some 9), none, .sh 1 (.t 1)⟩, 
 ⟨(some 10), none, .ld none (.t 9)⟩, 
 ⟨(some 11), none, .len (.t 10) (pu (.call ⟨.builtin .len, #[(.tmp 10)], #[22]⟩) 3)⟩, 
 ⟨(some 12), none, .bin .gtr false (.t 11) (.k (.sc (.int .i64 128))) (pu (.binOp .gtr 3 (.tmp 11) (.const (.int .i64 128)) 3) 4)⟩])
 (.cond (.t 12) (.seq (.reg [⟨(some 2), none, .mv (.k (.sc (.int .i64 3)))⟩])
  .ret)
 .skip))
 (.seq (.seq (.reg [⟨(some 13), none, .sh 0 (.t 1)⟩, 
 ⟨(some 14), none, .ld none (.t 13)⟩, 
 ⟨(some 15), none, .bin .eql false (.t 14) (.k (.sc (.int .i64 0))) (pu (.binOp .eql 3 (.tmp 14) (.const (.int .i64 0)) 3) 4)⟩, 
 ⟨(some 16), none, .mv (.t 15)⟩, 
 ⟨(some 17), (some ((some 16), true)), .sh 1 (.t 1)⟩, 
 ⟨(some 18), (some ((some 16), true)), .ld none (.t 17)⟩, 
 ⟨(some 19), (some ((some 16), true)), .len (.t 18) (pu (.call ⟨.builtin .len, #[(.tmp 18)], #[22]⟩) 3)⟩, 
 ⟨(some 20), (some ((some 16), true)), .bin .gtr false (.t 19) (.k (.sc (.int .i64 0))) (pu (.binOp .gtr 3 (.tmp 19) (.const (.int .i64 0)) 3) 4)⟩, 
 ⟨(some 21), none, .pick (.t 16) (.t 20) (.k (.sc (.bool false)))⟩])
 (.cond (.t 21) (.seq (.reg [⟨(some 2), none, .mv (.k (.sc (.int .i64 1)))⟩])
  .ret)
 .skip))
 (.seq (.seq (.reg [⟨(some 3), none, .mv (.k (.sc (.int .i64 0)))⟩])
 (.block 0 (.loop (.seq (.seq (.reg [⟨(some 22), none, .mv (.t 3)⟩, 
  ⟨(some 23), none, .sh 1 (.t 1)⟩, 
  ⟨(some 24), none, .ld none (.t 23)⟩, 
  ⟨(some 25), none, .len (.t 24) (pu (.call ⟨.builtin .len, #[(.tmp 24)], #[22]⟩) 3)⟩, 
  ⟨(some 26), none, .bin .lss false (.t 22) (.t 25) (pu (.binOp .lss 3 (.tmp 22) (.tmp 25) 3) 4)⟩])
  (.cond (.t 26) .skip
  (.exit 0)))
  (.seq (.block 1 (.seq (.seq (.reg [⟨(some 29), none, .sh 1 (.t 1)⟩, 
  ⟨(some 30), none, .ld none (.t 29)⟩, 
  ⟨(some 31), none, .mv (.t 3)⟩, 
  ⟨(some 32), none, .ixs 6 (.t 30) (.t 31)⟩, 
  ⟨(some 33), none, .ld (some 6) (.t 32)⟩, 
  ⟨(some 34), none, .call 28 [(.t 33)]⟩, 
  ⟨(some 4), none, .mv (.t 34)⟩])
  (.seq (.reg [⟨(some 35), none, .mv (.t 4)⟩, 
  ⟨(some 36), none, .bin .neq false (.t 35) (.k (.sc (.int .i64 0))) (pu (.binOp .neq 27 (.tmp 35) (.const (.int .i64 0)) 27) 4)⟩])
  (.cond (.t 36) (.seq (.reg [⟨(some 37), none, .mv (.t 4)⟩, 
   ⟨(some 2), none, .mv (.t 37)⟩])
   .ret)
  .skip)))
  (.seq (.drw [0, 1, 3, 7, 15, 7, 63, 127, 255, 511, 7, 1031, 7, 4103, 15367, 31751, 64519, 131071, 262143, 524287] [⟨(some 38), none, .mv (.t 3)⟩, 
  ⟨(some 39), none, .bin .gtr false (.t 38) (.k (.sc (.int .i64 0))) (pu (.binOp .gtr 3 (.tmp 38) (.const (.int .i64 0)) 3) 4)⟩, 
  ⟨(some 40), none, .mv (.t 39)⟩, 
  ⟨(some 41), (some ((some 40), true)), .sh 1 (.t 1)⟩, 
  ⟨(some 42), (some ((some 40), true)), .ld none (.t 41)⟩, 
  ⟨(some 43), (some ((some 40), true)), .mv (.t 3)⟩, 
  ⟨(some 44), (some ((some 40), true)), .ixs 6 (.t 42) (.t 43)⟩, 
  ⟨(some 45), (some ((some 40), true)), .sh 0 (.t 44)⟩, 
  ⟨(some 46), (some ((some 40), true)), .ld none (.t 45)⟩, 
  ⟨(some 47), (some ((some 40), true)), .call 29 [(.t 46)]⟩, 
  ⟨(some 48), (some ((some 40), true)), .sh 1 (.t 1)⟩, 
  ⟨(some 49), (some ((some 40), true)), .ld none (.t 48)⟩, 
  ⟨(some 50), (some ((some 40), true)), .mv (.t 3)⟩, 
  ⟨(some 51), (some ((some 40), true)), .bin .sub false (.t 50) (.k (.sc (.int .i64 1))) (pu (.binOp .sub 3 (.tmp 50) (.const (.int .i64 1)) 3) 3)⟩, 
  ⟨(some 52), (some ((some 40), true)), .ixs 6 (.t 49) (.t 51)⟩, 
  ⟨(some 53), (some ((some 40), true)), .sh 0 (.t 52)⟩, 
  ⟨(some 54), (some ((some 40), true)), .ld none (.t 53)⟩, 
  ⟨(some 55), (some ((some 40), true)), .call 29 [(.t 54)]⟩, 
  ⟨(some 56), (some ((some 40), true)), .bin .leq false (.t 47) (.t 55) (pu (.binOp .leq 9 (.tmp 47) (.tmp 55) 9) 4)⟩, 
  ⟨(some 57), none, .pick (.t 40) (.t 56) (.k (.sc (.bool false)))⟩])
  (.cond (.t 57) (.seq (.reg [⟨(some 2), none, .mv (.k (.sc (.int .i64 1)))⟩])
   .ret)
  .skip))))
  (.reg [⟨(some 27), none, .mv (.t 3)⟩, 
  ⟨(some 28), none, .bin .add false (.t 27) (.k (.sc (.int .i64 1))) (pu (.binOp .add 3 (.tmp 27) (.const (.int .i64 1)) 3) 3)⟩, 
  ⟨(some 3), none, .mv (.t 28)⟩]))))))
 (.seq (.reg [⟨(some 2), none, .mv (.k (.sc (.int .i64 0)))⟩])
 .ret))))))
def k13 : List Nat := [0, 1, 2, 3, 4, 8, 12, 21, 26, 36, 57]
theorem ic13 : factsI Try.prog 13 = some (58, [.tmp 2], c13) := by kernel_rfl

-- chargenet/list.Full (67 slots)
def c14 : IC :=
 (.seq (.reg [⟨(some 3), none, .bx (.t 0)⟩, 
 ⟨(some 6), none, .al (.agg [(.sc (.int .i64 0)), (.sc (.slice none 0 0))]) 2⟩, 
 ⟨(some 7), none, .mv (.k (.sc (.int .i64 0)))⟩])
 (.seq (.seq (.reg [⟨(some 15), none, .ld (some 2) (.t 3)⟩, 
 ⟨(some 16), none, .call 12 [(.t 15)]⟩, 
 ⟨(some 8), none, .mv (.t 16)⟩])
 (.seq (.reg [⟨(some 17), none, .mv (.t 8)⟩, 
 ⟨(some 18), none, .bin .neq false (.t 17) (.k (.sc (.int .i64 0))) (pu (.binOp .neq 27 (.tmp 17) (.const (.int .i64 0)) 27) 4)⟩])
 (.cond (.t 18) (.seq (.reg [⟨(some 19), none, .ld (some 2) (.t 3)⟩, 
  ⟨(some 20), none, .mv (.t 8)⟩, 
  ⟨none, none, .st 2 (.t 6) (.t 19)⟩, 
  ⟨(some 7), none, .mv (.t 20)⟩])
  .ret)
 .skip)))
 (.seq (.seq (.reg [⟨(some 21), none, .mv (.t 1)⟩, 
 ⟨(some 22), none, .bin .lss false (.t 21) (.k (.sc (.int .i64 1))) (pu (.binOp .lss 3 (.tmp 21) (.const (.int .i64 1)) 3) 4)⟩, 
 ⟨(some 23), none, .mv (.t 22)⟩, 
 ⟨(some 24), (some ((some 23), false)), .mv (.t 1)⟩, 
 ⟨(some 25), (some ((some 23), false)), .bin .gtr false (.t 24) (.k (.sc (.int .i64 2147483647))) (pu (.binOp .gtr 3 (.tmp 24) (.const (.int .i64 2147483647)) 3) 4)⟩, 
 ⟨(some 26), none, .pick (.t 23) (.k (.sc (.bool true))) (.t 25)⟩])
 (.cond (.t 26) (.seq (.reg [⟨(some 27), none, .ld (some 2) (.t 3)⟩, 
  ⟨none, none, .st 2 (.t 6) (.t 27)⟩, 
  ⟨(some 7), none, .mv (.k (.sc (.int .i64 2)))⟩])
  .ret)
 .skip))
 (.seq (.seq (.reg [⟨(some 28), none, .mv (.t 1)⟩, 
 ⟨(some 29), none, .sh 0 (.t 3)⟩, 
 ⟨(some 30), none, .ld none (.t 29)⟩, 
 ⟨(some 31), none, .bin .leq false (.t 28) (.t 30) (pu (.binOp .leq 3 (.tmp 28) (.tmp 30) 3) 4)⟩])
 (.cond (.t 31) (.seq (.reg [⟨(some 32), none, .ld (some 2) (.t 3)⟩, 
  ⟨none, none, .st 2 (.t 6) (.t 32)⟩, 
  ⟨(some 7), none, .mv (.k (.sc (.int .i64 11)))⟩])
  .ret)
 .skip))
 (.seq (.seq (.reg [⟨(some 33), none, .mv (.t 2)⟩, 
 ⟨(some 34), none, .len (.t 33) (pu (.call ⟨.builtin .len, #[(.tmp 33)], #[22]⟩) 3)⟩, 
 ⟨(some 35), none, .bin .gtr false (.t 34) (.k (.sc (.int .i64 128))) (pu (.binOp .gtr 3 (.tmp 34) (.const (.int .i64 128)) 3) 4)⟩])
 (.cond (.t 35) (.seq (.reg [⟨(some 36), none, .ld (some 2) (.t 3)⟩, 
  ⟨none, none, .st 2 (.t 6) (.t 36)⟩, 
  ⟨(some 7), none, .mv (.k (.sc (.int .i64 3)))⟩])
  .ret)
 .skip))
 (.seq (.reg [⟨(some 37), none, .mmk none⟩, 
 ⟨(some 9), none, .mv (.t 37)⟩])
 (.seq (.seq (.reg [⟨(some 38), none, .mv (.t 2)⟩, 
 ⟨(some 39), none, .len (.t 38) (pu (.call ⟨.builtin .len, #[(.tmp 38)], #[22]⟩) 3)⟩, 
 ⟨(some 40), none, .mv (.k (.sc (.int .i64 0)))⟩])
 (.block 0 (.loop (.seq (.reg [⟨(some 41), none, .bin .lss false (.t 40) (.t 39) (pu (.binOp .lss 3 (.tmp 40) (.tmp 39) 3) 0)⟩])
  (.seq (.cond (.t 41) .skip
  (.exit 0))
  (.seq (.block 1 (.seq (.reg [⟨(some 42), none, .ixs 6 (.t 38) (.t 40)⟩, 
  ⟨(some 43), none, .ld (some 6) (.t 42)⟩, 
  ⟨(some 11), none, .al (.agg [(.sc (.string ⟨#[]⟩)), (.sc (.string ⟨#[]⟩)), (.sc (.string ⟨#[]⟩)), (.sc (.int .i64 0)), (.sc (.int .i64 0)), (.sc (.int .i64 0))]) 6⟩, 
  ⟨none, none, .st 6 (.t 11) (.t 43)⟩])
  (.seq (.seq (.reg [⟨(some 44), none, .ld (some 6) (.t 11)⟩, 
  ⟨(some 45), none, .call 25 [(.t 44)]⟩, 
  ⟨(some 12), none, .mv (.t 45)⟩])
  (.seq (.reg [⟨(some 46), none, .mv (.t 12)⟩, 
  ⟨(some 47), none, .bin .neq false (.t 46) (.k (.sc (.int .i64 0))) (pu (.binOp .neq 27 (.tmp 46) (.const (.int .i64 0)) 27) 4)⟩])
  (.cond (.t 47) (.seq (.reg [⟨(some 48), none, .ld (some 2) (.t 3)⟩, 
   ⟨(some 49), none, .mv (.t 12)⟩, 
   ⟨none, none, .st 2 (.t 6) (.t 48)⟩, 
   ⟨(some 7), none, .mv (.t 49)⟩])
   .ret)
  .skip)))
  (.seq (.reg [⟨(some 50), none, .sh 0 (.t 11)⟩, 
  ⟨(some 51), none, .ld none (.t 50)⟩, 
  ⟨(some 52), none, .call 30 [(.t 51)]⟩, 
  ⟨(some 13), none, .mv (.t 52)⟩])
  (.seq (.seq (.reg [⟨(some 53), none, .mv (.t 9)⟩, 
  ⟨(some 54), none, .mv (.t 13)⟩, 
  ⟨(some 55), none, .mlk false [.s] (.sc (.bool false)) false (.t 53) (.t 54) (pu (.lookup 51 (.tmp 53) (.tmp 54) false) 4)⟩])
  (.cond (.t 55) (.seq (.reg [⟨(some 56), none, .ld (some 2) (.t 3)⟩, 
   ⟨none, none, .st 2 (.t 6) (.t 56)⟩, 
   ⟨(some 7), none, .mv (.k (.sc (.int .i64 9)))⟩])
   .ret)
  .skip))
  (.reg [⟨(some 57), none, .mv (.t 9)⟩, 
  ⟨(some 58), none, .mv (.t 13)⟩, 
  ⟨none, none, .mpt false [.s] (.t 57) (.t 58) (.k (.sc (.bool true)))⟩]))))))
  (.reg [⟨(some 59), none, .bin .add false (.t 40) (.k (.sc (.int .i64 1))) (pu (.binOp .add 3 (.tmp 40) (.const (.int .i64 1)) 3) 3)⟩, 
  ⟨(some 40), none, .mv (.t 59)⟩])))))))
 (.seq (.reg [⟨(some 60), none, .mv (.t 2)⟩, 
 ⟨(some 61), none, .call 31 [(.t 60)]⟩, 
 ⟨(some 14), none, .mv (.t 61)⟩])
 (.seq (.reg [⟨(some 62), none, .mv (.t 14)⟩, 
 ⟨(some 63), none, .call 32 [(.t 62), (.k (.sc (.func (.func 26) #[] #[])))]⟩])
 (.seq (.reg [⟨(some 64), none, .mv (.t 1)⟩, 
 ⟨(some 65), none, .mv (.t 14)⟩, 
 ⟨(some 66), none, .bld [(.sc (.int .i64 0)), (.sc (.slice none 0 0))] [(0, 1, (.t 64)), (1, 1, (.t 65))]⟩, 
 ⟨none, none, .st 2 (.t 6) (.t 66)⟩, 
 ⟨(some 7), none, .mv (.k (.sc (.int .i64 0)))⟩])
 .ret))))))))))
def k14 : List Nat := [0, 1, 2, 3, 6, 7, 8, 9, 11, 12, 13, 14, 18, 26, 31, 35, 38, 39, 40, 41, 47, 55]
theorem ic14 : factsI Try.prog 14 = some (67, [.cell 6 24, .tmp 7], c14) := by kernel_rfl

-- chargenet/chargenetref22.Full (67 slots)
def c15 : IC :=
 (.seq (.reg [⟨(some 3), none, .bx (.t 0)⟩, 
 ⟨(some 6), none, .al (.agg [(.sc (.int .i64 0)), (.sc (.slice none 0 0))]) 2⟩, 
 ⟨(some 7), none, .mv (.k (.sc (.int .i64 0)))⟩])
 (.seq (.seq (.reg [⟨(some 12), none, .ld (some 2) (.t 3)⟩, 
 ⟨(some 13), none, .call 13 [(.t 12)]⟩, 
 ⟨(some 8), none, .mv (.t 13)⟩])
 (.seq (.reg [⟨(some 14), none, .mv (.t 8)⟩, 
 ⟨(some 15), none, .bin .neq false (.t 14) (.k (.sc (.int .i64 0))) (pu (.binOp .neq 27 (.tmp 14) (.const (.int .i64 0)) 27) 4)⟩])
 (.cond (.t 15) (.seq (.reg [⟨(some 16), none, .ld (some 2) (.t 3)⟩, 
  ⟨(some 17), none, .mv (.t 8)⟩, 
  ⟨none, none, .st 2 (.t 6) (.t 16)⟩, 
  ⟨(some 7), none, .mv (.t 17)⟩])
  .ret)
 .skip)))
 (.seq (.seq (.reg [⟨(some 18), none, .mv (.t 1)⟩, 
 ⟨(some 19), none, .call 27 [(.t 18), (.k (.sc (.int .i64 1)))]⟩, 
 ⟨(some 20), none, .un .not (.t 19) (pu (.unOp .not 4 (.tmp 19)) 4)⟩])
 (.cond (.t 20) (.seq (.reg [⟨(some 21), none, .ld (some 2) (.t 3)⟩, 
  ⟨none, none, .st 2 (.t 6) (.t 21)⟩, 
  ⟨(some 7), none, .mv (.k (.sc (.int .i64 2)))⟩])
  .ret)
 .skip))
 (.seq (.seq (.reg [⟨(some 22), none, .mv (.t 1)⟩, 
 ⟨(some 23), none, .sh 0 (.t 3)⟩, 
 ⟨(some 24), none, .ld none (.t 23)⟩, 
 ⟨(some 25), none, .bin .leq false (.t 22) (.t 24) (pu (.binOp .leq 3 (.tmp 22) (.tmp 24) 3) 4)⟩])
 (.cond (.t 25) (.seq (.reg [⟨(some 26), none, .ld (some 2) (.t 3)⟩, 
  ⟨none, none, .st 2 (.t 6) (.t 26)⟩, 
  ⟨(some 7), none, .mv (.k (.sc (.int .i64 11)))⟩])
  .ret)
 .skip))
 (.seq (.seq (.reg [⟨(some 27), none, .mv (.t 2)⟩, 
 ⟨(some 28), none, .len (.t 27) (pu (.call ⟨.builtin .len, #[(.tmp 27)], #[22]⟩) 3)⟩, 
 ⟨(some 29), none, .bin .gtr false (.t 28) (.k (.sc (.int .i64 128))) (pu (.binOp .gtr 3 (.tmp 28) (.const (.int .i64 128)) 3) 4)⟩])
 (.cond (.t 29) (.seq (.reg [⟨(some 30), none, .ld (some 2) (.t 3)⟩, 
  ⟨none, none, .st 2 (.t 6) (.t 30)⟩, 
  ⟨(some 7), none, .mv (.k (.sc (.int .i64 3)))⟩])
  .ret)
 .skip))
 (.seq (.reg [⟨(some 9), none, .mv (.k (.sc (.slice none 0 0)))⟩])
 (.seq (.seq (.reg [⟨(some 10), none, .mv (.k (.sc (.int .i64 0)))⟩])
 (.block 0 (.loop (.seq (.seq (.reg [⟨(some 31), none, .mv (.t 10)⟩, 
  ⟨(some 32), none, .mv (.t 2)⟩, 
  ⟨(some 33), none, .len (.t 32) (pu (.call ⟨.builtin .len, #[(.tmp 32)], #[22]⟩) 3)⟩, 
  ⟨(some 34), none, .bin .lss false (.t 31) (.t 33) (pu (.binOp .lss 3 (.tmp 31) (.tmp 33) 3) 4)⟩])
  (.cond (.t 34) .skip
  (.exit 0)))
  (.seq (.block 1 (.seq (.seq (.reg [⟨(some 37), none, .mv (.t 2)⟩, 
  ⟨(some 38), none, .mv (.t 10)⟩, 
  ⟨(some 39), none, .ixs 6 (.t 37) (.t 38)⟩, 
  ⟨(some 40), none, .ld (some 6) (.t 39)⟩, 
  ⟨(some 41), none, .call 28 [(.t 40)]⟩, 
  ⟨(some 11), none, .mv (.t 41)⟩])
  (.seq (.reg [⟨(some 42), none, .mv (.t 11)⟩, 
  ⟨(some 43), none, .bin .neq false (.t 42) (.k (.sc (.int .i64 0))) (pu (.binOp .neq 27 (.tmp 42) (.const (.int .i64 0)) 27) 4)⟩])
  (.cond (.t 43) (.seq (.reg [⟨(some 44), none, .ld (some 2) (.t 3)⟩, 
   ⟨(some 45), none, .mv (.t 11)⟩, 
   ⟨none, none, .st 2 (.t 6) (.t 44)⟩, 
   ⟨(some 7), none, .mv (.t 45)⟩])
   .ret)
  .skip)))
  (.seq (.seq (.drw [0, 0, 3, 0, 0, 24, 56, 120, 248, 511, 1023] [⟨(some 46), none, .mv (.t 2)⟩, 
  ⟨(some 47), none, .mv (.t 10)⟩, 
  ⟨(some 48), none, .sl 6 (.t 46) none (some (.t 47)) none (pu (.slice 22 (.tmp 46) none (some (.tmp 47)) none) 22)⟩, 
  ⟨(some 49), none, .mv (.t 2)⟩, 
  ⟨(some 50), none, .mv (.t 10)⟩, 
  ⟨(some 51), none, .ixs 6 (.t 49) (.t 50)⟩, 
  ⟨(some 52), none, .sh 0 (.t 51)⟩, 
  ⟨(some 53), none, .ld none (.t 52)⟩, 
  ⟨(some 54), none, .call 29 [(.t 53)]⟩, 
  ⟨(some 55), none, .call 33 [(.t 48), (.t 54)]⟩, 
  ⟨(some 56), none, .bin .geq false (.t 55) (.k (.sc (.int .i64 0))) (pu (.binOp .geq 3 (.tmp 55) (.const (.int .i64 0)) 3) 4)⟩])
  (.cond (.t 56) (.seq (.reg [⟨(some 57), none, .ld (some 2) (.t 3)⟩, 
   ⟨none, none, .st 2 (.t 6) (.t 57)⟩, 
   ⟨(some 7), none, .mv (.k (.sc (.int .i64 9)))⟩])
   .ret)
  .skip))
  (.reg [⟨(some 58), none, .mv (.t 9)⟩, 
  ⟨(some 59), none, .mv (.t 2)⟩, 
  ⟨(some 60), none, .mv (.t 10)⟩, 
  ⟨(some 61), none, .ixs 6 (.t 59) (.t 60)⟩, 
  ⟨(some 62), none, .ld (some 6) (.t 61)⟩, 
  ⟨(some 63), none, .call 34 [(.t 58), (.t 62)]⟩, 
  ⟨(some 9), none, .mv (.t 63)⟩]))))
  (.reg [⟨(some 35), none, .mv (.t 10)⟩, 
  ⟨(some 36), none, .bin .add false (.t 35) (.k (.sc (.int .i64 1))) (pu (.binOp .add 3 (.tmp 35) (.const (.int .i64 1)) 3) 3)⟩, 
  ⟨(some 10), none, .mv (.t 36)⟩]))))))
 (.seq (.reg [⟨(some 64), none, .mv (.t 1)⟩, 
 ⟨(some 65), none, .mv (.t 9)⟩, 
 ⟨(some 66), none, .bld [(.sc (.int .i64 0)), (.sc (.slice none 0 0))] [(0, 1, (.t 64)), (1, 1, (.t 65))]⟩, 
 ⟨none, none, .st 2 (.t 6) (.t 66)⟩, 
 ⟨(some 7), none, .mv (.k (.sc (.int .i64 0)))⟩])
 .ret))))))))
def k15 : List Nat := [0, 1, 2, 3, 6, 7, 8, 9, 10, 11, 15, 20, 25, 29, 34, 43, 56]
theorem ic15 : factsI Try.prog 15 = some (67, [.cell 6 24, .tmp 7], c15) := by kernel_rfl

-- chargenet/chargenetref22.Same (17 slots)
def c16 : IC :=
 (.seq (.reg [⟨(some 2), none, .bx (.t 0)⟩, 
 ⟨(some 3), none, .bx (.t 1)⟩, 
 ⟨(some 4), none, .mv (.k (.sc (.bool false)))⟩])
 (.seq (.reg [⟨(some 5), none, .sh 0 (.t 2)⟩, 
 ⟨(some 6), none, .ld none (.t 5)⟩, 
 ⟨(some 7), none, .sh 0 (.t 3)⟩, 
 ⟨(some 8), none, .ld none (.t 7)⟩, 
 ⟨(some 9), none, .bin .eql false (.t 6) (.t 8) (pu (.binOp .eql 3 (.tmp 6) (.tmp 8) 3) 4)⟩, 
 ⟨(some 10), none, .mv (.t 9)⟩, 
 ⟨(some 11), (some ((some 10), true)), .sh 1 (.t 2)⟩, 
 ⟨(some 12), (some ((some 10), true)), .ld none (.t 11)⟩, 
 ⟨(some 13), (some ((some 10), true)), .sh 1 (.t 3)⟩, 
 ⟨(some 14), (some ((some 10), true)), .ld none (.t 13)⟩, 
 ⟨(some 15), (some ((some 10), true)), .call 21 [(.t 12), (.t 14)]⟩, 
 ⟨(some 16), none, .pick (.t 10) (.t 15) (.k (.sc (.bool false)))⟩, 
 ⟨(some 4), none, .mv (.t 16)⟩])
 .ret))
def k16 : List Nat := [0, 1, 2, 3, 4]
theorem ic16 : factsI Try.prog 16 = some (17, [.tmp 4], c16) := by kernel_rfl

-- chargenet/list.Change (103 slots)
def c17 : IC :=
 (.seq (.reg [⟨(some 4), none, .bx (.t 0)⟩, 
 ⟨(some 8), none, .al (.agg [(.sc (.int .i64 0)), (.sc (.slice none 0 0))]) 2⟩, 
 ⟨(some 9), none, .mv (.k (.sc (.int .i64 0)))⟩])
 (.seq (.seq (.reg [⟨(some 20), none, .ld (some 2) (.t 4)⟩, 
 ⟨(some 21), none, .call 12 [(.t 20)]⟩, 
 ⟨(some 10), none, .mv (.t 21)⟩])
 (.seq (.reg [⟨(some 22), none, .mv (.t 10)⟩, 
 ⟨(some 23), none, .bin .neq false (.t 22) (.k (.sc (.int .i64 0))) (pu (.binOp .neq 27 (.tmp 22) (.const (.int .i64 0)) 27) 4)⟩])
 (.cond (.t 23) (.seq (.reg [⟨(some 24), none, .ld (some 2) (.t 4)⟩, 
  ⟨(some 25), none, .mv (.t 10)⟩, 
  ⟨none, none, .st 2 (.t 8) (.t 24)⟩, 
  ⟨(some 9), none, .mv (.t 25)⟩])
  .ret)
 .skip)))
 (.seq (.seq (.reg [⟨(some 26), none, .mv (.t 2)⟩, 
 ⟨(some 27), none, .bin .lss false (.t 26) (.k (.sc (.int .i64 1))) (pu (.binOp .lss 3 (.tmp 26) (.const (.int .i64 1)) 3) 4)⟩, 
 ⟨(some 28), none, .mv (.t 27)⟩, 
 ⟨(some 29), (some ((some 28), false)), .mv (.t 2)⟩, 
 ⟨(some 30), (some ((some 28), false)), .bin .gtr false (.t 29) (.k (.sc (.int .i64 2147483647))) (pu (.binOp .gtr 3 (.tmp 29) (.const (.int .i64 2147483647)) 3) 4)⟩, 
 ⟨(some 31), none, .pick (.t 28) (.k (.sc (.bool true))) (.t 30)⟩])
 (.cond (.t 31) (.seq (.reg [⟨(some 32), none, .ld (some 2) (.t 4)⟩, 
  ⟨none, none, .st 2 (.t 8) (.t 32)⟩, 
  ⟨(some 9), none, .mv (.k (.sc (.int .i64 2)))⟩])
  .ret)
 .skip))
 (.seq (.seq (.reg [⟨(some 33), none, .mv (.t 1)⟩, 
 ⟨(some 34), none, .sh 0 (.t 4)⟩, 
 ⟨(some 35), none, .ld none (.t 34)⟩, 
 ⟨(some 36), none, .bin .neq false (.t 33) (.t 35) (pu (.binOp .neq 3 (.tmp 33) (.tmp 35) 3) 4)⟩, 
 ⟨(some 37), none, .mv (.t 36)⟩, 
 ⟨(some 38), (some ((some 37), false)), .mv (.t 2)⟩, 
 ⟨(some 39), (some ((some 37), false)), .mv (.t 1)⟩, 
 ⟨(some 40), (some ((some 37), false)), .bin .leq false (.t 38) (.t 39) (pu (.binOp .leq 3 (.tmp 38) (.tmp 39) 3) 4)⟩, 
 ⟨(some 41), none, .pick (.t 37) (.k (.sc (.bool true))) (.t 40)⟩])
 (.cond (.t 41) (.seq (.reg [⟨(some 42), none, .ld (some 2) (.t 4)⟩, 
  ⟨none, none, .st 2 (.t 8) (.t 42)⟩, 
  ⟨(some 9), none, .mv (.k (.sc (.int .i64 11)))⟩])
  .ret)
 .skip))
 (.seq (.seq (.reg [⟨(some 43), none, .mv (.t 3)⟩, 
 ⟨(some 44), none, .len (.t 43) (pu (.call ⟨.builtin .len, #[(.tmp 43)], #[22]⟩) 3)⟩, 
 ⟨(some 45), none, .bin .gtr false (.t 44) (.k (.sc (.int .i64 128))) (pu (.binOp .gtr 3 (.tmp 44) (.const (.int .i64 128)) 3) 4)⟩])
 (.cond (.t 45) (.seq (.reg [⟨(some 46), none, .ld (some 2) (.t 4)⟩, 
  ⟨none, none, .st 2 (.t 8) (.t 46)⟩, 
  ⟨(some 9), none, .mv (.k (.sc (.int .i64 3)))⟩])
  .ret)
 .skip))
 (.seq (.reg [⟨(some 48), none, .sh 1 (.t 4)⟩, 
 ⟨(some 49), none, .ld none (.t 48)⟩, 
 ⟨(some 50), none, .mv (.t 3)⟩, 
 ⟨(some 51), none, .call 35 [(.t 49), (.t 50)]⟩, 
 ⟨(some 47), none, .mv (.t 51)⟩, 
 ⟨(some 52), none, .ext (.t 47) 0⟩, 
 ⟨(some 53), none, .ext (.t 47) 1⟩, 
 ⟨(some 11), none, .mv (.t 52)⟩, 
 ⟨(some 12), none, .mv (.t 53)⟩])
 (.seq (.seq (.reg [⟨(some 54), none, .mv (.t 12)⟩, 
 ⟨(some 55), none, .bin .neq false (.t 54) (.k (.sc (.int .i64 0))) (pu (.binOp .neq 27 (.tmp 54) (.const (.int .i64 0)) 27) 4)⟩])
 (.cond (.t 55) (.seq (.reg [⟨(some 56), none, .ld (some 2) (.t 4)⟩, 
  ⟨(some 57), none, .mv (.t 12)⟩, 
  ⟨none, none, .st 2 (.t 8) (.t 56)⟩, 
  ⟨(some 9), none, .mv (.t 57)⟩])
  .ret)
 .skip))
 (.seq (.reg [⟨(some 13), none, .mv (.k (.sc (.slice none 0 0)))⟩])
 (.seq (.seq (.reg [⟨(some 58), none, .sh 1 (.t 4)⟩, 
 ⟨(some 59), none, .ld none (.t 58)⟩, 
 ⟨(some 60), none, .len (.t 59) (pu (.call ⟨.builtin .len, #[(.tmp 59)], #[22]⟩) 3)⟩, 
 ⟨(some 61), none, .mv (.k (.sc (.int .i64 0)))⟩])
 (.block 0 (.loop (.seq (.reg [⟨(some 62), none, .bin .lss false (.t 61) (.t 60) (pu (.binOp .lss 3 (.tmp 61) (.tmp 60) 3) 0)⟩])
  (.seq (.cond (.t 62) .skip
  (.exit 0))
  (.seq (.block 1 (.seq (.reg [⟨(some 63), none, .ixs 6 (.t 59) (.t 61)⟩, 
  ⟨(some 64), none, .ld (some 6) (.t 63)⟩, 
  ⟨(some 15), none, .al (.agg [(.sc (.string ⟨#[]⟩)), (.sc (.string ⟨#[]⟩)), (.sc (.string ⟨#[]⟩)), (.sc (.int .i64 0)), (.sc (.int .i64 0)), (.sc (.int .i64 0))]) 6⟩, 
  ⟨none, none, .st 6 (.t 15) (.t 64)⟩])
  (.seq (.reg [⟨(some 66), none, .mv (.t 11)⟩, 
  ⟨(some 67), none, .sh 0 (.t 15)⟩, 
  ⟨(some 68), none, .ld none (.t 67)⟩, 
  ⟨(some 69), none, .call 30 [(.t 68)]⟩, 
  ⟨(some 70), none, .mlk false [.s] (.agg [(.sc (.string ⟨#[]⟩)), (.sc (.string ⟨#[]⟩)), (.sc (.string ⟨#[]⟩)), (.sc (.int .i64 0)), (.sc (.int .i64 0)), (.sc (.int .i64 0))]) true (.t 66) (.t 69) (pu (.lookup 56 (.tmp 66) (.tmp 69) true) 59)⟩, 
  ⟨(some 65), none, .mv (.t 70)⟩, 
  ⟨(some 71), none, .ext (.t 65) 0⟩, 
  ⟨(some 72), none, .ext (.t 65) 1⟩, 
  ⟨(some 16), none, .al (.agg [(.sc (.string ⟨#[]⟩)), (.sc (.string ⟨#[]⟩)), (.sc (.string ⟨#[]⟩)), (.sc (.int .i64 0)), (.sc (.int .i64 0)), (.sc (.int .i64 0))]) 6⟩, 
  ⟨none, none, .st 6 (.t 16) (.t 71)⟩, 
  ⟨(some 17), none, .mv (.t 72)⟩])
  (.seq (.reg [⟨(some 73), none, .mv (.t 17)⟩, 
  ⟨(some 74), none, .un .not (.t 73) (pu (.unOp .not 4 (.tmp 73)) 4)⟩])
  (.cond (.t 74) (.reg [⟨(some 75), none, .mv (.t 13)⟩, 
   ⟨(some 76), none, .ld (some 6) (.t 15)⟩, 
   ⟨(some 77), none, .bsl 6 1 true [(.sc (.string ⟨#[]⟩)), (.sc (.string ⟨#[]⟩)), (.sc (.string ⟨#[]⟩)), (.sc (.int .i64 0)), (.sc (.int .i64 0)), (.sc (.int .i64 0))] [(0, 6, (.t 76))]⟩, 
   ⟨(some 78), none, .app 6 72 (.t 75) (.t 77)⟩, 
   ⟨(some 13), none, .mv (.t 78)⟩])
  .skip)))))
  (.reg [⟨(some 79), none, .bin .add false (.t 61) (.k (.sc (.int .i64 1))) (pu (.binOp .add 3 (.tmp 61) (.const (.int .i64 1)) 3) 3)⟩, 
  ⟨(some 61), none, .mv (.t 79)⟩])))))))
 (.seq (.seq (.reg [⟨(some 80), none, .mv (.t 3)⟩, 
 ⟨(some 81), none, .len (.t 80) (pu (.call ⟨.builtin .len, #[(.tmp 80)], #[22]⟩) 3)⟩, 
 ⟨(some 82), none, .mv (.k (.sc (.int .i64 0)))⟩])
 (.block 2 (.loop (.seq (.reg [⟨(some 83), none, .bin .lss false (.t 82) (.t 81) (pu (.binOp .lss 3 (.tmp 82) (.tmp 81) 3) 0)⟩])
  (.seq (.cond (.t 83) .skip
  (.exit 2))
  (.seq (.block 3 (.seq (.reg [⟨(some 84), none, .ixs 6 (.t 80) (.t 82)⟩, 
  ⟨(some 85), none, .ld (some 6) (.t 84)⟩, 
  ⟨(some 19), none, .al (.agg [(.sc (.string ⟨#[]⟩)), (.sc (.string ⟨#[]⟩)), (.sc (.string ⟨#[]⟩)), (.sc (.int .i64 0)), (.sc (.int .i64 0)), (.sc (.int .i64 0))]) 6⟩, 
  ⟨none, none, .st 6 (.t 19) (.t 85)⟩])
  (.seq (.reg [⟨(some 86), none, .sh 4 (.t 19)⟩, 
  ⟨(some 87), none, .ld none (.t 86)⟩, 
  ⟨(some 88), none, .bin .neq false (.t 87) (.k (.sc (.int .i64 0))) (pu (.binOp .neq 3 (.tmp 87) (.const (.int .i64 0)) 3) 4)⟩])
  (.cond (.t 88) (.reg [⟨(some 89), none, .mv (.t 13)⟩, 
   ⟨(some 90), none, .ld (some 6) (.t 19)⟩, 
   ⟨(some 91), none, .bsl 6 1 true [(.sc (.string ⟨#[]⟩)), (.sc (.string ⟨#[]⟩)), (.sc (.string ⟨#[]⟩)), (.sc (.int .i64 0)), (.sc (.int .i64 0)), (.sc (.int .i64 0))] [(0, 6, (.t 90))]⟩, 
   ⟨(some 92), none, .app 6 72 (.t 89) (.t 91)⟩, 
   ⟨(some 13), none, .mv (.t 92)⟩])
  .skip))))
  (.reg [⟨(some 93), none, .bin .add false (.t 82) (.k (.sc (.int .i64 1))) (pu (.binOp .add 3 (.tmp 82) (.const (.int .i64 1)) 3) 3)⟩, 
  ⟨(some 82), none, .mv (.t 93)⟩])))))))
 (.seq (.seq (.reg [⟨(some 94), none, .mv (.t 13)⟩, 
 ⟨(some 95), none, .len (.t 94) (pu (.call ⟨.builtin .len, #[(.tmp 94)], #[22]⟩) 3)⟩, 
 ⟨(some 96), none, .bin .gtr false (.t 95) (.k (.sc (.int .i64 128))) (pu (.binOp .gtr 3 (.tmp 95) (.const (.int .i64 128)) 3) 4)⟩])
 (.cond (.t 96) (.seq (.reg [⟨(some 97), none, .ld (some 2) (.t 4)⟩, 
  ⟨none, none, .st 2 (.t 8) (.t 97)⟩, 
  ⟨(some 9), none, .mv (.k (.sc (.int .i64 3)))⟩])
  .ret)
 .skip))
 (.seq (.reg [⟨(some 98), none, .mv (.t 13)⟩, 
 ⟨(some 99), none, .call 32 [(.t 98), (.k (.sc (.func (.func 26) #[] #[])))]⟩])
 (.seq (.reg [⟨(some 100), none, .mv (.t 2)⟩, 
 ⟨(some 101), none, .mv (.t 13)⟩, 
 ⟨(some 102), none, .bld [(.sc (.int .i64 0)), (.sc (.slice none 0 0))] [(0, 1, (.t 100)), (1, 1, (.t 101))]⟩, 
 ⟨none, none, .st 2 (.t 8) (.t 102)⟩, 
 ⟨(some 9), none, .mv (.k (.sc (.int .i64 0)))⟩])
 .ret)))))))))))))
def k17 : List Nat := [0, 1, 2, 3, 4, 8, 9, 10, 11, 12, 13, 15, 17, 19, 23, 31, 41, 45, 55, 59, 60, 61, 62, 74, 80, 81, 82, 83, 88, 96]
theorem ic17 : factsI Try.prog 17 = some (103, [.cell 8 24, .tmp 9], c17) := by kernel_rfl

-- chargenet/chargenetref22.Change (132 slots)
def c18 : IC :=
 (.seq (.reg [⟨(some 4), none, .bx (.t 0)⟩, 
 ⟨(some 8), none, .al (.agg [(.sc (.int .i64 0)), (.sc (.slice none 0 0))]) 2⟩, 
 ⟨(some 9), none, .mv (.k (.sc (.int .i64 0)))⟩])
 (.seq (.seq (.reg [⟨(some 17), none, .ld (some 2) (.t 4)⟩, 
 ⟨(some 18), none, .call 13 [(.t 17)]⟩, 
 ⟨(some 10), none, .mv (.t 18)⟩])
 (.seq (.reg [⟨(some 19), none, .mv (.t 10)⟩, 
 ⟨(some 20), none, .bin .neq false (.t 19) (.k (.sc (.int .i64 0))) (pu (.binOp .neq 27 (.tmp 19) (.const (.int .i64 0)) 27) 4)⟩])
 (.cond (.t 20) (.seq (.reg [⟨(some 21), none, .ld (some 2) (.t 4)⟩, 
  ⟨(some 22), none, .mv (.t 10)⟩, 
  ⟨none, none, .st 2 (.t 8) (.t 21)⟩, 
  ⟨(some 9), none, .mv (.t 22)⟩])
  .ret)
 .skip)))
 (.seq (.seq (.reg [⟨(some 23), none, .mv (.t 2)⟩, 
 ⟨(some 24), none, .call 27 [(.t 23), (.k (.sc (.int .i64 1)))]⟩, 
 ⟨(some 25), none, .un .not (.t 24) (pu (.unOp .not 4 (.tmp 24)) 4)⟩])
 (.cond (.t 25) (.seq (.reg [⟨(some 26), none, .ld (some 2) (.t 4)⟩, 
  ⟨none, none, .st 2 (.t 8) (.t 26)⟩, 
  ⟨(some 9), none, .mv (.k (.sc (.int .i64 2)))⟩])
  .ret)
 .skip))
 (.seq (.seq (.reg [⟨(some 27), none, .mv (.t 1)⟩, 
 ⟨(some 28), none, .sh 0 (.t 4)⟩, 
 ⟨(some 29), none, .ld none (.t 28)⟩, 
 ⟨(some 30), none, .bin .neq false (.t 27) (.t 29) (pu (.binOp .neq 3 (.tmp 27) (.tmp 29) 3) 4)⟩, 
 ⟨(some 31), none, .mv (.t 30)⟩, 
 ⟨(some 32), (some ((some 31), false)), .mv (.t 2)⟩, 
 ⟨(some 33), (some ((some 31), false)), .mv (.t 1)⟩, 
 ⟨(some 34), (some ((some 31), false)), .bin .leq false (.t 32) (.t 33) (pu (.binOp .leq 3 (.tmp 32) (.tmp 33) 3) 4)⟩, 
 ⟨(some 35), none, .pick (.t 31) (.k (.sc (.bool true))) (.t 34)⟩])
 (.cond (.t 35) (.seq (.reg [⟨(some 36), none, .ld (some 2) (.t 4)⟩, 
  ⟨none, none, .st 2 (.t 8) (.t 36)⟩, 
  ⟨(some 9), none, .mv (.k (.sc (.int .i64 11)))⟩])
  .ret)
 .skip))
 (.seq (.seq (.reg [⟨(some 37), none, .mv (.t 3)⟩, 
 ⟨(some 38), none, .len (.t 37) (pu (.call ⟨.builtin .len, #[(.tmp 37)], #[22]⟩) 3)⟩, 
 ⟨(some 39), none, .bin .gtr false (.t 38) (.k (.sc (.int .i64 128))) (pu (.binOp .gtr 3 (.tmp 38) (.const (.int .i64 128)) 3) 4)⟩])
 (.cond (.t 39) (.seq (.reg [⟨(some 40), none, .ld (some 2) (.t 4)⟩, 
  ⟨none, none, .st 2 (.t 8) (.t 40)⟩, 
  ⟨(some 9), none, .mv (.k (.sc (.int .i64 3)))⟩])
  .ret)
 .skip))
 (.seq (.seq (.reg [⟨(some 11), none, .mv (.k (.sc (.int .i64 0)))⟩])
 (.block 0 (.loop (.seq (.seq (.reg [⟨(some 41), none, .mv (.t 11)⟩, 
  ⟨(some 42), none, .mv (.t 3)⟩, 
  ⟨(some 43), none, .len (.t 42) (pu (.call ⟨.builtin .len, #[(.tmp 42)], #[22]⟩) 3)⟩, 
  ⟨(some 44), none, .bin .lss false (.t 41) (.t 43) (pu (.binOp .lss 3 (.tmp 41) (.tmp 43) 3) 4)⟩])
  (.cond (.t 44) .skip
  (.exit 0)))
  (.seq (.block 1 (.seq (.seq (.reg [⟨(some 47), none, .mv (.t 3)⟩, 
  ⟨(some 48), none, .mv (.t 11)⟩, 
  ⟨(some 49), none, .ixs 6 (.t 47) (.t 48)⟩, 
  ⟨(some 50), none, .ld (some 6) (.t 49)⟩, 
  ⟨(some 51), none, .call 36 [(.t 50)]⟩, 
  ⟨(some 12), none, .mv (.t 51)⟩])
  (.seq (.reg [⟨(some 52), none, .mv (.t 12)⟩, 
  ⟨(some 53), none, .bin .neq false (.t 52) (.k (.sc (.int .i64 0))) (pu (.binOp .neq 27 (.tmp 52) (.const (.int .i64 0)) 27) 4)⟩])
  (.cond (.t 53) (.seq (.reg [⟨(some 54), none, .ld (some 2) (.t 4)⟩, 
   ⟨(some 55), none, .mv (.t 12)⟩, 
   ⟨none, none, .st 2 (.t 8) (.t 54)⟩, 
   ⟨(some 9), none, .mv (.t 55)⟩])
   .ret)
  .skip)))
  (.seq (.reg [⟨(some 56), none, .mv (.t 3)⟩, 
  ⟨(some 57), none, .mv (.t 11)⟩, 
  ⟨(some 58), none, .ixs 6 (.t 56) (.t 57)⟩, 
  ⟨(some 59), none, .sh 0 (.t 58)⟩, 
  ⟨(some 60), none, .ld none (.t 59)⟩, 
  ⟨(some 61), none, .call 29 [(.t 60)]⟩, 
  ⟨(some 13), none, .mv (.t 61)⟩])
  (.seq (.seq (.reg [⟨(some 62), none, .mv (.t 3)⟩, 
  ⟨(some 63), none, .mv (.t 11)⟩, 
  ⟨(some 64), none, .sl 6 (.t 62) none (some (.t 63)) none (pu (.slice 22 (.tmp 62) none (some (.tmp 63)) none) 22)⟩, 
  ⟨(some 65), none, .mv (.t 13)⟩, 
  ⟨(some 66), none, .call 33 [(.t 64), (.t 65)]⟩, 
  ⟨(some 67), none, .bin .geq false (.t 66) (.k (.sc (.int .i64 0))) (pu (.binOp .geq 3 (.tmp 66) (.const (.int .i64 0)) 3) 4)⟩])
  (.cond (.t 67) (.seq (.reg [⟨(some 68), none, .ld (some 2) (.t 4)⟩, 
   ⟨none, none, .st 2 (.t 8) (.t 68)⟩, 
   ⟨(some 9), none, .mv (.k (.sc (.int .i64 9)))⟩])
   .ret)
  .skip))
  (.seq (.reg [⟨(some 69), none, .mv (.t 3)⟩, 
  ⟨(some 70), none, .mv (.t 11)⟩, 
  ⟨(some 71), none, .ixs 6 (.t 69) (.t 70)⟩, 
  ⟨(some 72), none, .sh 4 (.t 71)⟩, 
  ⟨(some 73), none, .ld none (.t 72)⟩, 
  ⟨(some 74), none, .bin .eql false (.t 73) (.k (.sc (.int .i64 0))) (pu (.binOp .eql 3 (.tmp 73) (.const (.int .i64 0)) 3) 4)⟩, 
  ⟨(some 75), none, .mv (.t 74)⟩, 
  ⟨(some 76), (some ((some 75), true)), .sh 1 (.t 4)⟩, 
  ⟨(some 77), (some ((some 75), true)), .ld none (.t 76)⟩, 
  ⟨(some 78), (some ((some 75), true)), .mv (.t 13)⟩, 
  ⟨(some 79), (some ((some 75), true)), .call 33 [(.t 77), (.t 78)]⟩, 
  ⟨(some 80), (some ((some 75), true)), .bin .lss false (.t 79) (.k (.sc (.int .i64 0))) (pu (.binOp .lss 3 (.tmp 79) (.const (.int .i64 0)) 3) 4)⟩, 
  ⟨(some 81), none, .pick (.t 75) (.t 80) (.k (.sc (.bool false)))⟩])
  (.cond (.t 81) (.seq (.reg [⟨(some 82), none, .ld (some 2) (.t 4)⟩, 
   ⟨none, none, .st 2 (.t 8) (.t 82)⟩, 
   ⟨(some 9), none, .mv (.k (.sc (.int .i64 8)))⟩])
   .ret)
  .skip))))))
  (.reg [⟨(some 45), none, .mv (.t 11)⟩, 
  ⟨(some 46), none, .bin .add false (.t 45) (.k (.sc (.int .i64 1))) (pu (.binOp .add 3 (.tmp 45) (.const (.int .i64 1)) 3) 3)⟩, 
  ⟨(some 11), none, .mv (.t 46)⟩]))))))
 (.seq (.reg [⟨(some 14), none, .mv (.k (.sc (.slice none 0 0)))⟩])
 (.seq (.seq (.reg [⟨(some 15), none, .mv (.k (.sc (.int .i64 0)))⟩])
 (.block 2 (.loop (.seq (.seq (.reg [⟨(some 83), none, .mv (.t 15)⟩, 
  ⟨(some 84), none, .sh 1 (.t 4)⟩, 
  ⟨(some 85), none, .ld none (.t 84)⟩, 
  ⟨(some 86), none, .len (.t 85) (pu (.call ⟨.builtin .len, #[(.tmp 85)], #[22]⟩) 3)⟩, 
  ⟨(some 87), none, .bin .lss false (.t 83) (.t 86) (pu (.binOp .lss 3 (.tmp 83) (.tmp 86) 3) 4)⟩])
  (.cond (.t 87) .skip
  (.exit 2)))
  (.seq (.block 3 (.seq (.reg [⟨(some 90), none, .mv (.t 3)⟩, 
  ⟨(some 91), none, .sh 1 (.t 4)⟩, 
  ⟨(some 92), none, .ld none (.t 91)⟩, 
  ⟨(some 93), none, .mv (.t 15)⟩, 
  ⟨(some 94), none, .ixs 6 (.t 92) (.t 93)⟩, 
  ⟨(some 95), none, .sh 0 (.t 94)⟩, 
  ⟨(some 96), none, .ld none (.t 95)⟩, 
  ⟨(some 97), none, .call 29 [(.t 96)]⟩, 
  ⟨(some 98), none, .call 33 [(.t 90), (.t 97)]⟩, 
  ⟨(some 99), none, .bin .lss false (.t 98) (.k (.sc (.int .i64 0))) (pu (.binOp .lss 3 (.tmp 98) (.const (.int .i64 0)) 3) 4)⟩])
  (.cond (.t 99) (.reg [⟨(some 100), none, .mv (.t 14)⟩, 
   ⟨(some 101), none, .sh 1 (.t 4)⟩, 
   ⟨(some 102), none, .ld none (.t 101)⟩, 
   ⟨(some 103), none, .mv (.t 15)⟩, 
   ⟨(some 104), none, .ixs 6 (.t 102) (.t 103)⟩, 
   ⟨(some 105), none, .ld (some 6) (.t 104)⟩, 
   ⟨(some 106), none, .call 34 [(.t 100), (.t 105)]⟩, 
   ⟨(some 14), none, .mv (.t 106)⟩])
  .skip)))
  (.reg [⟨(some 88), none, .mv (.t 15)⟩, 
  ⟨(some 89), none, .bin .add false (.t 88) (.k (.sc (.int .i64 1))) (pu (.binOp .add 3 (.tmp 88) (.const (.int .i64 1)) 3) 3)⟩, 
  ⟨(some 15), none, .mv (.t 89)⟩]))))))
 (.seq (.seq (.reg [⟨(some 16), none, .mv (.k (.sc (.int .i64 0)))⟩])
 (.block 4 (.loop (.seq (.seq (.reg [⟨(some 107), none, .mv (.t 16)⟩, 
  ⟨(some 108), none, .mv (.t 3)⟩, 
  ⟨(some 109), none, .len (.t 108) (pu (.call ⟨.builtin .len, #[(.tmp 108)], #[22]⟩) 3)⟩, 
  ⟨(some 110), none, .bin .lss false (.t 107) (.t 109) (pu (.binOp .lss 3 (.tmp 107) (.tmp 109) 3) 4)⟩])
  (.cond (.t 110) .skip
  (.exit 4)))
  (.seq (.block 5 (.seq (.reg [⟨(some 113), none, .mv (.t 3)⟩, 
  ⟨(some 114), none, .mv (.t 16)⟩, 
  ⟨(some 115), none, .ixs 6 (.t 113) (.t 114)⟩, 
  ⟨(some 116), none, .sh 4 (.t 115)⟩, 
  ⟨(some 117), none, .ld none (.t 116)⟩, 
  ⟨(some 118), none, .bin .neq false (.t 117) (.k (.sc (.int .i64 0))) (pu (.binOp .neq 3 (.tmp 117) (.const (.int .i64 0)) 3) 4)⟩])
  (.cond (.t 118) (.reg [⟨(some 119), none, .mv (.t 14)⟩, 
   ⟨(some 120), none, .mv (.t 3)⟩, 
   ⟨(some 121), none, .mv (.t 16)⟩, 
   ⟨(some 122), none, .ixs 6 (.t 120) (.t 121)⟩, 
   ⟨(some 123), none, .ld (some 6) (.t 122)⟩, 
   ⟨(some 124), none, .call 34 [(.t 119), (.t 123)]⟩, 
   ⟨(some 14), none, .mv (.t 124)⟩])
  .skip)))
  (.reg [⟨(some 111), none, .mv (.t 16)⟩, 
  ⟨(some 112), none, .bin .add false (.t 111) (.k (.sc (.int .i64 1))) (pu (.binOp .add 3 (.tmp 111) (.const (.int .i64 1)) 3) 3)⟩, 
  ⟨(some 16), none, .mv (.t 112)⟩]))))))
 (.seq (.seq (.reg [⟨(some 125), none, .mv (.t 14)⟩, 
 ⟨(some 126), none, .len (.t 125) (pu (.call ⟨.builtin .len, #[(.tmp 125)], #[22]⟩) 3)⟩, 
 ⟨(some 127), none, .bin .gtr false (.t 126) (.k (.sc (.int .i64 128))) (pu (.binOp .gtr 3 (.tmp 126) (.const (.int .i64 128)) 3) 4)⟩])
 (.cond (.t 127) (.seq (.reg [⟨(some 128), none, .ld (some 2) (.t 4)⟩, 
  ⟨none, none, .st 2 (.t 8) (.t 128)⟩, 
  ⟨(some 9), none, .mv (.k (.sc (.int .i64 3)))⟩])
  .ret)
 .skip))
 (.seq (.reg [⟨(some 129), none, .mv (.t 2)⟩, 
 ⟨(some 130), none, .mv (.t 14)⟩, 
 ⟨(some 131), none, .bld [(.sc (.int .i64 0)), (.sc (.slice none 0 0))] [(0, 1, (.t 129)), (1, 1, (.t 130))]⟩, 
 ⟨none, none, .st 2 (.t 8) (.t 131)⟩, 
 ⟨(some 9), none, .mv (.k (.sc (.int .i64 0)))⟩])
 .ret)))))))))))
def k18 : List Nat := [0, 1, 2, 3, 4, 8, 9, 10, 11, 12, 13, 14, 15, 16, 20, 25, 35, 39, 44, 53, 67, 81, 87, 99, 110, 118, 127]
theorem ic18 : factsI Try.prog 18 = some (132, [.cell 8 24, .tmp 9], c18) := by kernel_rfl

-- chargenet/list.Diff (93 slots)
def c19 : IC :=
 (.seq (.reg [⟨(some 2), none, .bx (.t 0)⟩, 
 ⟨(some 3), none, .bx (.t 1)⟩, 
 ⟨(some 4), none, .mv (.k (.sc (.slice none 0 0)))⟩, 
 ⟨(some 5), none, .mv (.k (.sc (.int .i64 0)))⟩])
 (.seq (.seq (.reg [⟨(some 19), none, .ld (some 2) (.t 2)⟩, 
 ⟨(some 20), none, .call 12 [(.t 19)]⟩, 
 ⟨(some 6), none, .mv (.t 20)⟩])
 (.seq (.reg [⟨(some 21), none, .mv (.t 6)⟩, 
 ⟨(some 22), none, .bin .neq false (.t 21) (.k (.sc (.int .i64 0))) (pu (.binOp .neq 27 (.tmp 21) (.const (.int .i64 0)) 27) 4)⟩])
 (.cond (.t 22) (.seq (.reg [⟨(some 23), none, .mv (.t 6)⟩, 
  ⟨(some 4), none, .mv (.k (.sc (.slice none 0 0)))⟩, 
  ⟨(some 5), none, .mv (.t 23)⟩])
  .ret)
 .skip)))
 (.seq (.seq (.reg [⟨(some 24), none, .ld (some 2) (.t 3)⟩, 
 ⟨(some 25), none, .call 12 [(.t 24)]⟩, 
 ⟨(some 7), none, .mv (.t 25)⟩])
 (.seq (.reg [⟨(some 26), none, .mv (.t 7)⟩, 
 ⟨(some 27), none, .bin .neq false (.t 26) (.k (.sc (.int .i64 0))) (pu (.binOp .neq 27 (.tmp 26) (.const (.int .i64 0)) 27) 4)⟩])
 (.cond (.t 27) (.seq (.reg [⟨(some 28), none, .mv (.t 7)⟩, 
  ⟨(some 4), none, .mv (.k (.sc (.slice none 0 0)))⟩, 
  ⟨(some 5), none, .mv (.t 28)⟩])
  .ret)
 .skip)))
 (.seq (.seq (.reg [⟨(some 29), none, .sh 0 (.t 3)⟩, 
 ⟨(some 30), none, .ld none (.t 29)⟩, 
 ⟨(some 31), none, .sh 0 (.t 2)⟩, 
 ⟨(some 32), none, .ld none (.t 31)⟩, 
 ⟨(some 33), none, .bin .leq false (.t 30) (.t 32) (pu (.binOp .leq 3 (.tmp 30) (.tmp 32) 3) 4)⟩])
 (.cond (.t 33) (.seq (.reg [⟨(some 4), none, .mv (.k (.sc (.slice none 0 0)))⟩, 
  ⟨(some 5), none, .mv (.k (.sc (.int .i64 11)))⟩])
  .ret)
 .skip))
 (.seq (.reg [⟨(some 34), none, .mmk none⟩, 
 ⟨(some 8), none, .mv (.t 34)⟩])
 (.seq (.seq (.reg [⟨(some 35), none, .sh 1 (.t 2)⟩, 
 ⟨(some 36), none, .ld none (.t 35)⟩, 
 ⟨(some 37), none, .len (.t 36) (pu (.call ⟨.builtin .len, #[(.tmp 36)], #[22]⟩) 3)⟩, 
 ⟨(some 38), none, .mv (.k (.sc (.int .i64 0)))⟩])
 (.block 0 (.loop (.seq (.reg [⟨(some 39), none, .bin .lss false (.t 38) (.t 37) (pu (.binOp .lss 3 (.tmp 38) (.tmp 37) 3) 0)⟩])
  (.seq (.cond (.t 39) .skip
  (.exit 0))
  (.seq (.block 1 (.seq (.reg [⟨(some 40), none, .ixs 6 (.t 36) (.t 38)⟩, 
  ⟨(some 41), none, .ld (some 6) (.t 40)⟩, 
  ⟨(some 10), none, .al (.agg [(.sc (.string ⟨#[]⟩)), (.sc (.string ⟨#[]⟩)), (.sc (.string ⟨#[]⟩)), (.sc (.int .i64 0)), (.sc (.int .i64 0)), (.sc (.int .i64 0))]) 6⟩, 
  ⟨none, none, .st 6 (.t 10) (.t 41)⟩])
  (.drw [0, 0, 2, 6, 0, 31] [⟨(some 42), none, .mv (.t 8)⟩, 
  ⟨(some 43), none, .sh 0 (.t 10)⟩, 
  ⟨(some 44), none, .ld none (.t 43)⟩, 
  ⟨(some 45), none, .call 30 [(.t 44)]⟩, 
  ⟨(some 46), none, .ld (some 6) (.t 10)⟩, 
  ⟨none, none, .mpt false [.s] (.t 42) (.t 45) (.t 46)⟩])))
  (.reg [⟨(some 47), none, .bin .add false (.t 38) (.k (.sc (.int .i64 1))) (pu (.binOp .add 3 (.tmp 38) (.const (.int .i64 1)) 3) 3)⟩, 
  ⟨(some 38), none, .mv (.t 47)⟩])))))))
 (.seq (.reg [⟨(some 11), none, .mv (.k (.sc (.slice none 0 0)))⟩])
 (.seq (.seq (.reg [⟨(some 48), none, .sh 1 (.t 3)⟩, 
 ⟨(some 49), none, .ld none (.t 48)⟩, 
 ⟨(some 50), none, .len (.t 49) (pu (.call ⟨.builtin .len, #[(.tmp 49)], #[22]⟩) 3)⟩, 
 ⟨(some 51), none, .mv (.k (.sc (.int .i64 0)))⟩])
 (.block 2 (.loop (.seq (.reg [⟨(some 52), none, .bin .lss false (.t 51) (.t 50) (pu (.binOp .lss 3 (.tmp 51) (.tmp 50) 3) 0)⟩])
  (.seq (.cond (.t 52) .skip
  (.exit 2))
  (.seq (.block 3 (.seq (.reg [⟨(some 53), none, .ixs 6 (.t 49) (.t 51)⟩, 
  ⟨(some 54), none, .ld (some 6) (.t 53)⟩, 
  ⟨(some 13), none, .al (.agg [(.sc (.string ⟨#[]⟩)), (.sc (.string ⟨#[]⟩)), (.sc (.string ⟨#[]⟩)), (.sc (.int .i64 0)), (.sc (.int .i64 0)), (.sc (.int .i64 0))]) 6⟩, 
  ⟨none, none, .st 6 (.t 13) (.t 54)⟩])
  (.seq (.reg [⟨(some 55), none, .sh 0 (.t 13)⟩, 
  ⟨(some 56), none, .ld none (.t 55)⟩, 
  ⟨(some 57), none, .call 30 [(.t 56)]⟩, 
  ⟨(some 14), none, .mv (.t 57)⟩])
  (.seq (.seq (.reg [⟨(some 59), none, .mv (.t 8)⟩, 
  ⟨(some 60), none, .mv (.t 14)⟩, 
  ⟨(some 61), none, .mlk false [.s] (.agg [(.sc (.string ⟨#[]⟩)), (.sc (.string ⟨#[]⟩)), (.sc (.string ⟨#[]⟩)), (.sc (.int .i64 0)), (.sc (.int .i64 0)), (.sc (.int .i64 0))]) true (.t 59) (.t 60) (pu (.lookup 56 (.tmp 59) (.tmp 60) true) 59)⟩, 
  ⟨(some 58), none, .mv (.t 61)⟩, 
  ⟨(some 62), none, .ext (.t 58) 0⟩, 
  ⟨(some 63), none, .ext (.t 58) 1⟩, 
  ⟨(some 15), none, .al (.agg [(.sc (.string ⟨#[]⟩)), (.sc (.string ⟨#[]⟩)), (.sc (.string ⟨#[]⟩)), (.sc (.int .i64 0)), (.sc (.int .i64 0)), (.sc (.int .i64 0))]) 6⟩, 
  ⟨none, none, .st 6 (.t 15) (.t 62)⟩, 
  ⟨(some 16), none, .mv (.t 63)⟩])
  (.seq (.reg [⟨(some 64), none, .mv (.t 16)⟩, 
  ⟨(some 65), none, .un .not (.t 64) (pu (.unOp .not 4 (.tmp 64)) 4)⟩, 
  ⟨(some 66), none, .mv (.t 65)⟩, 
  ⟨(some 67), (some ((some 66), false)), .ld (some 6) (.t 15)⟩, 
  ⟨(some 68), (some ((some 66), false)), .ld (some 6) (.t 13)⟩, 
  ⟨(some 69), (some ((some 66), false)), .bin .neq false (.t 67) (.t 68) (pu (.binOp .neq 43 (.tmp 67) (.tmp 68) 43) 4)⟩, 
  ⟨(some 70), none, .pick (.t 66) (.k (.sc (.bool true))) (.t 69)⟩])
  (.cond (.t 70) (.reg [⟨(some 71), none, .mv (.t 11)⟩, 
   ⟨(some 72), none, .ld (some 6) (.t 13)⟩, 
   ⟨(some 73), none, .bsl 6 1 true [(.sc (.string ⟨#[]⟩)), (.sc (.string ⟨#[]⟩)), (.sc (.string ⟨#[]⟩)), (.sc (.int .i64 0)), (.sc (.int .i64 0)), (.sc (.int .i64 0))] [(0, 6, (.t 72))]⟩, 
   ⟨(some 74), none, .app 6 72 (.t 71) (.t 73)⟩, 
   ⟨(some 11), none, .mv (.t 74)⟩])
  .skip)))
  (.reg [⟨(some 75), none, .mv (.t 8)⟩, 
  ⟨(some 76), none, .mv (.t 14)⟩, 
  ⟨none, none, .mdl false [.s] (.t 75) (.t 76) (pu (.call ⟨.builtin .delete, #[(.tmp 75), (.tmp 76)], #[56, 9]⟩) 0)⟩])))))
  (.reg [⟨(some 77), none, .bin .add false (.t 51) (.k (.sc (.int .i64 1))) (pu (.binOp .add 3 (.tmp 51) (.const (.int .i64 1)) 3) 3)⟩, 
  ⟨(some 51), none, .mv (.t 77)⟩])))))))
 (.seq (.seq (.reg [⟨(some 78), none, .mv (.t 8)⟩, 
 ⟨(some 79), none, .opx (pu (.range 56 (.tmp 78)) 0)⟩])
 (.block 4 (.loop (.seq (.reg [⟨(some 80), none, .opx (pu (.next (.tmp 79) false) 0)⟩, 
  ⟨(some 81), none, .ext (.t 80) 0⟩])
  (.seq (.cond (.t 81) .skip
  (.exit 4))
  (.block 5 (.seq (.reg [⟨(some 82), none, .pur (pu (.entry (.tmp 79)) 0)⟩, 
  ⟨(some 83), none, .ext (.t 82) 1⟩, 
  ⟨(some 18), none, .al (.agg [(.sc (.string ⟨#[]⟩)), (.sc (.string ⟨#[]⟩)), (.sc (.string ⟨#[]⟩)), (.sc (.int .i64 0)), (.sc (.int .i64 0)), (.sc (.int .i64 0))]) 6⟩, 
  ⟨none, none, .st 6 (.t 18) (.t 83)⟩])
  (.reg [⟨(some 84), none, .mv (.t 11)⟩, 
  ⟨(some 85), none, .sh 0 (.t 18)⟩, 
  ⟨(some 86), none, .ld none (.t 85)⟩, 
  ⟨(some 87), none, .bld [(.sc (.string ⟨#[]⟩)), (.sc (.string ⟨#[]⟩)), (.sc (.string ⟨#[]⟩)), (.sc (.int .i64 0)), (.sc (.int .i64 0)), (.sc (.int .i64 0))] [(0, 1, (.t 86))]⟩, 
  ⟨(some 88), none, .bsl 6 1 true [(.sc (.string ⟨#[]⟩)), (.sc (.string ⟨#[]⟩)), (.sc (.string ⟨#[]⟩)), (.sc (.int .i64 0)), (.sc (.int .i64 0)), (.sc (.int .i64 0))] [(0, 6, (.t 87))]⟩, 
  ⟨(some 89), none, .app 6 72 (.t 84) (.t 88)⟩, 
  ⟨(some 11), none, .mv (.t 89)⟩]))))))))
 (.seq (.reg [⟨(some 90), none, .mv (.t 11)⟩, 
 ⟨(some 91), none, .call 32 [(.t 90), (.k (.sc (.func (.func 26) #[] #[])))]⟩])
 (.seq (.reg [⟨(some 92), none, .mv (.t 11)⟩, 
 ⟨(some 4), none, .mv (.t 92)⟩, 
 ⟨(some 5), none, .mv (.k (.sc (.int .i64 0)))⟩])
 .ret)))))))))))
def k19 : List Nat := [0, 1, 2, 3, 4, 5, 6, 7, 8, 10, 11, 13, 14, 15, 16, 18, 22, 27, 33, 36, 37, 38, 39, 49, 50, 51, 52, 70, 79, 81]
theorem ic19 : factsI Try.prog 19 = some (93, [.tmp 4, .tmp 5], c19) := by kernel_rfl

-- chargenet/chargenetref22.Diff (94 slots)
def c20 : IC :=
 (.seq (.reg [⟨(some 2), none, .bx (.t 0)⟩, 
 ⟨(some 3), none, .bx (.t 1)⟩, 
 ⟨(some 4), none, .mv (.k (.sc (.slice none 0 0)))⟩, 
 ⟨(some 5), none, .mv (.k (.sc (.int .i64 0)))⟩])
 (.seq (.seq (.reg [⟨(some 12), none, .ld (some 2) (.t 2)⟩, 
 ⟨(some 13), none, .call 13 [(.t 12)]⟩, 
 ⟨(some 6), none, .mv (.t 13)⟩])
 (.seq (.reg [⟨(some 14), none, .mv (.t 6)⟩, 
 ⟨(some 15), none, .bin .neq false (.t 14) (.k (.sc (.int .i64 0))) (pu (.binOp .neq 27 (.tmp 14) (.const (.int .i64 0)) 27) 4)⟩])
 (.cond (.t 15) (.seq (.reg [⟨(some 16), none, .mv (.t 6)⟩, 
  ⟨(some 4), none, .mv (.k (.sc (.slice none 0 0)))⟩, 
  ⟨(some 5), none, .mv (.t 16)⟩])
  .ret)
 .skip)))
 (.seq (.seq (.reg [⟨(some 17), none, .ld (some 2) (.t 3)⟩, 
 ⟨(some 18), none, .call 13 [(.t 17)]⟩, 
 ⟨(some 7), none, .mv (.t 18)⟩])
 (.seq (.reg [⟨(some 19), none, .mv (.t 7)⟩, 
 ⟨(some 20), none, .bin .neq false (.t 19) (.k (.sc (.int .i64 0))) (pu (.binOp .neq 27 (.tmp 19) (.const (.int .i64 0)) 27) 4)⟩])
 (.cond (.t 20) (.seq (.reg [⟨(some 21), none, .mv (.t 7)⟩, 
  ⟨(some 4), none, .mv (.k (.sc (.slice none 0 0)))⟩, 
  ⟨(some 5), none, .mv (.t 21)⟩])
  .ret)
 .skip)))
 (.seq (.seq (.reg [⟨(some 22), none, .sh 0 (.t 3)⟩, 
 ⟨(some 23), none, .ld none (.t 22)⟩, 
 ⟨(some 24), none, .sh 0 (.t 2)⟩, 
 ⟨(some 25), none, .ld none (.t 24)⟩, 
 ⟨(some 26), none, .bin .leq false (.t 23) (.t 25) (pu (.binOp .leq 3 (.tmp 23) (.tmp 25) 3) 4)⟩])
 (.cond (.t 26) (.seq (.reg [⟨(some 4), none, .mv (.k (.sc (.slice none 0 0)))⟩, 
  ⟨(some 5), none, .mv (.k (.sc (.int .i64 11)))⟩])
  .ret)
 .skip))
 (.seq (.reg [⟨(some 8), none, .mv (.k (.sc (.slice none 0 0)))⟩])
 (.seq (.seq (.reg [⟨(some 9), none, .mv (.k (.sc (.int .i64 0)))⟩])
 (.block 0 (.loop (.seq (.seq (.reg [⟨(some 27), none, .mv (.t 9)⟩, 
  ⟨(some 28), none, .sh 1 (.t 3)⟩, 
  ⟨(some 29), none, .ld none (.t 28)⟩, 
  ⟨(some 30), none, .len (.t 29) (pu (.call ⟨.builtin .len, #[(.tmp 29)], #[22]⟩) 3)⟩, 
  ⟨(some 31), none, .bin .lss false (.t 27) (.t 30) (pu (.binOp .lss 3 (.tmp 27) (.tmp 30) 3) 4)⟩])
  (.cond (.t 31) .skip
  (.exit 0)))
  (.seq (.block 1 (.seq (.drw [0, 1, 0, 4, 0, 28, 60, 124, 252, 511, 1023] [⟨(some 34), none, .sh 1 (.t 2)⟩, 
  ⟨(some 35), none, .ld none (.t 34)⟩, 
  ⟨(some 36), none, .sh 1 (.t 3)⟩, 
  ⟨(some 37), none, .ld none (.t 36)⟩, 
  ⟨(some 38), none, .mv (.t 9)⟩, 
  ⟨(some 39), none, .ixs 6 (.t 37) (.t 38)⟩, 
  ⟨(some 40), none, .sh 0 (.t 39)⟩, 
  ⟨(some 41), none, .ld none (.t 40)⟩, 
  ⟨(some 42), none, .call 29 [(.t 41)]⟩, 
  ⟨(some 43), none, .call 33 [(.t 35), (.t 42)]⟩, 
  ⟨(some 10), none, .mv (.t 43)⟩])
  (.seq (.drw [0, 1, 3, 7, 15, 7, 63, 127, 7, 263, 7, 1799, 3847, 8191, 16383] [⟨(some 44), none, .mv (.t 10)⟩, 
  ⟨(some 45), none, .bin .lss false (.t 44) (.k (.sc (.int .i64 0))) (pu (.binOp .lss 3 (.tmp 44) (.const (.int .i64 0)) 3) 4)⟩, 
  ⟨(some 46), none, .mv (.t 45)⟩, 
  ⟨(some 47), (some ((some 46), false)), .sh 1 (.t 2)⟩, 
  ⟨(some 48), (some ((some 46), false)), .ld none (.t 47)⟩, 
  ⟨(some 49), (some ((some 46), false)), .mv (.t 10)⟩, 
  ⟨(some 50), (some ((some 46), false)), .ixs 6 (.t 48) (.t 49)⟩, 
  ⟨(some 51), (some ((some 46), false)), .ld (some 6) (.t 50)⟩, 
  ⟨(some 52), (some ((some 46), false)), .sh 1 (.t 3)⟩, 
  ⟨(some 53), (some ((some 46), false)), .ld none (.t 52)⟩, 
  ⟨(some 54), (some ((some 46), false)), .mv (.t 9)⟩, 
  ⟨(some 55), (some ((some 46), false)), .ixs 6 (.t 53) (.t 54)⟩, 
  ⟨(some 56), (some ((some 46), false)), .ld (some 6) (.t 55)⟩, 
  ⟨(some 57), (some ((some 46), false)), .bin .neq false (.t 51) (.t 56) (pu (.binOp .neq 43 (.tmp 51) (.tmp 56) 43) 4)⟩, 
  ⟨(some 58), none, .pick (.t 46) (.k (.sc (.bool true))) (.t 57)⟩])
  (.cond (.t 58) (.reg [⟨(some 59), none, .mv (.t 8)⟩, 
   ⟨(some 60), none, .sh 1 (.t 3)⟩, 
   ⟨(some 61), none, .ld none (.t 60)⟩, 
   ⟨(some 62), none, .mv (.t 9)⟩, 
   ⟨(some 63), none, .ixs 6 (.t 61) (.t 62)⟩, 
   ⟨(some 64), none, .ld (some 6) (.t 63)⟩, 
   ⟨(some 65), none, .call 34 [(.t 59), (.t 64)]⟩, 
   ⟨(some 8), none, .mv (.t 65)⟩])
  .skip))))
  (.reg [⟨(some 32), none, .mv (.t 9)⟩, 
  ⟨(some 33), none, .bin .add false (.t 32) (.k (.sc (.int .i64 1))) (pu (.binOp .add 3 (.tmp 32) (.const (.int .i64 1)) 3) 3)⟩, 
  ⟨(some 9), none, .mv (.t 33)⟩]))))))
 (.seq (.seq (.reg [⟨(some 11), none, .mv (.k (.sc (.int .i64 0)))⟩])
 (.block 2 (.loop (.seq (.seq (.reg [⟨(some 66), none, .mv (.t 11)⟩, 
  ⟨(some 67), none, .sh 1 (.t 2)⟩, 
  ⟨(some 68), none, .ld none (.t 67)⟩, 
  ⟨(some 69), none, .len (.t 68) (pu (.call ⟨.builtin .len, #[(.tmp 68)], #[22]⟩) 3)⟩, 
  ⟨(some 70), none, .bin .lss false (.t 66) (.t 69) (pu (.binOp .lss 3 (.tmp 66) (.tmp 69) 3) 4)⟩])
  (.cond (.t 70) .skip
  (.exit 2)))
  (.seq (.block 3 (.seq (.drw [0, 1, 0, 4, 0, 28, 60, 124, 252, 511, 1023] [⟨(some 73), none, .sh 1 (.t 3)⟩, 
  ⟨(some 74), none, .ld none (.t 73)⟩, 
  ⟨(some 75), none, .sh 1 (.t 2)⟩, 
  ⟨(some 76), none, .ld none (.t 75)⟩, 
  ⟨(some 77), none, .mv (.t 11)⟩, 
  ⟨(some 78), none, .ixs 6 (.t 76) (.t 77)⟩, 
  ⟨(some 79), none, .sh 0 (.t 78)⟩, 
  ⟨(some 80), none, .ld none (.t 79)⟩, 
  ⟨(some 81), none, .call 29 [(.t 80)]⟩, 
  ⟨(some 82), none, .call 33 [(.t 74), (.t 81)]⟩, 
  ⟨(some 83), none, .bin .lss false (.t 82) (.k (.sc (.int .i64 0))) (pu (.binOp .lss 3 (.tmp 82) (.const (.int .i64 0)) 3) 4)⟩])
  (.cond (.t 83) (.reg [⟨(some 84), none, .mv (.t 8)⟩, 
   ⟨(some 85), none, .sh 1 (.t 2)⟩, 
   ⟨(some 86), none, .ld none (.t 85)⟩, 
   ⟨(some 87), none, .mv (.t 11)⟩, 
   ⟨(some 88), none, .ixs 6 (.t 86) (.t 87)⟩, 
   ⟨(some 89), none, .sh 0 (.t 88)⟩, 
   ⟨(some 90), none, .ld none (.t 89)⟩, 
   ⟨(some 91), none, .bld [(.sc (.string ⟨#[]⟩)), (.sc (.string ⟨#[]⟩)), (.sc (.string ⟨#[]⟩)), (.sc (.int .i64 0)), (.sc (.int .i64 0)), (.sc (.int .i64 0))] [(0, 1, (.t 90))]⟩, 
   ⟨(some 92), none, .call 34 [(.t 84), (.t 91)]⟩, 
   ⟨(some 8), none, .mv (.t 92)⟩])
  .skip)))
  (.reg [⟨(some 71), none, .mv (.t 11)⟩, 
  ⟨(some 72), none, .bin .add false (.t 71) (.k (.sc (.int .i64 1))) (pu (.binOp .add 3 (.tmp 71) (.const (.int .i64 1)) 3) 3)⟩, 
  ⟨(some 11), none, .mv (.t 72)⟩]))))))
 (.seq (.reg [⟨(some 93), none, .mv (.t 8)⟩, 
 ⟨(some 4), none, .mv (.t 93)⟩, 
 ⟨(some 5), none, .mv (.k (.sc (.int .i64 0)))⟩])
 .ret))))))))
def k20 : List Nat := [0, 1, 2, 3, 4, 5, 6, 7, 8, 9, 10, 11, 15, 20, 26, 31, 58, 70, 83]
theorem ic20 : factsI Try.prog 20 = some (94, [.tmp 4, .tmp 5], c20) := by kernel_rfl

-- chargenet/chargenetref22.SameTokens (26 slots)
def c21 : IC :=
 (.seq (.reg [⟨(some 4), none, .mv (.k (.sc (.bool false)))⟩])
 (.seq (.seq (.reg [⟨(some 6), none, .mv (.t 0)⟩, 
 ⟨(some 7), none, .len (.t 6) (pu (.call ⟨.builtin .len, #[(.tmp 6)], #[22]⟩) 3)⟩, 
 ⟨(some 8), none, .mv (.t 1)⟩, 
 ⟨(some 9), none, .len (.t 8) (pu (.call ⟨.builtin .len, #[(.tmp 8)], #[22]⟩) 3)⟩, 
 ⟨(some 10), none, .bin .neq false (.t 7) (.t 9) (pu (.binOp .neq 3 (.tmp 7) (.tmp 9) 3) 4)⟩])
 (.cond (.t 10) (.seq (.reg [⟨(some 4), none, .mv (.k (.sc (.bool false)))⟩])
  .ret)
 .skip))
 (.seq (.seq (.reg [⟨(some 5), none, .mv (.k (.sc (.int .i64 0)))⟩])
 (.block 0 (.loop (.seq (.seq (.reg [⟨(some 11), none, .mv (.t 5)⟩, 
  ⟨(some 12), none, .mv (.t 0)⟩, 
  ⟨(some 13), none, .len (.t 12) (pu (.call ⟨.builtin .len, #[(.tmp 12)], #[22]⟩) 3)⟩, 
  ⟨(some 14), none, .bin .lss false (.t 11) (.t 13) (pu (.binOp .lss 3 (.tmp 11) (.tmp 13) 3) 4)⟩])
  (.cond (.t 14) .skip
  (.exit 0)))
  (.seq (.block 1 (.seq (.drw [0, 0, 3, 7, 0, 0, 48, 112, 255] [⟨(some 17), none, .mv (.t 0)⟩, 
  ⟨(some 18), none, .mv (.t 5)⟩, 
  ⟨(some 19), none, .ixs 6 (.t 17) (.t 18)⟩, 
  ⟨(some 20), none, .ld (some 6) (.t 19)⟩, 
  ⟨(some 21), none, .mv (.t 1)⟩, 
  ⟨(some 22), none, .mv (.t 5)⟩, 
  ⟨(some 23), none, .ixs 6 (.t 21) (.t 22)⟩, 
  ⟨(some 24), none, .ld (some 6) (.t 23)⟩, 
  ⟨(some 25), none, .bin .neq false (.t 20) (.t 24) (pu (.binOp .neq 43 (.tmp 20) (.tmp 24) 43) 4)⟩])
  (.cond (.t 25) (.seq (.reg [⟨(some 4), none, .mv (.k (.sc (.bool false)))⟩])
   .ret)
  .skip)))
  (.reg [⟨(some 15), none, .mv (.t 5)⟩, 
  ⟨(some 16), none, .bin .add false (.t 15) (.k (.sc (.int .i64 1))) (pu (.binOp .add 3 (.tmp 15) (.const (.int .i64 1)) 3) 3)⟩, 
  ⟨(some 5), none, .mv (.t 16)⟩]))))))
 (.seq (.reg [⟨(some 4), none, .mv (.k (.sc (.bool true)))⟩])
 .ret))))
def k21 : List Nat := [0, 1, 4, 5, 10, 14, 25]
theorem ic21 : factsI Try.prog 21 = some (26, [.tmp 4], c21) := by kernel_rfl

-- chargenet/chargenetlaw22.names (22 slots)
def c22 : IC :=
 (.seq (.reg [⟨(some 3), none, .bx (.t 1)⟩, 
 ⟨(some 4), none, .mv (.k (.sc (.bool false)))⟩])
 (.seq (.seq (.reg [⟨(some 6), none, .mv (.t 0)⟩, 
 ⟨(some 7), none, .len (.t 6) (pu (.call ⟨.builtin .len, #[(.tmp 6)], #[22]⟩) 3)⟩, 
 ⟨(some 8), none, .mv (.k (.sc (.int .i64 0)))⟩])
 (.block 0 (.loop (.seq (.reg [⟨(some 9), none, .bin .lss false (.t 8) (.t 7) (pu (.binOp .lss 3 (.tmp 8) (.tmp 7) 3) 0)⟩])
  (.seq (.cond (.t 9) .skip
  (.exit 0))
  (.seq (.block 1 (.seq (.reg [⟨(some 10), none, .mv (.t 8)⟩, 
  ⟨(some 5), none, .mv (.t 10)⟩])
  (.seq (.drw [0, 0, 3, 7, 15, 31, 0, 64, 255, 511] [⟨(some 11), none, .mv (.t 0)⟩, 
  ⟨(some 12), none, .mv (.t 5)⟩, 
  ⟨(some 13), none, .ixs 6 (.t 11) (.t 12)⟩, 
  ⟨(some 14), none, .sh 0 (.t 13)⟩, 
  ⟨(some 15), none, .ld none (.t 14)⟩, 
  ⟨(some 16), none, .call 29 [(.t 15)]⟩, 
  ⟨(some 17), none, .sh 0 (.t 3)⟩, 
  ⟨(some 18), none, .ld none (.t 17)⟩, 
  ⟨(some 19), none, .call 29 [(.t 18)]⟩, 
  ⟨(some 20), none, .bin .eql false (.t 16) (.t 19) (pu (.binOp .eql 9 (.tmp 16) (.tmp 19) 9) 4)⟩])
  (.cond (.t 20) (.seq (.reg [⟨(some 4), none, .mv (.k (.sc (.bool true)))⟩])
   .ret)
  .skip))))
  (.reg [⟨(some 21), none, .bin .add false (.t 8) (.k (.sc (.int .i64 1))) (pu (.binOp .add 3 (.tmp 8) (.const (.int .i64 1)) 3) 3)⟩, 
  ⟨(some 8), none, .mv (.t 21)⟩])))))))
 (.seq (.reg [⟨(some 4), none, .mv (.k (.sc (.bool false)))⟩])
 .ret)))
def k22 : List Nat := [0, 1, 3, 4, 5, 7, 8, 9, 20]
theorem ic22 : factsI Try.prog 22 = some (22, [.tmp 4], c22) := by kernel_rfl

-- chargenet/chargenetlaw22.has (18 slots)
def c23 : IC :=
 (.seq (.reg [⟨(some 3), none, .bx (.t 1)⟩, 
 ⟨(some 4), none, .mv (.k (.sc (.bool false)))⟩])
 (.seq (.seq (.reg [⟨(some 6), none, .mv (.t 0)⟩, 
 ⟨(some 7), none, .len (.t 6) (pu (.call ⟨.builtin .len, #[(.tmp 6)], #[22]⟩) 3)⟩, 
 ⟨(some 8), none, .mv (.k (.sc (.int .i64 0)))⟩])
 (.block 0 (.loop (.seq (.reg [⟨(some 9), none, .bin .lss false (.t 8) (.t 7) (pu (.binOp .lss 3 (.tmp 8) (.tmp 7) 3) 0)⟩])
  (.seq (.cond (.t 9) .skip
  (.exit 0))
  (.seq (.block 1 (.seq (.reg [⟨(some 10), none, .mv (.t 8)⟩, 
  ⟨(some 5), none, .mv (.t 10)⟩])
  (.seq (.drw [0, 0, 3, 7, 0, 31] [⟨(some 11), none, .mv (.t 0)⟩, 
  ⟨(some 12), none, .mv (.t 5)⟩, 
  ⟨(some 13), none, .ixs 6 (.t 11) (.t 12)⟩, 
  ⟨(some 14), none, .ld (some 6) (.t 13)⟩, 
  ⟨(some 15), none, .ld (some 6) (.t 3)⟩, 
  ⟨(some 16), none, .bin .eql false (.t 14) (.t 15) (pu (.binOp .eql 43 (.tmp 14) (.tmp 15) 43) 4)⟩])
  (.cond (.t 16) (.seq (.reg [⟨(some 4), none, .mv (.k (.sc (.bool true)))⟩])
   .ret)
  .skip))))
  (.reg [⟨(some 17), none, .bin .add false (.t 8) (.k (.sc (.int .i64 1))) (pu (.binOp .add 3 (.tmp 8) (.const (.int .i64 1)) 3) 3)⟩, 
  ⟨(some 8), none, .mv (.t 17)⟩])))))))
 (.seq (.reg [⟨(some 4), none, .mv (.k (.sc (.bool false)))⟩])
 .ret)))
def k23 : List Nat := [0, 1, 3, 4, 5, 7, 8, 9, 16]
theorem ic23 : factsI Try.prog 23 = some (18, [.tmp 4], c23) := by kernel_rfl

-- chargenet/chargenetlaw22.token (8 slots)
def c24 : IC :=
 (.seq (.reg [⟨(some 4), none, .al (.agg [(.sc (.string ⟨#[]⟩)), (.sc (.string ⟨#[]⟩)), (.sc (.string ⟨#[]⟩)), (.sc (.int .i64 0)), (.sc (.int .i64 0)), (.sc (.int .i64 0))]) 6⟩])
 (.seq (.reg [⟨(some 5), none, .mv (.t 0)⟩, 
 ⟨(some 6), none, .mv (.t 1)⟩, 
 ⟨(some 7), none, .bld [(.sc (.string ⟨#[]⟩)), (.sc (.string ⟨#[]⟩)), (.sc (.string ⟨#[]⟩)), (.sc (.int .i64 0)), (.sc (.int .i64 0)), (.sc (.int .i64 0))] [(0, 1, (.t 5)), (3, 1, (.k (.sc (.int .i64 1)))), (4, 1, (.t 6)), (5, 1, (.k (.sc (.int .i64 (-1)))))]⟩, 
 ⟨none, none, .st 6 (.t 4) (.t 7)⟩])
 .ret))
def k24 : List Nat := [0, 1, 4]
theorem ic24 : factsI Try.prog 24 = some (8, [.cell 4 43], c24) := by kernel_rfl

-- chargenet/token.Valid (51 slots)
def c25 : IC :=
 (.seq (.reg [⟨(some 1), none, .bx (.t 0)⟩, 
 ⟨(some 2), none, .mv (.k (.sc (.int .i64 0)))⟩])
 (.seq (.seq (.reg [⟨(some 3), none, .sh 0 (.t 1)⟩, 
 ⟨(some 4), none, .ld none (.t 3)⟩, 
 ⟨(some 5), none, .call 37 [(.t 4)]⟩, 
 ⟨(some 6), none, .un .not (.t 5) (pu (.unOp .not 4 (.tmp 5)) 4)⟩])
 (.cond (.t 6) (.seq (.reg [⟨(some 2), none, .mv (.k (.sc (.int .i64 4)))⟩])
  .ret)
 .skip))
 (.seq (.seq (.reg [⟨(some 7), none, .sh 1 (.t 1)⟩, 
 ⟨(some 8), none, .ld none (.t 7)⟩, 
 ⟨(some 9), none, .bin .neq false (.t 8) (.k (.sc (.string ⟨#[]⟩))) (pu (.binOp .neq 9 (.tmp 8) (.const (.string ⟨#[]⟩)) 9) 4)⟩, 
 ⟨(some 10), none, .mv (.t 9)⟩, 
 ⟨(some 11), (some ((some 10), true)), .sh 1 (.t 1)⟩, 
 ⟨(some 12), (some ((some 10), true)), .ld none (.t 11)⟩, 
 ⟨(some 13), (some ((some 10), true)), .call 37 [(.t 12)]⟩, 
 ⟨(some 14), (some ((some 10), true)), .un .not (.t 13) (pu (.unOp .not 4 (.tmp 13)) 4)⟩, 
 ⟨(some 15), none, .pick (.t 10) (.t 14) (.k (.sc (.bool false)))⟩, 
 ⟨(some 16), none, .mv (.t 15)⟩, 
 ⟨(some 17), (some ((some 16), false)), .sh 2 (.t 1)⟩, 
 ⟨(some 18), (some ((some 16), false)), .ld none (.t 17)⟩, 
 ⟨(some 19), (some ((some 16), false)), .bin .neq false (.t 18) (.k (.sc (.string ⟨#[]⟩))) (pu (.binOp .neq 9 (.tmp 18) (.const (.string ⟨#[]⟩)) 9) 4)⟩, 
 ⟨(some 20), (some ((some 16), false)), .mv (.t 19)⟩, 
 ⟨(some 21), (some ((some 20), true)), .sh 2 (.t 1)⟩, 
 ⟨(some 22), (some ((some 20), true)), .ld none (.t 21)⟩, 
 ⟨(some 23), (some ((some 20), true)), .call 37 [(.t 22)]⟩, 
 ⟨(some 24), (some ((some 20), true)), .un .not (.t 23) (pu (.unOp .not 4 (.tmp 23)) 4)⟩, 
 ⟨(some 25), (some ((some 16), false)), .pick (.t 20) (.t 24) (.k (.sc (.bool false)))⟩, 
 ⟨(some 26), none, .pick (.t 16) (.k (.sc (.bool true))) (.t 25)⟩])
 (.cond (.t 26) (.seq (.reg [⟨(some 2), none, .mv (.k (.sc (.int .i64 4)))⟩])
  .ret)
 .skip))
 (.seq (.seq (.reg [⟨(some 27), none, .sh 3 (.t 1)⟩, 
 ⟨(some 28), none, .ld none (.t 27)⟩, 
 ⟨(some 29), none, .bin .lss false (.t 28) (.k (.sc (.int .i64 1))) (pu (.binOp .lss 3 (.tmp 28) (.const (.int .i64 1)) 3) 4)⟩, 
 ⟨(some 30), none, .mv (.t 29)⟩, 
 ⟨(some 31), (some ((some 30), false)), .sh 3 (.t 1)⟩, 
 ⟨(some 32), (some ((some 30), false)), .ld none (.t 31)⟩, 
 ⟨(some 33), (some ((some 30), false)), .bin .gtr false (.t 32) (.k (.sc (.int .i64 3))) (pu (.binOp .gtr 3 (.tmp 32) (.const (.int .i64 3)) 3) 4)⟩, 
 ⟨(some 34), none, .pick (.t 30) (.k (.sc (.bool true))) (.t 33)⟩])
 (.cond (.t 34) (.seq (.reg [⟨(some 2), none, .mv (.k (.sc (.int .i64 2)))⟩])
  .ret)
 .skip))
 (.seq (.seq (.reg [⟨(some 35), none, .sh 4 (.t 1)⟩, 
 ⟨(some 36), none, .ld none (.t 35)⟩, 
 ⟨(some 37), none, .bin .lss false (.t 36) (.k (.sc (.int .i64 1))) (pu (.binOp .lss 3 (.tmp 36) (.const (.int .i64 1)) 3) 4)⟩, 
 ⟨(some 38), none, .mv (.t 37)⟩, 
 ⟨(some 39), (some ((some 38), false)), .sh 4 (.t 1)⟩, 
 ⟨(some 40), (some ((some 38), false)), .ld none (.t 39)⟩, 
 ⟨(some 41), (some ((some 38), false)), .bin .gtr false (.t 40) (.k (.sc (.int .i64 3))) (pu (.binOp .gtr 3 (.tmp 40) (.const (.int .i64 3)) 3) 4)⟩, 
 ⟨(some 42), none, .pick (.t 38) (.k (.sc (.bool true))) (.t 41)⟩])
 (.cond (.t 42) (.seq (.reg [⟨(some 2), none, .mv (.k (.sc (.int .i64 2)))⟩])
  .ret)
 .skip))
 (.seq (.seq (.reg [⟨(some 43), none, .sh 5 (.t 1)⟩, 
 ⟨(some 44), none, .ld none (.t 43)⟩, 
 ⟨(some 45), none, .bin .lss false (.t 44) (.k (.sc (.int .i64 (-1)))) (pu (.binOp .lss 3 (.tmp 44) (.const (.int .i64 (-1))) 3) 4)⟩, 
 ⟨(some 46), none, .mv (.t 45)⟩, 
 ⟨(some 47), (some ((some 46), false)), .sh 5 (.t 1)⟩, 
 ⟨(some 48), (some ((some 46), false)), .ld none (.t 47)⟩, 
 ⟨(some 49), (some ((some 46), false)), .bin .gtr false (.t 48) (.k (.sc (.int .i64 268435456))) (pu (.binOp .gtr 3 (.tmp 48) (.const (.int .i64 268435456)) 3) 4)⟩, 
 ⟨(some 50), none, .pick (.t 46) (.k (.sc (.bool true))) (.t 49)⟩])
 (.cond (.t 50) (.seq (.reg [⟨(some 2), none, .mv (.k (.sc (.int .i64 2)))⟩])
  .ret)
 .skip))
 (.seq (.reg [⟨(some 2), none, .mv (.k (.sc (.int .i64 0)))⟩])
 .ret)))))))
def k25 : List Nat := [0, 1, 2, 6, 26, 34, 42, 50]
theorem ic25 : factsI Try.prog 25 = some (51, [.tmp 2], c25) := by kernel_rfl

-- chargenet/list.byKey (12 slots)
def c26 : IC :=
 (.seq (.reg [⟨(some 2), none, .bx (.t 0)⟩, 
 ⟨(some 3), none, .bx (.t 1)⟩, 
 ⟨(some 4), none, .mv (.k (.sc (.int .i64 0)))⟩])
 (.seq (.drw [0, 1, 3, 0, 8, 31, 63, 127] [⟨(some 5), none, .sh 0 (.t 2)⟩, 
 ⟨(some 6), none, .ld none (.t 5)⟩, 
 ⟨(some 7), none, .call 30 [(.t 6)]⟩, 
 ⟨(some 8), none, .sh 0 (.t 3)⟩, 
 ⟨(some 9), none, .ld none (.t 8)⟩, 
 ⟨(some 10), none, .call 30 [(.t 9)]⟩, 
 ⟨(some 11), none, .call 38 [(.t 7), (.t 10)]⟩, 
 ⟨(some 4), none, .mv (.t 11)⟩])
 .ret))
def k26 : List Nat := [0, 1, 2, 3, 4]
theorem ic26 : factsI Try.prog 26 = some (12, [.tmp 4], c26) := by kernel_rfl

-- chargenet/chargenetref22.number (12 slots)
def c27 : IC :=
 (.seq (.reg [⟨(some 4), none, .mv (.k (.sc (.bool false)))⟩])
 (.seq (.reg [⟨(some 5), none, .mv (.t 0)⟩, 
 ⟨(some 6), none, .mv (.t 1)⟩, 
 ⟨(some 7), none, .bin .geq false (.t 5) (.t 6) (pu (.binOp .geq 3 (.tmp 5) (.tmp 6) 3) 4)⟩, 
 ⟨(some 8), none, .mv (.t 7)⟩, 
 ⟨(some 9), (some ((some 8), true)), .mv (.t 0)⟩, 
 ⟨(some 10), (some ((some 8), true)), .bin .leq false (.t 9) (.k (.sc (.int .i64 2147483647))) (pu (.binOp .leq 3 (.tmp 9) (.const (.int .i64 2147483647)) 3) 4)⟩, 
 ⟨(some 11), none, .pick (.t 8) (.t 10) (.k (.sc (.bool false)))⟩, 
 ⟨(some 4), none, .mv (.t 11)⟩])
 .ret))
def k27 : List Nat := [0, 1, 4]
theorem ic27 : factsI Try.prog 27 = some (12, [.tmp 4], c27) := by kernel_rfl

-- chargenet/chargenetref21.Valid (57 slots)
def c28 : IC :=
 (.seq (.reg [⟨(some 1), none, .bx (.t 0)⟩, 
 ⟨(some 2), none, .mv (.k (.sc (.int .i64 0)))⟩])
 (.seq (.seq (.reg [⟨(some 3), none, .sh 0 (.t 1)⟩, 
 ⟨(some 4), none, .ld none (.t 3)⟩, 
 ⟨(some 5), none, .call 39 [(.t 4)]⟩, 
 ⟨(some 6), none, .un .not (.t 5) (pu (.unOp .not 4 (.tmp 5)) 4)⟩, 
 ⟨(some 7), none, .mv (.t 6)⟩, 
 ⟨(some 8), (some ((some 7), false)), .sh 1 (.t 1)⟩, 
 ⟨(some 9), (some ((some 7), false)), .ld none (.t 8)⟩, 
 ⟨(some 10), (some ((some 7), false)), .bin .neq false (.t 9) (.k (.sc (.string ⟨#[]⟩))) (pu (.binOp .neq 9 (.tmp 9) (.const (.string ⟨#[]⟩)) 9) 4)⟩, 
 ⟨(some 11), (some ((some 7), false)), .mv (.t 10)⟩, 
 ⟨(some 12), (some ((some 11), true)), .sh 1 (.t 1)⟩, 
 ⟨(some 13), (some ((some 11), true)), .ld none (.t 12)⟩, 
 ⟨(some 14), (some ((some 11), true)), .call 39 [(.t 13)]⟩, 
 ⟨(some 15), (some ((some 11), true)), .un .not (.t 14) (pu (.unOp .not 4 (.tmp 14)) 4)⟩, 
 ⟨(some 16), (some ((some 7), false)), .pick (.t 11) (.t 15) (.k (.sc (.bool false)))⟩, 
 ⟨(some 17), none, .pick (.t 7) (.k (.sc (.bool true))) (.t 16)⟩, 
 ⟨(some 18), none, .mv (.t 17)⟩, 
 ⟨(some 19), (some ((some 18), false)), .sh 2 (.t 1)⟩, 
 ⟨(some 20), (some ((some 18), false)), .ld none (.t 19)⟩, 
 ⟨(some 21), (some ((some 18), false)), .bin .neq false (.t 20) (.k (.sc (.string ⟨#[]⟩))) (pu (.binOp .neq 9 (.tmp 20) (.const (.string ⟨#[]⟩)) 9) 4)⟩, 
 ⟨(some 22), (some ((some 18), false)), .mv (.t 21)⟩, 
 ⟨(some 23), (some ((some 22), true)), .sh 2 (.t 1)⟩, 
 ⟨(some 24), (some ((some 22), true)), .ld none (.t 23)⟩, 
 ⟨(some 25), (some ((some 22), true)), .call 39 [(.t 24)]⟩, 
 ⟨(some 26), (some ((some 22), true)), .un .not (.t 25) (pu (.unOp .not 4 (.tmp 25)) 4)⟩, 
 ⟨(some 27), (some ((some 18), false)), .pick (.t 22) (.t 26) (.k (.sc (.bool false)))⟩, 
 ⟨(some 28), none, .pick (.t 18) (.k (.sc (.bool true))) (.t 27)⟩])
 (.cond (.t 28) (.seq (.reg [⟨(some 2), none, .mv (.k (.sc (.int .i64 4)))⟩])
  .ret)
 .skip))
 (.seq (.seq (.reg [⟨(some 29), none, .sh 3 (.t 1)⟩, 
 ⟨(some 30), none, .ld none (.t 29)⟩, 
 ⟨(some 31), none, .bin .lss false (.t 30) (.k (.sc (.int .i64 1))) (pu (.binOp .lss 3 (.tmp 30) (.const (.int .i64 1)) 3) 4)⟩, 
 ⟨(some 32), none, .mv (.t 31)⟩, 
 ⟨(some 33), (some ((some 32), false)), .sh 3 (.t 1)⟩, 
 ⟨(some 34), (some ((some 32), false)), .ld none (.t 33)⟩, 
 ⟨(some 35), (some ((some 32), false)), .bin .gtr false (.t 34) (.k (.sc (.int .i64 3))) (pu (.binOp .gtr 3 (.tmp 34) (.const (.int .i64 3)) 3) 4)⟩, 
 ⟨(some 36), none, .pick (.t 32) (.k (.sc (.bool true))) (.t 35)⟩, 
 ⟨(some 37), none, .mv (.t 36)⟩, 
 ⟨(some 38), (some ((some 37), false)), .sh 4 (.t 1)⟩, 
 ⟨(some 39), (some ((some 37), false)), .ld none (.t 38)⟩, 
 ⟨(some 40), (some ((some 37), false)), .bin .lss false (.t 39) (.k (.sc (.int .i64 1))) (pu (.binOp .lss 3 (.tmp 39) (.const (.int .i64 1)) 3) 4)⟩, 
 ⟨(some 41), none, .pick (.t 37) (.k (.sc (.bool true))) (.t 40)⟩, 
 ⟨(some 42), none, .mv (.t 41)⟩, 
 ⟨(some 43), (some ((some 42), false)), .sh 4 (.t 1)⟩, 
 ⟨(some 44), (some ((some 42), false)), .ld none (.t 43)⟩, 
 ⟨(some 45), (some ((some 42), false)), .bin .gtr false (.t 44) (.k (.sc (.int .i64 3))) (pu (.binOp .gtr 3 (.tmp 44) (.const (.int .i64 3)) 3) 4)⟩, 
 ⟨(some 46), none, .pick (.t 42) (.k (.sc (.bool true))) (.t 45)⟩, 
 ⟨(some 47), none, .mv (.t 46)⟩, 
 ⟨(some 48), (some ((some 47), false)), .sh 5 (.t 1)⟩, 
 ⟨(some 49), (some ((some 47), false)), .ld none (.t 48)⟩, 
 ⟨(some 50), (some ((some 47), false)), .bin .lss false (.t 49) (.k (.sc (.int .i64 (-1)))) (pu (.binOp .lss 3 (.tmp 49) (.const (.int .i64 (-1))) 3) 4)⟩, 
 ⟨(some 51), none, .pick (.t 47) (.k (.sc (.bool true))) (.t 50)⟩, 
 ⟨(some 52), none, .mv (.t 51)⟩, 
 ⟨(some 53), (some ((some 52), false)), .sh 5 (.t 1)⟩, 
 ⟨(some 54), (some ((some 52), false)), .ld none (.t 53)⟩, 
 ⟨(some 55), (some ((some 52), false)), .bin .gtr false (.t 54) (.k (.sc (.int .i64 268435456))) (pu (.binOp .gtr 3 (.tmp 54) (.const (.int .i64 268435456)) 3) 4)⟩, 
 ⟨(some 56), none, .pick (.t 52) (.k (.sc (.bool true))) (.t 55)⟩])
 (.cond (.t 56) (.seq (.reg [⟨(some 2), none, .mv (.k (.sc (.int .i64 2)))⟩])
  .ret)
 .skip))
 (.seq (.reg [⟨(some 2), none, .mv (.k (.sc (.int .i64 0)))⟩])
 .ret))))
def k28 : List Nat := [0, 1, 2, 28, 56]
theorem ic28 : factsI Try.prog 28 = some (57, [.tmp 2], c28) := by kernel_rfl

-- chargenet/chargenetref22.Key (29 slots)
def c29 : IC :=
 (.seq (.reg [⟨(some 2), none, .mv (.k (.sc (.string ⟨#[]⟩)))⟩])
 (.seq (.reg [⟨(some 3), none, .mv (.k (.sc (.string ⟨#[]⟩)))⟩])
 (.seq (.seq (.reg [⟨(some 4), none, .mv (.k (.sc (.int .i64 0)))⟩])
 (.block 0 (.loop (.seq (.seq (.reg [⟨(some 6), none, .mv (.t 4)⟩, 
  ⟨(some 7), none, .mv (.t 0)⟩, 
  ⟨(some 8), none, .lens (.t 7) (pu (.call ⟨.builtin .len, #[(.tmp 7)], #[9]⟩) 3)⟩, 
  ⟨(some 9), none, .bin .lss false (.t 6) (.t 8) (pu (.binOp .lss 3 (.tmp 6) (.tmp 8) 3) 4)⟩])
  (.cond (.t 9) .skip
  (.exit 0)))
  (.seq (.block 1 (.seq (.reg [⟨(some 12), none, .mv (.t 0)⟩, 
  ⟨(some 13), none, .mv (.t 4)⟩, 
  ⟨(some 14), none, .pur (pu (.index 9 (.tmp 12) (.tmp 13)) 5)⟩, 
  ⟨(some 5), none, .mv (.t 14)⟩])
  (.seq (.seq (.reg [⟨(some 15), none, .mv (.t 5)⟩, 
  ⟨(some 16), none, .bin .geq false (.t 15) (.k (.sc (.int .u8 97))) (pu (.binOp .geq 5 (.tmp 15) (.const (.int .u8 97)) 5) 4)⟩, 
  ⟨(some 17), none, .mv (.t 16)⟩, 
  ⟨(some 18), (some ((some 17), true)), .mv (.t 5)⟩, 
  ⟨(some 19), (some ((some 17), true)), .bin .leq false (.t 18) (.k (.sc (.int .u8 122))) (pu (.binOp .leq 5 (.tmp 18) (.const (.int .u8 122)) 5) 4)⟩, 
  ⟨(some 20), none, .pick (.t 17) (.t 19) (.k (.sc (.bool false)))⟩])
  (.cond (.t 20) (.reg [⟨(some 21), none, .mv (.t 5)⟩, 
   ⟨(some 22), none, .bin .sub false (.t 21) (.k (.sc (.int .u8 32))) (pu (.binOp .sub 5 (.tmp 21) (.const (.int .u8 32)) 5) 5)⟩, 
   ⟨(some 5), none, .mv (.t 22)⟩])
  .skip))
  (.reg [⟨(some 23), none, .mv (.t 3)⟩, 
  ⟨(some 24), none, .mv (.t 5)⟩, 
  ⟨(some 25), none, .bsl 1 1 false [(.sc (.int .u8 0))] [(0, 1, (.t 24))]⟩, 
  ⟨(some 26), none, .pur (pu (.convert 62 9 (.tmp 25)) 9)⟩, 
  ⟨(some 27), none, .bin .add false (.t 23) (.t 26) (pu (.binOp .add 9 (.tmp 23) (.tmp 26) 9) 9)⟩, 
  ⟨(some 3), none, .mv (.t 27)⟩]))))
  (.reg [⟨(some 10), none, .mv (.t 4)⟩, 
  ⟨(some 11), none, .bin .add false (.t 10) (.k (.sc (.int .i64 1))) (pu (.binOp .add 3 (.tmp 10) (.const (.int .i64 1)) 3) 3)⟩, 
  ⟨(some 4), none, .mv (.t 11)⟩]))))))
 (.seq (.reg [⟨(some 28), none, .mv (.t 3)⟩, 
 ⟨(some 2), none, .mv (.t 28)⟩])
 .ret))))
def k29 : List Nat := [0, 2, 3, 4, 5, 9, 20]
theorem ic29 : factsI Try.prog 29 = some (29, [.tmp 2], c29) := by kernel_rfl

-- chargenet/list.key (30 slots)
def c30 : IC :=
 (.seq (.reg [⟨(some 2), none, .mv (.k (.sc (.string ⟨#[]⟩)))⟩])
 (.seq (.reg [⟨(some 6), none, .mv (.t 0)⟩, 
 ⟨(some 7), none, .pur (pu (.convert 9 62 (.tmp 6)) 62)⟩, 
 ⟨(some 3), none, .mv (.t 7)⟩])
 (.seq (.seq (.reg [⟨(some 8), none, .mv (.t 3)⟩, 
 ⟨(some 9), none, .len (.t 8) (pu (.call ⟨.builtin .len, #[(.tmp 8)], #[62]⟩) 3)⟩, 
 ⟨(some 10), none, .mv (.k (.sc (.int .i64 0)))⟩])
 (.block 0 (.loop (.seq (.reg [⟨(some 11), none, .bin .lss false (.t 10) (.t 9) (pu (.binOp .lss 3 (.tmp 10) (.tmp 9) 3) 0)⟩])
  (.seq (.cond (.t 11) .skip
  (.exit 0))
  (.seq (.block 1 (.seq (.reg [⟨(some 12), none, .mv (.t 10)⟩, 
  ⟨(some 13), none, .ixs 1 (.t 8) (.t 10)⟩, 
  ⟨(some 14), none, .ld none (.t 13)⟩, 
  ⟨(some 4), none, .mv (.t 12)⟩, 
  ⟨(some 5), none, .mv (.t 14)⟩])
  (.seq (.reg [⟨(some 15), none, .mv (.t 5)⟩, 
  ⟨(some 16), none, .bin .geq false (.t 15) (.k (.sc (.int .u8 97))) (pu (.binOp .geq 5 (.tmp 15) (.const (.int .u8 97)) 5) 4)⟩, 
  ⟨(some 17), none, .mv (.t 16)⟩, 
  ⟨(some 18), (some ((some 17), true)), .mv (.t 5)⟩, 
  ⟨(some 19), (some ((some 17), true)), .bin .leq false (.t 18) (.k (.sc (.int .u8 122))) (pu (.binOp .leq 5 (.tmp 18) (.const (.int .u8 122)) 5) 4)⟩, 
  ⟨(some 20), none, .pick (.t 17) (.t 19) (.k (.sc (.bool false)))⟩])
  (.cond (.t 20) (.reg [⟨(some 21), none, .mv (.t 3)⟩, 
   ⟨(some 22), none, .mv (.t 4)⟩, 
   ⟨(some 23), none, .mv (.t 5)⟩, 
   ⟨(some 24), none, .bin .sub false (.t 23) (.k (.sc (.int .u8 97))) (pu (.binOp .sub 5 (.tmp 23) (.const (.int .u8 97)) 5) 5)⟩, 
   ⟨(some 25), none, .bin .add false (.t 24) (.k (.sc (.int .u8 65))) (pu (.binOp .add 5 (.tmp 24) (.const (.int .u8 65)) 5) 5)⟩, 
   ⟨(some 26), none, .ixs 1 (.t 21) (.t 22)⟩, 
   ⟨none, none, .st 1 (.t 26) (.t 25)⟩])
  .skip))))
  (.reg [⟨(some 27), none, .bin .add false (.t 10) (.k (.sc (.int .i64 1))) (pu (.binOp .add 3 (.tmp 10) (.const (.int .i64 1)) 3) 3)⟩, 
  ⟨(some 10), none, .mv (.t 27)⟩])))))))
 (.seq (.reg [⟨(some 28), none, .mv (.t 3)⟩, 
 ⟨(some 29), none, .pur (pu (.convert 62 9 (.tmp 28)) 9)⟩, 
 ⟨(some 2), none, .mv (.t 29)⟩])
 .ret))))
def k30 : List Nat := [0, 2, 3, 4, 5, 8, 9, 10, 11, 20]
theorem ic30 : factsI Try.prog 30 = some (30, [.tmp 2], c30) := by kernel_rfl

-- slices.Clone[[]chargenet/api.Token,chargenet/api.Token] (8 slots)
def c31 : IC :=
 (.seq (.reg [⟨(some 2), none, .mv (.k (.sc (.slice none 0 0)))⟩])
 (.seq (.seq (.reg [⟨(some 3), none, .mv (.t 0)⟩, 
 ⟨(some 4), none, .bin .eql false (.t 3) (.k (.sc (.slice none 0 0))) (pu (.binOp .eql 22 (.tmp 3) (.const (.slice none 0 0)) 22) 4)⟩])
 (.cond (.t 4) (.seq (.reg [⟨(some 2), none, .mv (.k (.sc (.slice none 0 0)))⟩])
  .ret)
 .skip))
 (.seq (.reg [⟨(some 5), none, .bsl 6 0 true [] []⟩, 
 ⟨(some 6), none, .mv (.t 0)⟩, 
 ⟨(some 7), none, .app 6 72 (.t 5) (.t 6)⟩, 
 ⟨(some 2), none, .mv (.t 7)⟩])
 .ret)))
def k31 : List Nat := [0, 2, 4]
theorem ic31 : factsI Try.prog 31 = some (8, [.tmp 2], c31) := by kernel_rfl

-- slices.SortFunc[[]chargenet/api.Token,chargenet/api.Token] (14 slots)
def c32 : IC :=
 (.seq (.reg [⟨(some 5), none, .mv (.t 0)⟩, 
 ⟨(some 6), none, .len (.t 5) (pu (.call ⟨.builtin .len, #[(.tmp 5)], #[22]⟩) 3)⟩, 
 ⟨(some 4), none, .mv (.t 6)⟩])
 (.reg [⟨(some 7), none, .mv (.t 0)⟩, 
 ⟨(some 8), none, .mv (.t 4)⟩, 
 ⟨(some 9), none, .mv (.t 4)⟩, 
 ⟨(some 10), none, .pur (pu (.convert 3 65 (.tmp 9)) 65)⟩, 
 ⟨(some 11), none, .call 41 [(.t 10)]⟩, 
 ⟨(some 12), none, .mv (.t 1)⟩, 
 ⟨(some 13), none, .call 40 [(.t 7), (.k (.sc (.int .i64 0))), (.t 8), (.t 11), (.t 12)]⟩]))
def k32 : List Nat := [0, 1, 4]
theorem ic32 : factsI Try.prog 32 = some (14, [], c32) := by kernel_rfl

-- chargenet/chargenetref22.find (21 slots)
def c33 : IC :=
 (.seq (.reg [⟨(some 4), none, .mv (.k (.sc (.int .i64 0)))⟩])
 (.seq (.seq (.reg [⟨(some 5), none, .mv (.k (.sc (.int .i64 0)))⟩])
 (.block 0 (.loop (.seq (.seq (.reg [⟨(some 6), none, .mv (.t 5)⟩, 
  ⟨(some 7), none, .mv (.t 0)⟩, 
  ⟨(some 8), none, .len (.t 7) (pu (.call ⟨.builtin .len, #[(.tmp 7)], #[22]⟩) 3)⟩, 
  ⟨(some 9), none, .bin .lss false (.t 6) (.t 8) (pu (.binOp .lss 3 (.tmp 6) (.tmp 8) 3) 4)⟩])
  (.cond (.t 9) .skip
  (.exit 0)))
  (.seq (.block 1 (.seq (.reg [⟨(some 12), none, .mv (.t 0)⟩, 
  ⟨(some 13), none, .mv (.t 5)⟩, 
  ⟨(some 14), none, .ixs 6 (.t 12) (.t 13)⟩, 
  ⟨(some 15), none, .sh 0 (.t 14)⟩, 
  ⟨(some 16), none, .ld none (.t 15)⟩, 
  ⟨(some 17), none, .call 29 [(.t 16)]⟩, 
  ⟨(some 18), none, .mv (.t 1)⟩, 
  ⟨(some 19), none, .bin .eql false (.t 17) (.t 18) (pu (.binOp .eql 9 (.tmp 17) (.tmp 18) 9) 4)⟩])
  (.cond (.t 19) (.seq (.reg [⟨(some 20), none, .mv (.t 5)⟩, 
   ⟨(some 4), none, .mv (.t 20)⟩])
   .ret)
  .skip)))
  (.reg [⟨(some 10), none, .mv (.t 5)⟩, 
  ⟨(some 11), none, .bin .add false (.t 10) (.k (.sc (.int .i64 1))) (pu (.binOp .add 3 (.tmp 10) (.const (.int .i64 1)) 3) 3)⟩, 
  ⟨(some 5), none, .mv (.t 11)⟩]))))))
 (.seq (.reg [⟨(some 4), none, .mv (.k (.sc (.int .i64 (-1))))⟩])
 .ret)))
def k33 : List Nat := [0, 1, 4, 5, 9, 19]
theorem ic33 : factsI Try.prog 33 = some (21, [.tmp 4], c33) := by kernel_rfl

-- chargenet/chargenetref22.insert (59 slots)
def c34 : IC :=
 (.seq (.reg [⟨(some 3), none, .bx (.t 1)⟩, 
 ⟨(some 4), none, .mv (.k (.sc (.slice none 0 0)))⟩])
 (.seq (.reg [⟨(some 5), none, .mv (.k (.sc (.slice none 0 0)))⟩])
 (.seq (.seq (.reg [⟨(some 6), none, .mv (.k (.sc (.int .i64 0)))⟩])
 (.block 0 (.loop (.seq (.seq (.reg [⟨(some 8), none, .mv (.t 6)⟩, 
  ⟨(some 9), none, .mv (.t 0)⟩, 
  ⟨(some 10), none, .len (.t 9) (pu (.call ⟨.builtin .len, #[(.tmp 9)], #[22]⟩) 3)⟩, 
  ⟨(some 11), none, .bin .lss false (.t 8) (.t 10) (pu (.binOp .lss 3 (.tmp 8) (.tmp 10) 3) 4)⟩])
  (.cond (.t 11) .skip
  (.exit 0)))
  (.seq (.block 1 (.seq (.drw [0, 0, 3, 7, 15, 31, 0, 64, 255, 511] [⟨(some 14), none, .mv (.t 0)⟩, 
  ⟨(some 15), none, .mv (.t 6)⟩, 
  ⟨(some 16), none, .ixs 6 (.t 14) (.t 15)⟩, 
  ⟨(some 17), none, .sh 0 (.t 16)⟩, 
  ⟨(some 18), none, .ld none (.t 17)⟩, 
  ⟨(some 19), none, .call 29 [(.t 18)]⟩, 
  ⟨(some 20), none, .sh 0 (.t 3)⟩, 
  ⟨(some 21), none, .ld none (.t 20)⟩, 
  ⟨(some 22), none, .call 29 [(.t 21)]⟩, 
  ⟨(some 23), none, .bin .lss false (.t 19) (.t 22) (pu (.binOp .lss 9 (.tmp 19) (.tmp 22) 9) 4)⟩])
  (.cond (.t 23) (.reg [⟨(some 24), none, .mv (.t 5)⟩, 
   ⟨(some 25), none, .mv (.t 0)⟩, 
   ⟨(some 26), none, .mv (.t 6)⟩, 
   ⟨(some 27), none, .ixs 6 (.t 25) (.t 26)⟩, 
   ⟨(some 28), none, .ld (some 6) (.t 27)⟩, 
   ⟨(some 29), none, .bsl 6 1 true [(.sc (.string ⟨#[]⟩)), (.sc (.string ⟨#[]⟩)), (.sc (.string ⟨#[]⟩)), (.sc (.int .i64 0)), (.sc (.int .i64 0)), (.sc (.int .i64 0))] [(0, 6, (.t 28))]⟩, 
   ⟨(some 30), none, .app 6 72 (.t 24) (.t 29)⟩, 
   ⟨(some 5), none, .mv (.t 30)⟩])
  .skip)))
  (.reg [⟨(some 12), none, .mv (.t 6)⟩, 
  ⟨(some 13), none, .bin .add false (.t 12) (.k (.sc (.int .i64 1))) (pu (.binOp .add 3 (.tmp 12) (.const (.int .i64 1)) 3) 3)⟩, 
  ⟨(some 6), none, .mv (.t 13)⟩]))))))
 (.seq (.reg [⟨(some 31), none, .mv (.t 5)⟩, 
 ⟨(some 32), none, .ld (some 6) (.t 3)⟩, 
 ⟨(some 33), none, .bsl 6 1 true [(.sc (.string ⟨#[]⟩)), (.sc (.string ⟨#[]⟩)), (.sc (.string ⟨#[]⟩)), (.sc (.int .i64 0)), (.sc (.int .i64 0)), (.sc (.int .i64 0))] [(0, 6, (.t 32))]⟩, 
 ⟨(some 34), none, .app 6 72 (.t 31) (.t 33)⟩, 
 ⟨(some 5), none, .mv (.t 34)⟩])
 (.seq (.seq (.reg [⟨(some 7), none, .mv (.k (.sc (.int .i64 0)))⟩])
 (.block 2 (.loop (.seq (.seq (.reg [⟨(some 35), none, .mv (.t 7)⟩, 
  ⟨(some 36), none, .mv (.t 0)⟩, 
  ⟨(some 37), none, .len (.t 36) (pu (.call ⟨.builtin .len, #[(.tmp 36)], #[22]⟩) 3)⟩, 
  ⟨(some 38), none, .bin .lss false (.t 35) (.t 37) (pu (.binOp .lss 3 (.tmp 35) (.tmp 37) 3) 4)⟩])
  (.cond (.t 38) .skip
  (.exit 2)))
  (.seq (.block 3 (.seq (.drw [0, 0, 3, 7, 15, 31, 0, 64, 255, 511] [⟨(some 41), none, .mv (.t 0)⟩, 
  ⟨(some 42), none, .mv (.t 7)⟩, 
  ⟨(some 43), none, .ixs 6 (.t 41) (.t 42)⟩, 
  ⟨(some 44), none, .sh 0 (.t 43)⟩, 
  ⟨(some 45), none, .ld none (.t 44)⟩, 
  ⟨(some 46), none, .call 29 [(.t 45)]⟩, 
  ⟨(some 47), none, .sh 0 (.t 3)⟩, 
  ⟨(some 48), none, .ld none (.t 47)⟩, 
  ⟨(some 49), none, .call 29 [(.t 48)]⟩, 
  ⟨(some 50), none, .bin .gtr false (.t 46) (.t 49) (pu (.binOp .gtr 9 (.tmp 46) (.tmp 49) 9) 4)⟩])
  (.cond (.t 50) (.reg [⟨(some 51), none, .mv (.t 5)⟩, 
   ⟨(some 52), none, .mv (.t 0)⟩, 
   ⟨(some 53), none, .mv (.t 7)⟩, 
   ⟨(some 54), none, .ixs 6 (.t 52) (.t 53)⟩, 
   ⟨(some 55), none, .ld (some 6) (.t 54)⟩, 
   ⟨(some 56), none, .bsl 6 1 true [(.sc (.string ⟨#[]⟩)), (.sc (.string ⟨#[]⟩)), (.sc (.string ⟨#[]⟩)), (.sc (.int .i64 0)), (.sc (.int .i64 0)), (.sc (.int .i64 0))] [(0, 6, (.t 55))]⟩, 
   ⟨(some 57), none, .app 6 72 (.t 51) (.t 56)⟩, 
   ⟨(some 5), none, .mv (.t 57)⟩])
  .skip)))
  (.reg [⟨(some 39), none, .mv (.t 7)⟩, 
  ⟨(some 40), none, .bin .add false (.t 39) (.k (.sc (.int .i64 1))) (pu (.binOp .add 3 (.tmp 39) (.const (.int .i64 1)) 3) 3)⟩, 
  ⟨(some 7), none, .mv (.t 40)⟩]))))))
 (.seq (.reg [⟨(some 58), none, .mv (.t 5)⟩, 
 ⟨(some 4), none, .mv (.t 58)⟩])
 .ret))))))
def k34 : List Nat := [0, 1, 3, 4, 5, 6, 7, 11, 23, 38, 50]
theorem ic34 : factsI Try.prog 34 = some (59, [.tmp 4], c34) := by kernel_rfl

-- chargenet/list.collect (64 slots)
def c35 : IC :=
 (.seq (.reg [⟨(some 4), none, .mv (.k (.sc (.map none)))⟩, 
 ⟨(some 5), none, .mv (.k (.sc (.int .i64 0)))⟩])
 (.seq (.reg [⟨(some 16), none, .mmk none⟩, 
 ⟨(some 6), none, .mv (.t 16)⟩])
 (.seq (.seq (.reg [⟨(some 17), none, .mv (.t 0)⟩, 
 ⟨(some 18), none, .len (.t 17) (pu (.call ⟨.builtin .len, #[(.tmp 17)], #[22]⟩) 3)⟩, 
 ⟨(some 19), none, .mv (.k (.sc (.int .i64 0)))⟩])
 (.block 0 (.loop (.seq (.reg [⟨(some 20), none, .bin .lss false (.t 19) (.t 18) (pu (.binOp .lss 3 (.tmp 19) (.tmp 18) 3) 0)⟩])
  (.seq (.cond (.t 20) .skip
  (.exit 0))
  (.seq (.block 1 (.seq (.reg [⟨(some 21), none, .ixs 6 (.t 17) (.t 19)⟩, 
  ⟨(some 22), none, .ld (some 6) (.t 21)⟩, 
  ⟨(some 8), none, .al (.agg [(.sc (.string ⟨#[]⟩)), (.sc (.string ⟨#[]⟩)), (.sc (.string ⟨#[]⟩)), (.sc (.int .i64 0)), (.sc (.int .i64 0)), (.sc (.int .i64 0))]) 6⟩, 
  ⟨none, none, .st 6 (.t 8) (.t 22)⟩])
  (.reg [⟨(some 23), none, .mv (.t 6)⟩, 
  ⟨(some 24), none, .sh 0 (.t 8)⟩, 
  ⟨(some 25), none, .ld none (.t 24)⟩, 
  ⟨(some 26), none, .call 30 [(.t 25)]⟩, 
  ⟨none, none, .mpt false [.s] (.t 23) (.t 26) (.k (.sc (.bool true)))⟩])))
  (.reg [⟨(some 27), none, .bin .add false (.t 19) (.k (.sc (.int .i64 1))) (pu (.binOp .add 3 (.tmp 19) (.const (.int .i64 1)) 3) 3)⟩, 
  ⟨(some 19), none, .mv (.t 27)⟩])))))))
 (.seq (.reg [⟨(some 28), none, .mmk none⟩, 
 ⟨(some 9), none, .mv (.t 28)⟩])
 (.seq (.seq (.reg [⟨(some 29), none, .mv (.t 1)⟩, 
 ⟨(some 30), none, .len (.t 29) (pu (.call ⟨.builtin .len, #[(.tmp 29)], #[22]⟩) 3)⟩, 
 ⟨(some 31), none, .mv (.k (.sc (.int .i64 0)))⟩])
 (.block 2 (.loop (.seq (.reg [⟨(some 32), none, .bin .lss false (.t 31) (.t 30) (pu (.binOp .lss 3 (.tmp 31) (.tmp 30) 3) 0)⟩])
  (.seq (.cond (.t 32) .skip
  (.exit 2))
  (.seq (.block 3 (.seq (.reg [⟨(some 33), none, .ixs 6 (.t 29) (.t 31)⟩, 
  ⟨(some 34), none, .ld (some 6) (.t 33)⟩, 
  ⟨(some 11), none, .al (.agg [(.sc (.string ⟨#[]⟩)), (.sc (.string ⟨#[]⟩)), (.sc (.string ⟨#[]⟩)), (.sc (.int .i64 0)), (.sc (.int .i64 0)), (.sc (.int .i64 0))]) 6⟩, 
  ⟨none, none, .st 6 (.t 11) (.t 34)⟩])
  (.seq (.seq (.reg [⟨(some 35), none, .ld (some 6) (.t 11)⟩, 
  ⟨(some 36), none, .call 42 [(.t 35)]⟩, 
  ⟨(some 12), none, .mv (.t 36)⟩])
  (.seq (.reg [⟨(some 37), none, .mv (.t 12)⟩, 
  ⟨(some 38), none, .bin .neq false (.t 37) (.k (.sc (.int .i64 0))) (pu (.binOp .neq 27 (.tmp 37) (.const (.int .i64 0)) 27) 4)⟩])
  (.cond (.t 38) (.seq (.reg [⟨(some 39), none, .mv (.t 12)⟩, 
   ⟨(some 4), none, .mv (.k (.sc (.map none)))⟩, 
   ⟨(some 5), none, .mv (.t 39)⟩])
   .ret)
  .skip)))
  (.seq (.reg [⟨(some 40), none, .sh 0 (.t 11)⟩, 
  ⟨(some 41), none, .ld none (.t 40)⟩, 
  ⟨(some 42), none, .call 30 [(.t 41)]⟩, 
  ⟨(some 13), none, .mv (.t 42)⟩])
  (.seq (.seq (.reg [⟨(some 44), none, .mv (.t 9)⟩, 
  ⟨(some 45), none, .mv (.t 13)⟩, 
  ⟨(some 46), none, .mlk false [.s] (.agg [(.sc (.string ⟨#[]⟩)), (.sc (.string ⟨#[]⟩)), (.sc (.string ⟨#[]⟩)), (.sc (.int .i64 0)), (.sc (.int .i64 0)), (.sc (.int .i64 0))]) true (.t 44) (.t 45) (pu (.lookup 56 (.tmp 44) (.tmp 45) true) 59)⟩, 
  ⟨(some 43), none, .mv (.t 46)⟩, 
  ⟨(some 47), none, .ext (.t 43) 0⟩, 
  ⟨(some 48), none, .ext (.t 43) 1⟩, 
  ⟨(some 14), none, .al (.agg [(.sc (.string ⟨#[]⟩)), (.sc (.string ⟨#[]⟩)), (.sc (.string ⟨#[]⟩)), (.sc (.int .i64 0)), (.sc (.int .i64 0)), (.sc (.int .i64 0))]) 6⟩, 
  ⟨none, none, .st 6 (.t 14) (.t 47)⟩, 
  ⟨(some 15), none, .mv (.t 48)⟩])
  (.seq (.reg [⟨(some 49), none, .mv (.t 15)⟩])
  (.cond (.t 49) (.seq (.reg [⟨(some 4), none, .mv (.k (.sc (.map none)))⟩, 
   ⟨(some 5), none, .mv (.k (.sc (.int .i64 9)))⟩])
   .ret)
  .skip)))
  (.seq (.seq (.reg [⟨(some 50), none, .sh 4 (.t 11)⟩, 
  ⟨(some 51), none, .ld none (.t 50)⟩, 
  ⟨(some 52), none, .bin .eql false (.t 51) (.k (.sc (.int .i64 0))) (pu (.binOp .eql 3 (.tmp 51) (.const (.int .i64 0)) 3) 4)⟩, 
  ⟨(some 53), none, .mv (.t 52)⟩, 
  ⟨(some 54), (some ((some 53), true)), .mv (.t 6)⟩, 
  ⟨(some 55), (some ((some 53), true)), .mv (.t 13)⟩, 
  ⟨(some 56), (some ((some 53), true)), .mlk false [.s] (.sc (.bool false)) false (.t 54) (.t 55) (pu (.lookup 51 (.tmp 54) (.tmp 55) false) 4)⟩, 
  ⟨(some 57), (some ((some 53), true)), .un .not (.t 56) (pu (.unOp .not 4 (.tmp 56)) 4)⟩, 
  ⟨(some 58), none, .pick (.t 53) (.t 57) (.k (.sc (.bool false)))⟩])
  (.cond (.t 58) (.seq (.reg [⟨(some 4), none, .mv (.k (.sc (.map none)))⟩, 
   ⟨(some 5), none, .mv (.k (.sc (.int .i64 8)))⟩])
   .ret)
  .skip))
  (.reg [⟨(some 59), none, .mv (.t 9)⟩, 
  ⟨(some 60), none, .mv (.t 13)⟩, 
  ⟨(some 61), none, .ld (some 6) (.t 11)⟩, 
  ⟨none, none, .mpt false [.s] (.t 59) (.t 60) (.t 61)⟩])))))))
  (.reg [⟨(some 62), none, .bin .add false (.t 31) (.k (.sc (.int .i64 1))) (pu (.binOp .add 3 (.tmp 31) (.const (.int .i64 1)) 3) 3)⟩, 
  ⟨(some 31), none, .mv (.t 62)⟩])))))))
 (.seq (.reg [⟨(some 63), none, .mv (.t 9)⟩, 
 ⟨(some 4), none, .mv (.t 63)⟩, 
 ⟨(some 5), none, .mv (.k (.sc (.int .i64 0)))⟩])
 .ret))))))
def k35 : List Nat := [0, 1, 4, 5, 6, 8, 9, 11, 12, 13, 15, 17, 18, 19, 20, 29, 30, 31, 32, 38, 49, 58]
theorem ic35 : factsI Try.prog 35 = some (64, [.tmp 4, .tmp 5], c35) := by kernel_rfl

-- chargenet/chargenetref22.Item (10 slots)
def c36 : IC :=
 (.seq (.reg [⟨(some 1), none, .bx (.t 0)⟩, 
 ⟨(some 2), none, .mv (.k (.sc (.int .i64 0)))⟩])
 (.seq (.seq (.reg [⟨(some 3), none, .sh 4 (.t 1)⟩, 
 ⟨(some 4), none, .ld none (.t 3)⟩, 
 ⟨(some 5), none, .bin .eql false (.t 4) (.k (.sc (.int .i64 0))) (pu (.binOp .eql 3 (.tmp 4) (.const (.int .i64 0)) 3) 4)⟩])
 (.cond (.t 5) (.seq (.reg [⟨(some 6), none, .ld (some 6) (.t 1)⟩, 
  ⟨(some 7), none, .call 43 [(.t 6)]⟩, 
  ⟨(some 2), none, .mv (.t 7)⟩])
  .ret)
 .skip))
 (.seq (.reg [⟨(some 8), none, .ld (some 6) (.t 1)⟩, 
 ⟨(some 9), none, .call 28 [(.t 8)]⟩, 
 ⟨(some 2), none, .mv (.t 9)⟩])
 .ret)))
def k36 : List Nat := [0, 1, 2, 5]
theorem ic36 : factsI Try.prog 36 = some (10, [.tmp 2], c36) := by kernel_rfl

-- chargenet/ident.Valid (28 slots)
def c37 : IC :=
 (.seq (.reg [⟨(some 2), none, .mv (.k (.sc (.bool false)))⟩])
 (.seq (.seq (.reg [⟨(some 5), none, .mv (.t 0)⟩, 
 ⟨(some 6), none, .lens (.t 5) (pu (.call ⟨.builtin .len, #[(.tmp 5)], #[9]⟩) 3)⟩, 
 ⟨(some 7), none, .bin .lss false (.t 6) (.k (.sc (.int .i64 1))) (pu (.binOp .lss 3 (.tmp 6) (.const (.int .i64 1)) 3) 4)⟩, 
 ⟨(some 8), none, .mv (.t 7)⟩, 
 ⟨(some 9), (some ((some 8), false)), .mv (.t 0)⟩, 
 ⟨(some 10), (some ((some 8), false)), .lens (.t 9) (pu (.call ⟨.builtin .len, #[(.tmp 9)], #[9]⟩) 3)⟩, 
 ⟨(some 11), (some ((some 8), false)), .bin .gtr false (.t 10) (.k (.sc (.int .i64 36))) (pu (.binOp .gtr 3 (.tmp 10) (.const (.int .i64 36)) 3) 4)⟩, 
 ⟨(some 12), none, .pick (.t 8) (.k (.sc (.bool true))) (.t 11)⟩])
 (.cond (.t 12) (.seq (.reg [⟨(some 2), none, .mv (.k (.sc (.bool false)))⟩])
  .ret)
 .skip))
 (.seq (.seq (.reg [⟨(some 13), none, .mv (.t 0)⟩, 
 ⟨(some 14), none, .rng (.t 13)⟩])
 (.block 0 (.loop (.seq (.reg [⟨(some 15), none, .nxt (.t 14)⟩, 
  ⟨(some 16), none, .ext (.t 15) 0⟩])
  (.seq (.cond (.t 16) .skip
  (.exit 0))
  (.block 1 (.seq (.reg [⟨(some 17), none, .ext (.t 15) 2⟩, 
  ⟨(some 4), none, .mv (.t 17)⟩])
  (.seq (.seq (.reg [⟨(some 18), none, .mv (.t 4)⟩])
  (.block 2 (.seq (.seq (.reg [⟨(some 20), none, .bin .eql false (.t 18) (.k (.sc (.int .i32 45))) (pu (.binOp .eql 21 (.tmp 18) (.const (.int .i32 45)) 21) 4)⟩, 
  ⟨(some 19), none, .mv (.t 20)⟩])
  (.cond (.t 19) .skip
  (.seq (.reg [⟨(some 21), none, .bin .eql false (.t 18) (.k (.sc (.int .i32 95))) (pu (.binOp .eql 21 (.tmp 18) (.const (.int .i32 95)) 21) 4)⟩, 
   ⟨(some 19), none, .mv (.t 21)⟩])
   (.cond (.t 19) .skip
   (.seq (.reg [⟨(some 22), none, .bin .eql false (.t 18) (.k (.sc (.int .i32 46))) (pu (.binOp .eql 21 (.tmp 18) (.const (.int .i32 46)) 21) 4)⟩, 
    ⟨(some 19), none, .mv (.t 22)⟩])
    (.cond (.t 19) .skip
    (.seq (.reg [⟨(some 23), none, .bin .eql false (.t 18) (.k (.sc (.int .i32 58))) (pu (.binOp .eql 21 (.tmp 18) (.const (.int .i32 58)) 21) 4)⟩, 
     ⟨(some 19), none, .mv (.t 23)⟩])
     (.cond (.t 19) .skip
     (.reg [⟨(some 24), none, .bin .eql false (.t 18) (.k (.sc (.int .i32 42))) (pu (.binOp .eql 21 (.tmp 18) (.const (.int .i32 42)) 21) 4)⟩, 
      ⟨(some 19), none, .mv (.t 24)⟩])))))))))
  (.cond (.t 19) (.exit 1)
  .skip))))
  (.seq (.reg [⟨(some 25), none, .mv (.t 4)⟩, 
  ⟨(some 26), none, .call 44 [(.t 25)]⟩, 
  ⟨(some 27), none, .bin .lss false (.t 26) (.k (.sc (.int .i64 0))) (pu (.binOp .lss 3 (.tmp 26) (.const (.int .i64 0)) 3) 4)⟩])
  (.cond (.t 27) (.seq (.reg [⟨(some 2), none, .mv (.k (.sc (.bool false)))⟩])
   .ret)
  .skip))))))))))
 (.seq (.reg [⟨(some 2), none, .mv (.k (.sc (.bool true)))⟩])
 .ret))))
def k37 : List Nat := [0, 2, 4, 12, 14, 15, 16, 18, 19, 27]
theorem ic37 : factsI Try.prog 37 = some (28, [.tmp 2], c37) := by kernel_rfl

-- cmp.Compare[string] (20 slots)
def c38 : IC :=
 (.seq (.reg [⟨(some 4), none, .mv (.k (.sc (.int .i64 0)))⟩])
 (.seq (.reg [⟨(some 7), none, .mv (.t 0)⟩, 
 ⟨(some 8), none, .call 45 [(.t 7)]⟩, 
 ⟨(some 5), none, .mv (.t 8)⟩])
 (.seq (.reg [⟨(some 9), none, .mv (.t 1)⟩, 
 ⟨(some 10), none, .call 45 [(.t 9)]⟩, 
 ⟨(some 6), none, .mv (.t 10)⟩])
 (.seq (.seq (.reg [⟨(some 11), none, .mv (.t 5)⟩])
 (.cond (.t 11) (.seq (.seq (.reg [⟨(some 12), none, .mv (.t 6)⟩])
  (.cond (.t 12) (.seq (.reg [⟨(some 4), none, .mv (.k (.sc (.int .i64 0)))⟩])
   .ret)
  .skip))
  (.seq (.reg [⟨(some 4), none, .mv (.k (.sc (.int .i64 (-1))))⟩])
  .ret))
 .skip))
 (.seq (.seq (.reg [⟨(some 13), none, .mv (.t 6)⟩])
 (.cond (.t 13) (.seq (.reg [⟨(some 4), none, .mv (.k (.sc (.int .i64 1)))⟩])
  .ret)
 .skip))
 (.seq (.seq (.reg [⟨(some 14), none, .mv (.t 0)⟩, 
 ⟨(some 15), none, .mv (.t 1)⟩, 
 ⟨(some 16), none, .bin .lss false (.t 14) (.t 15) (pu (.binOp .lss 9 (.tmp 14) (.tmp 15) 9) 4)⟩])
 (.cond (.t 16) (.seq (.reg [⟨(some 4), none, .mv (.k (.sc (.int .i64 (-1))))⟩])
  .ret)
 .skip))
 (.seq (.seq (.reg [⟨(some 17), none, .mv (.t 0)⟩, 
 ⟨(some 18), none, .mv (.t 1)⟩, 
 ⟨(some 19), none, .bin .gtr false (.t 17) (.t 18) (pu (.binOp .gtr 9 (.tmp 17) (.tmp 18) 9) 4)⟩])
 (.cond (.t 19) (.seq (.reg [⟨(some 4), none, .mv (.k (.sc (.int .i64 1)))⟩])
  .ret)
 .skip))
 (.seq (.reg [⟨(some 4), none, .mv (.k (.sc (.int .i64 0)))⟩])
 .ret))))))))
def k38 : List Nat := [0, 1, 4, 5, 6, 11, 12, 13, 16, 19]
theorem ic38 : factsI Try.prog 38 = some (20, [.tmp 4], c38) := by kernel_rfl

-- chargenet/chargenetref01.Valid (45 slots)
def c39 : IC :=
 (.seq (.reg [⟨(some 2), none, .mv (.k (.sc (.bool false)))⟩])
 (.seq (.seq (.reg [⟨(some 5), none, .mv (.t 0)⟩, 
 ⟨(some 6), none, .lens (.t 5) (pu (.call ⟨.builtin .len, #[(.tmp 5)], #[9]⟩) 3)⟩, 
 ⟨(some 7), none, .bin .lss false (.t 6) (.k (.sc (.int .i64 1))) (pu (.binOp .lss 3 (.tmp 6) (.const (.int .i64 1)) 3) 4)⟩, 
 ⟨(some 8), none, .mv (.t 7)⟩, 
 ⟨(some 9), (some ((some 8), false)), .mv (.t 0)⟩, 
 ⟨(some 10), (some ((some 8), false)), .lens (.t 9) (pu (.call ⟨.builtin .len, #[(.tmp 9)], #[9]⟩) 3)⟩, 
 ⟨(some 11), (some ((some 8), false)), .bin .gtr false (.t 10) (.k (.sc (.int .i64 36))) (pu (.binOp .gtr 3 (.tmp 10) (.const (.int .i64 36)) 3) 4)⟩, 
 ⟨(some 12), none, .pick (.t 8) (.k (.sc (.bool true))) (.t 11)⟩])
 (.cond (.t 12) (.seq (.reg [⟨(some 2), none, .mv (.k (.sc (.bool false)))⟩])
  .ret)
 .skip))
 (.seq (.seq (.reg [⟨(some 3), none, .mv (.k (.sc (.int .i64 0)))⟩])
 (.block 0 (.loop (.seq (.seq (.reg [⟨(some 13), none, .mv (.t 3)⟩, 
  ⟨(some 14), none, .mv (.t 0)⟩, 
  ⟨(some 15), none, .lens (.t 14) (pu (.call ⟨.builtin .len, #[(.tmp 14)], #[9]⟩) 3)⟩, 
  ⟨(some 16), none, .bin .lss false (.t 13) (.t 15) (pu (.binOp .lss 3 (.tmp 13) (.tmp 15) 3) 4)⟩])
  (.cond (.t 16) .skip
  (.exit 0)))
  (.seq (.block 1 (.seq (.reg [⟨(some 19), none, .mv (.t 0)⟩, 
  ⟨(some 20), none, .mv (.t 3)⟩, 
  ⟨(some 21), none, .pur (pu (.index 9 (.tmp 19) (.tmp 20)) 5)⟩, 
  ⟨(some 4), none, .mv (.t 21)⟩])
  (.seq (.reg [⟨(some 22), none, .mv (.t 4)⟩, 
  ⟨(some 23), none, .call 46 [(.t 22)]⟩, 
  ⟨(some 24), none, .bin .lss false (.t 23) (.k (.sc (.int .i64 0))) (pu (.binOp .lss 3 (.tmp 23) (.const (.int .i64 0)) 3) 4)⟩, 
  ⟨(some 25), none, .mv (.t 24)⟩, 
  ⟨(some 26), (some ((some 25), true)), .mv (.t 4)⟩, 
  ⟨(some 27), (some ((some 25), true)), .bin .neq false (.t 26) (.k (.sc (.int .u8 45))) (pu (.binOp .neq 5 (.tmp 26) (.const (.int .u8 45)) 5) 4)⟩, 
  ⟨(some 28), none, .pick (.t 25) (.t 27) (.k (.sc (.bool false)))⟩, 
  ⟨(some 29), none, .mv (.t 28)⟩, 
  ⟨(some 30), (some ((some 29), true)), .mv (.t 4)⟩, 
  ⟨(some 31), (some ((some 29), true)), .bin .neq false (.t 30) (.k (.sc (.int .u8 95))) (pu (.binOp .neq 5 (.tmp 30) (.const (.int .u8 95)) 5) 4)⟩, 
  ⟨(some 32), none, .pick (.t 29) (.t 31) (.k (.sc (.bool false)))⟩, 
  ⟨(some 33), none, .mv (.t 32)⟩, 
  ⟨(some 34), (some ((some 33), true)), .mv (.t 4)⟩, 
  ⟨(some 35), (some ((some 33), true)), .bin .neq false (.t 34) (.k (.sc (.int .u8 46))) (pu (.binOp .neq 5 (.tmp 34) (.const (.int .u8 46)) 5) 4)⟩, 
  ⟨(some 36), none, .pick (.t 33) (.t 35) (.k (.sc (.bool false)))⟩, 
  ⟨(some 37), none, .mv (.t 36)⟩, 
  ⟨(some 38), (some ((some 37), true)), .mv (.t 4)⟩, 
  ⟨(some 39), (some ((some 37), true)), .bin .neq false (.t 38) (.k (.sc (.int .u8 58))) (pu (.binOp .neq 5 (.tmp 38) (.const (.int .u8 58)) 5) 4)⟩, 
  ⟨(some 40), none, .pick (.t 37) (.t 39) (.k (.sc (.bool false)))⟩, 
  ⟨(some 41), none, .mv (.t 40)⟩, 
  ⟨(some 42), (some ((some 41), true)), .mv (.t 4)⟩, 
  ⟨(some 43), (some ((some 41), true)), .bin .neq false (.t 42) (.k (.sc (.int .u8 42))) (pu (.binOp .neq 5 (.tmp 42) (.const (.int .u8 42)) 5) 4)⟩, 
  ⟨(some 44), none, .pick (.t 41) (.t 43) (.k (.sc (.bool false)))⟩])
  (.cond (.t 44) (.seq (.reg [⟨(some 2), none, .mv (.k (.sc (.bool false)))⟩])
   .ret)
  .skip))))
  (.reg [⟨(some 17), none, .mv (.t 3)⟩, 
  ⟨(some 18), none, .bin .add false (.t 17) (.k (.sc (.int .i64 1))) (pu (.binOp .add 3 (.tmp 17) (.const (.int .i64 1)) 3) 3)⟩, 
  ⟨(some 3), none, .mv (.t 18)⟩]))))))
 (.seq (.reg [⟨(some 2), none, .mv (.k (.sc (.bool true)))⟩])
 .ret))))
def k39 : List Nat := [0, 2, 3, 4, 12, 16, 44]
theorem ic39 : factsI Try.prog 39 = some (45, [.tmp 2], c39) := by kernel_rfl

-- slices.pdqsortCmpFunc[chargenet/api.Token] (148 slots)
def c40 : IC :=
 (.seq (.reg [⟨(some 10), none, .mv (.k (.sc (.bool true)))⟩])
 (.seq (.reg [⟨(some 11), none, .mv (.k (.sc (.bool true)))⟩])
 (.block 0 (.loop (.block 1 (.seq (.reg [⟨(some 21), none, .mv (.t 2)⟩, 
  ⟨(some 22), none, .mv (.t 1)⟩, 
  ⟨(some 23), none, .bin .sub false (.t 21) (.t 22) (pu (.binOp .sub 3 (.tmp 21) (.tmp 22) 3) 3)⟩, 
  ⟨(some 12), none, .mv (.t 23)⟩])
  (.seq (.seq (.reg [⟨(some 24), none, .mv (.t 12)⟩, 
  ⟨(some 25), none, .bin .leq false (.t 24) (.k (.sc (.int .i64 12))) (pu (.binOp .leq 3 (.tmp 24) (.const (.int .i64 12)) 3) 4)⟩])
  (.cond (.t 25) (.seq (.reg [⟨(some 26), none, .mv (.t 0)⟩, 
   ⟨(some 27), none, .mv (.t 1)⟩, 
   ⟨(some 28), none, .mv (.t 2)⟩, 
   ⟨(some 29), none, .mv (.t 4)⟩, 
   ⟨(some 30), none, .call 47 [(.t 26), (.t 27), (.t 28), (.t 29)]⟩])
   .ret)
  .skip))
  (.seq (.seq (.reg [⟨(some 31), none, .mv (.t 3)⟩, 
  ⟨(some 32), none, .bin .eql false (.t 31) (.k (.sc (.int .i64 0))) (pu (.binOp .eql 3 (.tmp 31) (.const (.int .i64 0)) 3) 4)⟩])
  (.cond (.t 32) (.seq (.reg [⟨(some 33), none, .mv (.t 0)⟩, 
   ⟨(some 34), none, .mv (.t 1)⟩, 
   ⟨(some 35), none, .mv (.t 2)⟩, 
   ⟨(some 36), none, .mv (.t 4)⟩, 
   ⟨(some 37), none, .call 48 [(.t 33), (.t 34), (.t 35), (.t 36)]⟩])
   .ret)
  .skip))
  (.seq (.seq (.reg [⟨(some 38), none, .mv (.t 10)⟩, 
  ⟨(some 39), none, .un .not (.t 38) (pu (.unOp .not 4 (.tmp 38)) 4)⟩])
  (.cond (.t 39) (.seq (.reg [⟨(some 40), none, .mv (.t 0)⟩, 
   ⟨(some 41), none, .mv (.t 1)⟩, 
   ⟨(some 42), none, .mv (.t 2)⟩, 
   ⟨(some 43), none, .mv (.t 4)⟩, 
   ⟨(some 44), none, .call 49 [(.t 40), (.t 41), (.t 42), (.t 43)]⟩])
   (.reg [⟨(some 45), none, .mv (.t 3)⟩, 
   ⟨(some 46), none, .bin .sub false (.t 45) (.k (.sc (.int .i64 1))) (pu (.binOp .sub 3 (.tmp 45) (.const (.int .i64 1)) 3) 3)⟩, 
   ⟨(some 3), none, .mv (.t 46)⟩]))
  .skip))
  (.seq (.reg [⟨(some 48), none, .mv (.t 0)⟩, 
  ⟨(some 49), none, .mv (.t 1)⟩, 
  ⟨(some 50), none, .mv (.t 2)⟩, 
  ⟨(some 51), none, .mv (.t 4)⟩, 
  ⟨(some 52), none, .call 50 [(.t 48), (.t 49), (.t 50), (.t 51)]⟩, 
  ⟨(some 47), none, .mv (.t 52)⟩, 
  ⟨(some 53), none, .ext (.t 47) 0⟩, 
  ⟨(some 54), none, .ext (.t 47) 1⟩, 
  ⟨(some 13), none, .mv (.t 53)⟩, 
  ⟨(some 14), none, .mv (.t 54)⟩])
  (.seq (.seq (.reg [⟨(some 55), none, .mv (.t 14)⟩, 
  ⟨(some 56), none, .bin .eql false (.t 55) (.k (.sc (.int .i64 2))) (pu (.binOp .eql 69 (.tmp 55) (.const (.int .i64 2)) 69) 4)⟩])
  (.cond (.t 56) (.seq (.reg [⟨(some 57), none, .mv (.t 0)⟩, 
   ⟨(some 58), none, .mv (.t 1)⟩, 
   ⟨(some 59), none, .mv (.t 2)⟩, 
   ⟨(some 60), none, .mv (.t 4)⟩, 
   ⟨(some 61), none, .call 51 [(.t 57), (.t 58), (.t 59), (.t 60)]⟩])
   (.seq (.reg [⟨(some 62), none, .mv (.t 2)⟩, 
   ⟨(some 63), none, .bin .sub false (.t 62) (.k (.sc (.int .i64 1))) (pu (.binOp .sub 3 (.tmp 62) (.const (.int .i64 1)) 3) 3)⟩, 
   ⟨(some 64), none, .mv (.t 13)⟩, 
   ⟨(some 65), none, .mv (.t 1)⟩, 
   ⟨(some 66), none, .bin .sub false (.t 64) (.t 65) (pu (.binOp .sub 3 (.tmp 64) (.tmp 65) 3) 3)⟩, 
   ⟨(some 67), none, .bin .sub false (.t 63) (.t 66) (pu (.binOp .sub 3 (.tmp 63) (.tmp 66) 3) 3)⟩, 
   ⟨(some 13), none, .mv (.t 67)⟩])
   (.reg [⟨(some 14), none, .mv (.k (.sc (.int .i64 1)))⟩])))
  .skip))
  (.seq (.seq (.reg [⟨(some 68), none, .mv (.t 10)⟩, 
  ⟨(some 69), none, .mv (.t 68)⟩, 
  ⟨(some 70), (some ((some 69), true)), .mv (.t 11)⟩, 
  ⟨(some 71), none, .pick (.t 69) (.t 70) (.k (.sc (.bool false)))⟩, 
  ⟨(some 72), none, .mv (.t 71)⟩, 
  ⟨(some 73), (some ((some 72), true)), .mv (.t 14)⟩, 
  ⟨(some 74), (some ((some 72), true)), .bin .eql false (.t 73) (.k (.sc (.int .i64 1))) (pu (.binOp .eql 69 (.tmp 73) (.const (.int .i64 1)) 69) 4)⟩, 
  ⟨(some 75), none, .pick (.t 72) (.t 74) (.k (.sc (.bool false)))⟩])
  (.cond (.t 75) (.seq (.reg [⟨(some 76), none, .mv (.t 0)⟩, 
   ⟨(some 77), none, .mv (.t 1)⟩, 
   ⟨(some 78), none, .mv (.t 2)⟩, 
   ⟨(some 79), none, .mv (.t 4)⟩, 
   ⟨(some 80), none, .call 52 [(.t 76), (.t 77), (.t 78), (.t 79)]⟩])
   (.cond (.t 80) .ret
   .skip))
  .skip))
  (.seq (.seq (.drw [0, 1, 3, 7, 7, 7, 39, 119, 247, 7, 7, 1543, 3591, 8191, 16383, 32767, 65535] [⟨(some 81), none, .mv (.t 1)⟩, 
  ⟨(some 82), none, .bin .gtr false (.t 81) (.k (.sc (.int .i64 0))) (pu (.binOp .gtr 3 (.tmp 81) (.const (.int .i64 0)) 3) 4)⟩, 
  ⟨(some 83), none, .mv (.t 82)⟩, 
  ⟨(some 84), (some ((some 83), true)), .mv (.t 4)⟩, 
  ⟨(some 85), (some ((some 83), true)), .mv (.t 0)⟩, 
  ⟨(some 86), (some ((some 83), true)), .mv (.t 1)⟩, 
  ⟨(some 87), (some ((some 83), true)), .bin .sub false (.t 86) (.k (.sc (.int .i64 1))) (pu (.binOp .sub 3 (.tmp 86) (.const (.int .i64 1)) 3) 3)⟩, 
  ⟨(some 88), (some ((some 83), true)), .ixs 6 (.t 85) (.t 87)⟩, 
  ⟨(some 89), (some ((some 83), true)), .ld (some 6) (.t 88)⟩, 
  ⟨(some 90), (some ((some 83), true)), .mv (.t 0)⟩, 
  ⟨(some 91), (some ((some 83), true)), .mv (.t 13)⟩, 
  ⟨(some 92), (some ((some 83), true)), .ixs 6 (.t 90) (.t 91)⟩, 
  ⟨(some 93), (some ((some 83), true)), .ld (some 6) (.t 92)⟩, 
  ⟨(some 94), (some ((some 83), true)), .callv (.t 84) [(.t 89), (.t 93)]⟩, 
  ⟨(some 95), (some ((some 83), true)), .bin .lss false (.t 94) (.k (.sc (.int .i64 0))) (pu (.binOp .lss 3 (.tmp 94) (.const (.int .i64 0)) 3) 4)⟩, 
  ⟨(some 96), (some ((some 83), true)), .un .not (.t 95) (pu (.unOp .not 4 (.tmp 95)) 4)⟩, 
  ⟨(some 97), none, .pick (.t 83) (.t 96) (.k (.sc (.bool false)))⟩])
  (.cond (.t 97) (.seq (.reg [⟨(some 98), none, .mv (.t 0)⟩, 
   ⟨(some 99), none, .mv (.t 1)⟩, 
   ⟨(some 100), none, .mv (.t 2)⟩, 
   ⟨(some 101), none, .mv (.t 13)⟩, 
   ⟨(some 102), none, .mv (.t 4)⟩, 
   ⟨(some 103), none, .call 53 [(.t 98), (.t 99), (.t 100), (.t 101), (.t 102)]⟩, 
   ⟨(some 15), none, .mv (.t 103)⟩])
   (.seq (.reg [⟨(some 104), none, .mv (.t 15)⟩, 
   ⟨(some 1), none, .mv (.t 104)⟩])
   (.exit 1)))
  .skip))
  (.seq (.reg [⟨(some 106), none, .mv (.t 0)⟩, 
  ⟨(some 107), none, .mv (.t 1)⟩, 
  ⟨(some 108), none, .mv (.t 2)⟩, 
  ⟨(some 109), none, .mv (.t 13)⟩, 
  ⟨(some 110), none, .mv (.t 4)⟩, 
  ⟨(some 111), none, .call 54 [(.t 106), (.t 107), (.t 108), (.t 109), (.t 110)]⟩, 
  ⟨(some 105), none, .mv (.t 111)⟩, 
  ⟨(some 112), none, .ext (.t 105) 0⟩, 
  ⟨(some 113), none, .ext (.t 105) 1⟩, 
  ⟨(some 16), none, .mv (.t 112)⟩, 
  ⟨(some 17), none, .mv (.t 113)⟩])
  (.seq (.reg [⟨(some 114), none, .mv (.t 17)⟩, 
  ⟨(some 11), none, .mv (.t 114)⟩])
  (.seq (.reg [⟨(some 115), none, .mv (.t 16)⟩, 
  ⟨(some 116), none, .mv (.t 1)⟩, 
  ⟨(some 117), none, .bin .sub false (.t 115) (.t 116) (pu (.binOp .sub 3 (.tmp 115) (.tmp 116) 3) 3)⟩, 
  ⟨(some 118), none, .mv (.t 2)⟩, 
  ⟨(some 119), none, .mv (.t 16)⟩, 
  ⟨(some 120), none, .bin .sub false (.t 118) (.t 119) (pu (.binOp .sub 3 (.tmp 118) (.tmp 119) 3) 3)⟩, 
  ⟨(some 18), none, .mv (.t 117)⟩, 
  ⟨(some 19), none, .mv (.t 120)⟩])
  (.seq (.reg [⟨(some 121), none, .mv (.t 12)⟩, 
  ⟨(some 122), none, .bin .quo false (.t 121) (.k (.sc (.int .i64 8))) (pu (.binOp .quo 3 (.tmp 121) (.const (.int .i64 8)) 3) 3)⟩, 
  ⟨(some 20), none, .mv (.t 122)⟩])
  (.seq (.reg [⟨(some 123), none, .mv (.t 18)⟩, 
  ⟨(some 124), none, .mv (.t 19)⟩, 
  ⟨(some 125), none, .bin .lss false (.t 123) (.t 124) (pu (.binOp .lss 3 (.tmp 123) (.tmp 124) 3) 4)⟩])
  (.cond (.t 125) (.seq (.reg [⟨(some 126), none, .mv (.t 18)⟩, 
   ⟨(some 127), none, .mv (.t 20)⟩, 
   ⟨(some 128), none, .bin .geq false (.t 126) (.t 127) (pu (.binOp .geq 3 (.tmp 126) (.tmp 127) 3) 4)⟩, 
   ⟨(some 10), none, .mv (.t 128)⟩])
   (.seq (.reg [⟨(some 129), none, .mv (.t 0)⟩, 
   ⟨(some 130), none, .mv (.t 1)⟩, 
   ⟨(some 131), none, .mv (.t 16)⟩, 
   ⟨(some 132), none, .mv (.t 3)⟩, 
   ⟨(some 133), none, .mv (.t 4)⟩, 
   ⟨(some 134), none, .call 40 [(.t 129), (.t 130), (.t 131), (.t 132), (.t 133)]⟩])
   (.reg [⟨(some 135), none, .mv (.t 16)⟩, 
   ⟨(some 136), none, .bin .add false (.t 135) (.k (.sc (.int .i64 1))) (pu (.binOp .add 3 (.tmp 135) (.const (.int .i64 1)) 3) 3)⟩, 
   ⟨(some 1), none, .mv (.t 136)⟩])))
  (.seq (.reg [⟨(some 137), none, .mv (.t 19)⟩, 
   ⟨(some 138), none, .mv (.t 20)⟩, 
   ⟨(some 139), none, .bin .geq false (.t 137) (.t 138) (pu (.binOp .geq 3 (.tmp 137) (.tmp 138) 3) 4)⟩, 
   ⟨(some 10), none, .mv (.t 139)⟩])
   (.seq (.reg [⟨(some 140), none, .mv (.t 0)⟩, 
   ⟨(some 141), none, .mv (.t 16)⟩, 
   ⟨(some 142), none, .bin .add false (.t 141) (.k (.sc (.int .i64 1))) (pu (.binOp .add 3 (.tmp 141) (.const (.int .i64 1)) 3) 3)⟩, 
   ⟨(some 143), none, .mv (.t 2)⟩, 
   ⟨(some 144), none, .mv (.t 3)⟩, 
   ⟨(some 145), none, .mv (.t 4)⟩, 
   ⟨(some 146), none, .call 40 [(.t 140), (.t 142), (.t 143), (.t 144), (.t 145)]⟩])
   (.reg [⟨(some 147), none, .mv (.t 16)⟩, 
   ⟨(some 2), none, .mv (.t 147)⟩]))))))))))))))))))))))
def k40 : List Nat := [0, 1, 2, 3, 4, 10, 11, 12, 13, 14, 15, 16, 17, 18, 19, 20, 25, 32, 39, 56, 75, 80, 97, 125]
theorem ic40 : factsI Try.prog 40 = some (148, [], c40) := by kernel_rfl

-- math/bits.Len (8 slots)
def c41 : IC :=
 (.seq (.reg [⟨(some 2), none, .mv (.k (.sc (.int .i64 0)))⟩])
 (.seq (.cond (.k (.sc (.bool false))) (.seq (.reg [⟨(some 3), none, .mv (.t 0)⟩, 
  ⟨(some 4), none, .pur (pu (.convert 65 77 (.tmp 3)) 77)⟩, 
  ⟨(some 5), none, .call 55 [(.t 4)]⟩, 
  ⟨(some 2), none, .mv (.t 5)⟩])
  .ret)
 .skip)
 (.seq (.reg [⟨(some 6), none, .mv (.t 0)⟩, 
 ⟨(some 7), none, .call 56 [(.t 6)]⟩, 
 ⟨(some 2), none, .mv (.t 7)⟩])
 .ret)))
def k41 : List Nat := [0, 2]
theorem ic41 : factsI Try.prog 41 = some (8, [.tmp 2], c41) := by kernel_rfl

-- chargenet/list.valid (17 slots)
def c42 : IC :=
 (.seq (.reg [⟨(some 1), none, .bx (.t 0)⟩, 
 ⟨(some 2), none, .mv (.k (.sc (.int .i64 0)))⟩])
 (.seq (.seq (.reg [⟨(some 3), none, .sh 4 (.t 1)⟩, 
 ⟨(some 4), none, .ld none (.t 3)⟩, 
 ⟨(some 5), none, .bin .neq false (.t 4) (.k (.sc (.int .i64 0))) (pu (.binOp .neq 3 (.tmp 4) (.const (.int .i64 0)) 3) 4)⟩])
 (.cond (.t 5) (.seq (.reg [⟨(some 6), none, .ld (some 6) (.t 1)⟩, 
  ⟨(some 7), none, .call 25 [(.t 6)]⟩, 
  ⟨(some 2), none, .mv (.t 7)⟩])
  .ret)
 .skip))
 (.seq (.seq (.reg [⟨(some 8), none, .sh 0 (.t 1)⟩, 
 ⟨(some 9), none, .ld none (.t 8)⟩, 
 ⟨(some 10), none, .call 37 [(.t 9)]⟩, 
 ⟨(some 11), none, .un .not (.t 10) (pu (.unOp .not 4 (.tmp 10)) 4)⟩])
 (.cond (.t 11) (.seq (.reg [⟨(some 2), none, .mv (.k (.sc (.int .i64 4)))⟩])
  .ret)
 .skip))
 (.seq (.seq (.reg [⟨(some 12), none, .ld (some 6) (.t 1)⟩, 
 ⟨(some 13), none, .sh 0 (.t 1)⟩, 
 ⟨(some 14), none, .ld none (.t 13)⟩, 
 ⟨(some 15), none, .bld [(.sc (.string ⟨#[]⟩)), (.sc (.string ⟨#[]⟩)), (.sc (.string ⟨#[]⟩)), (.sc (.int .i64 0)), (.sc (.int .i64 0)), (.sc (.int .i64 0))] [(0, 1, (.t 14))]⟩, 
 ⟨(some 16), none, .bin .neq false (.t 12) (.t 15) (pu (.binOp .neq 43 (.tmp 12) (.tmp 15) 43) 4)⟩])
 (.cond (.t 16) (.seq (.reg [⟨(some 2), none, .mv (.k (.sc (.int .i64 1)))⟩])
  .ret)
 .skip))
 (.seq (.reg [⟨(some 2), none, .mv (.k (.sc (.int .i64 0)))⟩])
 .ret)))))
def k42 : List Nat := [0, 1, 2, 5, 11, 16]
theorem ic42 : factsI Try.prog 42 = some (17, [.tmp 2], c42) := by kernel_rfl

-- chargenet/chargenetref22.Removal (12 slots)
def c43 : IC :=
 (.seq (.reg [⟨(some 1), none, .bx (.t 0)⟩, 
 ⟨(some 2), none, .mv (.k (.sc (.int .i64 0)))⟩])
 (.seq (.seq (.reg [⟨(some 3), none, .sh 0 (.t 1)⟩, 
 ⟨(some 4), none, .ld none (.t 3)⟩, 
 ⟨(some 5), none, .call 39 [(.t 4)]⟩, 
 ⟨(some 6), none, .un .not (.t 5) (pu (.unOp .not 4 (.tmp 5)) 4)⟩])
 (.cond (.t 6) (.seq (.reg [⟨(some 2), none, .mv (.k (.sc (.int .i64 4)))⟩])
  .ret)
 .skip))
 (.seq (.seq (.reg [⟨(some 7), none, .ld (some 6) (.t 1)⟩, 
 ⟨(some 8), none, .sh 0 (.t 1)⟩, 
 ⟨(some 9), none, .ld none (.t 8)⟩, 
 ⟨(some 10), none, .bld [(.sc (.string ⟨#[]⟩)), (.sc (.string ⟨#[]⟩)), (.sc (.string ⟨#[]⟩)), (.sc (.int .i64 0)), (.sc (.int .i64 0)), (.sc (.int .i64 0))] [(0, 1, (.t 9))]⟩, 
 ⟨(some 11), none, .bin .neq false (.t 7) (.t 10) (pu (.binOp .neq 43 (.tmp 7) (.tmp 10) 43) 4)⟩])
 (.cond (.t 11) (.seq (.reg [⟨(some 2), none, .mv (.k (.sc (.int .i64 1)))⟩])
  .ret)
 .skip))
 (.seq (.reg [⟨(some 2), none, .mv (.k (.sc (.int .i64 0)))⟩])
 .ret))))
def k43 : List Nat := [0, 1, 2, 6, 11]
theorem ic43 : factsI Try.prog 43 = some (12, [.tmp 2], c43) := by kernel_rfl

-- chargenet/ident.value (35 slots)
def c44 : IC :=
 (.seq (.reg [⟨(some 2), none, .mv (.k (.sc (.int .i64 0)))⟩])
 (.seq (.block 0 (.seq (.reg [⟨(some 4), none, .mv (.t 0)⟩, 
 ⟨(some 5), none, .bin .geq false (.t 4) (.k (.sc (.int .i32 48))) (pu (.binOp .geq 21 (.tmp 4) (.const (.int .i32 48)) 21) 4)⟩, 
 ⟨(some 6), none, .mv (.t 5)⟩, 
 ⟨(some 7), (some ((some 6), true)), .mv (.t 0)⟩, 
 ⟨(some 8), (some ((some 6), true)), .bin .leq false (.t 7) (.k (.sc (.int .i32 57))) (pu (.binOp .leq 21 (.tmp 7) (.const (.int .i32 57)) 21) 4)⟩, 
 ⟨(some 9), none, .pick (.t 6) (.t 8) (.k (.sc (.bool false)))⟩, 
 ⟨(some 3), none, .mv (.t 9)⟩])
 (.cond (.t 3) (.seq (.reg [⟨(some 10), none, .mv (.t 0)⟩, 
  ⟨(some 11), none, .bin .sub false (.t 10) (.k (.sc (.int .i32 48))) (pu (.binOp .sub 21 (.tmp 10) (.const (.int .i32 48)) 21) 21)⟩, 
  ⟨(some 12), none, .pur (pu (.convert 21 3 (.tmp 11)) 3)⟩, 
  ⟨(some 2), none, .mv (.t 12)⟩])
  .ret)
 (.seq (.reg [⟨(some 14), none, .mv (.t 0)⟩, 
  ⟨(some 15), none, .bin .geq false (.t 14) (.k (.sc (.int .i32 65))) (pu (.binOp .geq 21 (.tmp 14) (.const (.int .i32 65)) 21) 4)⟩, 
  ⟨(some 16), none, .mv (.t 15)⟩, 
  ⟨(some 17), (some ((some 16), true)), .mv (.t 0)⟩, 
  ⟨(some 18), (some ((some 16), true)), .bin .leq false (.t 17) (.k (.sc (.int .i32 90))) (pu (.binOp .leq 21 (.tmp 17) (.const (.int .i32 90)) 21) 4)⟩, 
  ⟨(some 19), none, .pick (.t 16) (.t 18) (.k (.sc (.bool false)))⟩, 
  ⟨(some 13), none, .mv (.t 19)⟩])
  (.cond (.t 13) (.seq (.reg [⟨(some 20), none, .mv (.t 0)⟩, 
   ⟨(some 21), none, .bin .sub false (.t 20) (.k (.sc (.int .i32 65))) (pu (.binOp .sub 21 (.tmp 20) (.const (.int .i32 65)) 21) 21)⟩, 
   ⟨(some 22), none, .pur (pu (.convert 21 3 (.tmp 21)) 3)⟩, 
   ⟨(some 23), none, .bin .add false (.t 22) (.k (.sc (.int .i64 10))) (pu (.binOp .add 3 (.tmp 22) (.const (.int .i64 10)) 3) 3)⟩, 
   ⟨(some 2), none, .mv (.t 23)⟩])
   .ret)
  (.seq (.reg [⟨(some 25), none, .mv (.t 0)⟩, 
   ⟨(some 26), none, .bin .geq false (.t 25) (.k (.sc (.int .i32 97))) (pu (.binOp .geq 21 (.tmp 25) (.const (.int .i32 97)) 21) 4)⟩, 
   ⟨(some 27), none, .mv (.t 26)⟩, 
   ⟨(some 28), (some ((some 27), true)), .mv (.t 0)⟩, 
   ⟨(some 29), (some ((some 27), true)), .bin .leq false (.t 28) (.k (.sc (.int .i32 122))) (pu (.binOp .leq 21 (.tmp 28) (.const (.int .i32 122)) 21) 4)⟩, 
   ⟨(some 30), none, .pick (.t 27) (.t 29) (.k (.sc (.bool false)))⟩, 
   ⟨(some 24), none, .mv (.t 30)⟩])
   (.cond (.t 24) (.seq (.reg [⟨(some 31), none, .mv (.t 0)⟩, 
    ⟨(some 32), none, .bin .sub false (.t 31) (.k (.sc (.int .i32 97))) (pu (.binOp .sub 21 (.tmp 31) (.const (.int .i32 97)) 21) 21)⟩, 
    ⟨(some 33), none, .pur (pu (.convert 21 3 (.tmp 32)) 3)⟩, 
    ⟨(some 34), none, .bin .add false (.t 33) (.k (.sc (.int .i64 10))) (pu (.binOp .add 3 (.tmp 33) (.const (.int .i64 10)) 3) 3)⟩, 
    ⟨(some 2), none, .mv (.t 34)⟩])
    .ret)
   .skip)))))))
 (.seq (.reg [⟨(some 2), none, .mv (.k (.sc (.int .i64 (-1))))⟩])
 .ret)))
def k44 : List Nat := [0, 2, 3, 13, 24]
theorem ic44 : factsI Try.prog 44 = some (35, [.tmp 2], c44) := by kernel_rfl

-- cmp.isNaN[string] (6 slots)
def c45 : IC :=
 (.seq (.reg [⟨(some 2), none, .mv (.k (.sc (.bool false)))⟩])
 (.seq (.reg [⟨(some 3), none, .mv (.t 0)⟩, 
 ⟨(some 4), none, .mv (.t 0)⟩, 
 ⟨(some 5), none, .bin .neq false (.t 3) (.t 4) (pu (.binOp .neq 9 (.tmp 3) (.tmp 4) 9) 4)⟩, 
 ⟨(some 2), none, .mv (.t 5)⟩])
 .ret))
def k45 : List Nat := [0, 2]
theorem ic45 : factsI Try.prog 45 = some (6, [.tmp 2], c45) := by kernel_rfl

-- chargenet/chargenetref01.Value (14 slots)
def c46 : IC :=
 (.seq (.reg [⟨(some 2), none, .mv (.k (.sc (.int .i64 0)))⟩])
 (.seq (.seq (.reg [⟨(some 3), none, .mv (.k (.sc (.int .i64 0)))⟩])
 (.block 0 (.loop (.seq (.seq (.reg [⟨(some 4), none, .mv (.t 3)⟩, 
  ⟨(some 5), none, .bin .lss false (.t 4) (.k (.sc (.int .i64 36))) (pu (.binOp .lss 3 (.tmp 4) (.const (.int .i64 36)) 3) 4)⟩])
  (.cond (.t 5) .skip
  (.exit 0)))
  (.seq (.block 1 (.seq (.drw [0, 1, 0, 4, 15] [⟨(some 8), none, .mv (.t 3)⟩, 
  ⟨(some 9), none, .pur (pu (.index 9 (.const (.string ⟨#[48, 49, 50, 51, 52, 53, 54, 55, 56, 57, 65, 66, 67, 68, 69, 70, 71, 72, 73, 74, 75, 76, 77, 78, 79, 80, 81, 82, 83, 84, 85, 86, 87, 88, 89, 90]⟩)) (.tmp 8)) 5)⟩, 
  ⟨(some 10), none, .mv (.t 0)⟩, 
  ⟨(some 11), none, .call 57 [(.t 10)]⟩, 
  ⟨(some 12), none, .bin .eql false (.t 9) (.t 11) (pu (.binOp .eql 5 (.tmp 9) (.tmp 11) 5) 4)⟩])
  (.cond (.t 12) (.seq (.reg [⟨(some 13), none, .mv (.t 3)⟩, 
   ⟨(some 2), none, .mv (.t 13)⟩])
   .ret)
  .skip)))
  (.reg [⟨(some 6), none, .mv (.t 3)⟩, 
  ⟨(some 7), none, .bin .add false (.t 6) (.k (.sc (.int .i64 1))) (pu (.binOp .add 3 (.tmp 6) (.const (.int .i64 1)) 3) 3)⟩, 
  ⟨(some 3), none, .mv (.t 7)⟩]))))))
 (.seq (.reg [⟨(some 2), none, .mv (.k (.sc (.int .i64 (-1))))⟩])
 .ret)))
def k46 : List Nat := [0, 2, 3, 5, 12]
theorem ic46 : factsI Try.prog 46 = some (14, [.tmp 2], c46) := by kernel_rfl

-- slices.insertionSortCmpFunc[chargenet/api.Token] (53 slots)
def c47 : IC :=
 (.seq (.reg [⟨(some 10), none, .mv (.t 1)⟩, 
 ⟨(some 11), none, .bin .add false (.t 10) (.k (.sc (.int .i64 1))) (pu (.binOp .add 3 (.tmp 10) (.const (.int .i64 1)) 3) 3)⟩, 
 ⟨(some 8), none, .mv (.t 11)⟩])
 (.block 0 (.loop (.seq (.seq (.reg [⟨(some 12), none, .mv (.t 8)⟩, 
  ⟨(some 13), none, .mv (.t 2)⟩, 
  ⟨(some 14), none, .bin .lss false (.t 12) (.t 13) (pu (.binOp .lss 3 (.tmp 12) (.tmp 13) 3) 4)⟩])
  (.cond (.t 14) .skip
  (.exit 0)))
  (.seq (.block 1 (.seq (.reg [⟨(some 17), none, .mv (.t 8)⟩, 
  ⟨(some 9), none, .mv (.t 17)⟩])
  (.block 2 (.loop (.seq (.seq (.drw [0, 0, 3, 7, 15, 15, 15, 111, 239, 15, 15, 1039, 3599, 7695, 16383, 32767, 65535] [⟨(some 18), none, .mv (.t 9)⟩, 
   ⟨(some 19), none, .mv (.t 1)⟩, 
   ⟨(some 20), none, .bin .gtr false (.t 18) (.t 19) (pu (.binOp .gtr 3 (.tmp 18) (.tmp 19) 3) 4)⟩, 
   ⟨(some 21), none, .mv (.t 20)⟩, 
   ⟨(some 22), (some ((some 21), true)), .mv (.t 3)⟩, 
   ⟨(some 23), (some ((some 21), true)), .mv (.t 0)⟩, 
   ⟨(some 24), (some ((some 21), true)), .mv (.t 9)⟩, 
   ⟨(some 25), (some ((some 21), true)), .ixs 6 (.t 23) (.t 24)⟩, 
   ⟨(some 26), (some ((some 21), true)), .ld (some 6) (.t 25)⟩, 
   ⟨(some 27), (some ((some 21), true)), .mv (.t 0)⟩, 
   ⟨(some 28), (some ((some 21), true)), .mv (.t 9)⟩, 
   ⟨(some 29), (some ((some 21), true)), .bin .sub false (.t 28) (.k (.sc (.int .i64 1))) (pu (.binOp .sub 3 (.tmp 28) (.const (.int .i64 1)) 3) 3)⟩, 
   ⟨(some 30), (some ((some 21), true)), .ixs 6 (.t 27) (.t 29)⟩, 
   ⟨(some 31), (some ((some 21), true)), .ld (some 6) (.t 30)⟩, 
   ⟨(some 32), (some ((some 21), true)), .callv (.t 22) [(.t 26), (.t 31)]⟩, 
   ⟨(some 33), (some ((some 21), true)), .bin .lss false (.t 32) (.k (.sc (.int .i64 0))) (pu (.binOp .lss 3 (.tmp 32) (.const (.int .i64 0)) 3) 4)⟩, 
   ⟨(some 34), none, .pick (.t 21) (.t 33) (.k (.sc (.bool false)))⟩])
   (.cond (.t 34) .skip
   (.exit 2)))
   (.seq (.block 3 (.drw [0, 0, 0, 0, 8, 0, 0, 64, 224, 480, 0, 0, 3072, 7168, 16355, 32739, 65535, 131071] [⟨(some 37), none, .mv (.t 0)⟩, 
   ⟨(some 38), none, .mv (.t 9)⟩, 
   ⟨(some 39), none, .mv (.t 0)⟩, 
   ⟨(some 40), none, .mv (.t 9)⟩, 
   ⟨(some 41), none, .bin .sub false (.t 40) (.k (.sc (.int .i64 1))) (pu (.binOp .sub 3 (.tmp 40) (.const (.int .i64 1)) 3) 3)⟩, 
   ⟨(some 42), none, .mv (.t 0)⟩, 
   ⟨(some 43), none, .mv (.t 9)⟩, 
   ⟨(some 44), none, .bin .sub false (.t 43) (.k (.sc (.int .i64 1))) (pu (.binOp .sub 3 (.tmp 43) (.const (.int .i64 1)) 3) 3)⟩, 
   ⟨(some 45), none, .ixs 6 (.t 42) (.t 44)⟩, 
   ⟨(some 46), none, .ld (some 6) (.t 45)⟩, 
   ⟨(some 47), none, .mv (.t 0)⟩, 
   ⟨(some 48), none, .mv (.t 9)⟩, 
   ⟨(some 49), none, .ixs 6 (.t 47) (.t 48)⟩, 
   ⟨(some 50), none, .ld (some 6) (.t 49)⟩, 
   ⟨(some 51), none, .ixs 6 (.t 37) (.t 38)⟩, 
   ⟨none, none, .st 6 (.t 51) (.t 46)⟩, 
   ⟨(some 52), none, .ixs 6 (.t 39) (.t 41)⟩, 
   ⟨none, none, .st 6 (.t 52) (.t 50)⟩]))
   (.reg [⟨(some 35), none, .mv (.t 9)⟩, 
   ⟨(some 36), none, .bin .sub false (.t 35) (.k (.sc (.int .i64 1))) (pu (.binOp .sub 3 (.tmp 35) (.const (.int .i64 1)) 3) 3)⟩, 
   ⟨(some 9), none, .mv (.t 36)⟩])))))))
  (.reg [⟨(some 15), none, .mv (.t 8)⟩, 
  ⟨(some 16), none, .bin .add false (.t 15) (.k (.sc (.int .i64 1))) (pu (.binOp .add 3 (.tmp 15) (.const (.int .i64 1)) 3) 3)⟩, 
  ⟨(some 8), none, .mv (.t 16)⟩]))))))
def k47 : List Nat := [0, 1, 2, 3, 8, 9, 14, 34]
theorem ic47 : factsI Try.prog 47 = some (53, [], c47) := by kernel_rfl

-- slices.heapSortCmpFunc[chargenet/api.Token] (60 slots)
def c48 : IC :=
 (.seq (.reg [⟨(some 13), none, .mv (.t 1)⟩, 
 ⟨(some 8), none, .mv (.t 13)⟩])
 (.seq (.reg [⟨(some 9), none, .mv (.k (.sc (.int .i64 0)))⟩])
 (.seq (.reg [⟨(some 14), none, .mv (.t 2)⟩, 
 ⟨(some 15), none, .mv (.t 1)⟩, 
 ⟨(some 16), none, .bin .sub false (.t 14) (.t 15) (pu (.binOp .sub 3 (.tmp 14) (.tmp 15) 3) 3)⟩, 
 ⟨(some 10), none, .mv (.t 16)⟩])
 (.seq (.seq (.reg [⟨(some 17), none, .mv (.t 10)⟩, 
 ⟨(some 18), none, .bin .sub false (.t 17) (.k (.sc (.int .i64 1))) (pu (.binOp .sub 3 (.tmp 17) (.const (.int .i64 1)) 3) 3)⟩, 
 ⟨(some 19), none, .bin .quo false (.t 18) (.k (.sc (.int .i64 2))) (pu (.binOp .quo 3 (.tmp 18) (.const (.int .i64 2)) 3) 3)⟩, 
 ⟨(some 11), none, .mv (.t 19)⟩])
 (.block 0 (.loop (.seq (.seq (.reg [⟨(some 20), none, .mv (.t 11)⟩, 
  ⟨(some 21), none, .bin .geq false (.t 20) (.k (.sc (.int .i64 0))) (pu (.binOp .geq 3 (.tmp 20) (.const (.int .i64 0)) 3) 4)⟩])
  (.cond (.t 21) .skip
  (.exit 0)))
  (.seq (.block 1 (.reg [⟨(some 24), none, .mv (.t 0)⟩, 
  ⟨(some 25), none, .mv (.t 11)⟩, 
  ⟨(some 26), none, .mv (.t 10)⟩, 
  ⟨(some 27), none, .mv (.t 8)⟩, 
  ⟨(some 28), none, .mv (.t 3)⟩, 
  ⟨(some 29), none, .call 58 [(.t 24), (.t 25), (.t 26), (.t 27), (.t 28)]⟩]))
  (.reg [⟨(some 22), none, .mv (.t 11)⟩, 
  ⟨(some 23), none, .bin .sub false (.t 22) (.k (.sc (.int .i64 1))) (pu (.binOp .sub 3 (.tmp 22) (.const (.int .i64 1)) 3) 3)⟩, 
  ⟨(some 11), none, .mv (.t 23)⟩]))))))
 (.seq (.reg [⟨(some 30), none, .mv (.t 10)⟩, 
 ⟨(some 31), none, .bin .sub false (.t 30) (.k (.sc (.int .i64 1))) (pu (.binOp .sub 3 (.tmp 30) (.const (.int .i64 1)) 3) 3)⟩, 
 ⟨(some 12), none, .mv (.t 31)⟩])
 (.block 2 (.loop (.seq (.seq (.reg [⟨(some 32), none, .mv (.t 12)⟩, 
  ⟨(some 33), none, .bin .geq false (.t 32) (.k (.sc (.int .i64 0))) (pu (.binOp .geq 3 (.tmp 32) (.const (.int .i64 0)) 3) 4)⟩])
  (.cond (.t 33) .skip
  (.exit 2)))
  (.seq (.block 3 (.seq (.drw [0, 0, 0, 0, 0, 24, 0, 0, 0, 384, 960, 1984, 0, 0, 12288, 28672, 65475, 131011, 262143, 524287] [⟨(some 36), none, .mv (.t 0)⟩, 
  ⟨(some 37), none, .mv (.t 8)⟩, 
  ⟨(some 38), none, .mv (.t 0)⟩, 
  ⟨(some 39), none, .mv (.t 8)⟩, 
  ⟨(some 40), none, .mv (.t 12)⟩, 
  ⟨(some 41), none, .bin .add false (.t 39) (.t 40) (pu (.binOp .add 3 (.tmp 39) (.tmp 40) 3) 3)⟩, 
  ⟨(some 42), none, .mv (.t 0)⟩, 
  ⟨(some 43), none, .mv (.t 8)⟩, 
  ⟨(some 44), none, .mv (.t 12)⟩, 
  ⟨(some 45), none, .bin .add false (.t 43) (.t 44) (pu (.binOp .add 3 (.tmp 43) (.tmp 44) 3) 3)⟩, 
  ⟨(some 46), none, .ixs 6 (.t 42) (.t 45)⟩, 
  ⟨(some 47), none, .ld (some 6) (.t 46)⟩, 
  ⟨(some 48), none, .mv (.t 0)⟩, 
  ⟨(some 49), none, .mv (.t 8)⟩, 
  ⟨(some 50), none, .ixs 6 (.t 48) (.t 49)⟩, 
  ⟨(some 51), none, .ld (some 6) (.t 50)⟩, 
  ⟨(some 52), none, .ixs 6 (.t 36) (.t 37)⟩, 
  ⟨none, none, .st 6 (.t 52) (.t 47)⟩, 
  ⟨(some 53), none, .ixs 6 (.t 38) (.t 41)⟩, 
  ⟨none, none, .st 6 (.t 53) (.t 51)⟩])
  (.reg [⟨(some 54), none, .mv (.t 0)⟩, 
  ⟨(some 55), none, .mv (.t 9)⟩, 
  ⟨(some 56), none, .mv (.t 12)⟩, 
  ⟨(some 57), none, .mv (.t 8)⟩, 
  ⟨(some 58), none, .mv (.t 3)⟩, 
  ⟨(some 59), none, .call 58 [(.t 54), (.t 55), (.t 56), (.t 57), (.t 58)]⟩])))
  (.reg [⟨(some 34), none, .mv (.t 12)⟩, 
  ⟨(some 35), none, .bin .sub false (.t 34) (.k (.sc (.int .i64 1))) (pu (.binOp .sub 3 (.tmp 34) (.const (.int .i64 1)) 3) 3)⟩, 
  ⟨(some 12), none, .mv (.t 35)⟩]))))))))))
def k48 : List Nat := [0, 1, 2, 3, 8, 9, 10, 11, 12, 21, 33]
theorem ic48 : factsI Try.prog 48 = some (60, [], c48) := by kernel_rfl

-- slices.breakPatternsCmpFunc[chargenet/api.Token] (67 slots)
def c49 : IC :=
 (.seq (.reg [⟨(some 13), none, .mv (.t 2)⟩, 
 ⟨(some 14), none, .mv (.t 1)⟩, 
 ⟨(some 15), none, .bin .sub false (.t 13) (.t 14) (pu (.binOp .sub 3 (.tmp 13) (.tmp 14) 3) 3)⟩, 
 ⟨(some 8), none, .mv (.t 15)⟩])
 (.seq (.reg [⟨(some 16), none, .mv (.t 8)⟩, 
 ⟨(some 17), none, .bin .geq false (.t 16) (.k (.sc (.int .i64 8))) (pu (.binOp .geq 3 (.tmp 16) (.const (.int .i64 8)) 3) 4)⟩])
 (.cond (.t 17) (.seq (.reg [⟨(some 18), none, .mv (.t 8)⟩, 
  ⟨(some 19), none, .pur (pu (.convert 3 81 (.tmp 18)) 81)⟩, 
  ⟨(some 9), none, .al (.sc (.int .u64 0)) 1⟩, 
  ⟨none, none, .st 1 (.t 9) (.t 19)⟩])
  (.seq (.reg [⟨(some 20), none, .mv (.t 8)⟩, 
  ⟨(some 21), none, .call 59 [(.t 20)]⟩, 
  ⟨(some 10), none, .mv (.t 21)⟩])
  (.seq (.reg [⟨(some 22), none, .mv (.t 1)⟩, 
  ⟨(some 23), none, .mv (.t 8)⟩, 
  ⟨(some 24), none, .bin .quo false (.t 23) (.k (.sc (.int .i64 4))) (pu (.binOp .quo 3 (.tmp 23) (.const (.int .i64 4)) 3) 3)⟩, 
  ⟨(some 25), none, .bin .mul false (.t 24) (.k (.sc (.int .i64 2))) (pu (.binOp .mul 3 (.tmp 24) (.const (.int .i64 2)) 3) 3)⟩, 
  ⟨(some 26), none, .bin .add false (.t 22) (.t 25) (pu (.binOp .add 3 (.tmp 22) (.tmp 25) 3) 3)⟩, 
  ⟨(some 27), none, .bin .sub false (.t 26) (.k (.sc (.int .i64 1))) (pu (.binOp .sub 3 (.tmp 26) (.const (.int .i64 1)) 3) 3)⟩, 
  ⟨(some 11), none, .mv (.t 27)⟩])
  (.block 0 (.loop (.seq (.seq (.reg [⟨(some 28), none, .mv (.t 11)⟩, 
   ⟨(some 29), none, .mv (.t 1)⟩, 
   ⟨(some 30), none, .mv (.t 8)⟩, 
   ⟨(some 31), none, .bin .quo false (.t 30) (.k (.sc (.int .i64 4))) (pu (.binOp .quo 3 (.tmp 30) (.const (.int .i64 4)) 3) 3)⟩, 
   ⟨(some 32), none, .bin .mul false (.t 31) (.k (.sc (.int .i64 2))) (pu (.binOp .mul 3 (.tmp 31) (.const (.int .i64 2)) 3) 3)⟩, 
   ⟨(some 33), none, .bin .add false (.t 29) (.t 32) (pu (.binOp .add 3 (.tmp 29) (.tmp 32) 3) 3)⟩, 
   ⟨(some 34), none, .bin .add false (.t 33) (.k (.sc (.int .i64 1))) (pu (.binOp .add 3 (.tmp 33) (.const (.int .i64 1)) 3) 3)⟩, 
   ⟨(some 35), none, .bin .leq false (.t 28) (.t 34) (pu (.binOp .leq 3 (.tmp 28) (.tmp 34) 3) 4)⟩])
   (.cond (.t 35) .skip
   (.exit 0)))
   (.seq (.block 1 (.seq (.reg [⟨(some 38), none, .call 60 [(.t 9)]⟩, 
   ⟨(some 39), none, .mv (.t 10)⟩, 
   ⟨(some 40), none, .bin .sub false (.t 39) (.k (.sc (.int .u64 1))) (pu (.binOp .sub 65 (.tmp 39) (.const (.int .u64 1)) 65) 65)⟩, 
   ⟨(some 41), none, .bin .and false (.t 38) (.t 40) (pu (.binOp .and 65 (.tmp 38) (.tmp 40) 65) 65)⟩, 
   ⟨(some 42), none, .pur (pu (.convert 65 3 (.tmp 41)) 3)⟩, 
   ⟨(some 12), none, .mv (.t 42)⟩])
   (.seq (.seq (.reg [⟨(some 43), none, .mv (.t 12)⟩, 
   ⟨(some 44), none, .mv (.t 8)⟩, 
   ⟨(some 45), none, .bin .geq false (.t 43) (.t 44) (pu (.binOp .geq 3 (.tmp 43) (.tmp 44) 3) 4)⟩])
   (.cond (.t 45) (.reg [⟨(some 46), none, .mv (.t 12)⟩, 
    ⟨(some 47), none, .mv (.t 8)⟩, 
    ⟨(some 48), none, .bin .sub false (.t 46) (.t 47) (pu (.binOp .sub 3 (.tmp 46) (.tmp 47) 3) 3)⟩, 
    ⟨(some 12), none, .mv (.t 48)⟩])
   .skip))
   (.drw [0, 0, 0, 0, 0, 24, 0, 0, 0, 384, 960, 1984, 0, 0, 12288, 28672, 65475, 131011, 262143, 524287] [⟨(some 49), none, .mv (.t 0)⟩, 
   ⟨(some 50), none, .mv (.t 11)⟩, 
   ⟨(some 51), none, .mv (.t 0)⟩, 
   ⟨(some 52), none, .mv (.t 1)⟩, 
   ⟨(some 53), none, .mv (.t 12)⟩, 
   ⟨(some 54), none, .bin .add false (.t 52) (.t 53) (pu (.binOp .add 3 (.tmp 52) (.tmp 53) 3) 3)⟩, 
   ⟨(some 55), none, .mv (.t 0)⟩, 
   ⟨(some 56), none, .mv (.t 1)⟩, 
   ⟨(some 57), none, .mv (.t 12)⟩, 
   ⟨(some 58), none, .bin .add false (.t 56) (.t 57) (pu (.binOp .add 3 (.tmp 56) (.tmp 57) 3) 3)⟩, 
   ⟨(some 59), none, .ixs 6 (.t 55) (.t 58)⟩, 
   ⟨(some 60), none, .ld (some 6) (.t 59)⟩, 
   ⟨(some 61), none, .mv (.t 0)⟩, 
   ⟨(some 62), none, .mv (.t 11)⟩, 
   ⟨(some 63), none, .ixs 6 (.t 61) (.t 62)⟩, 
   ⟨(some 64), none, .ld (some 6) (.t 63)⟩, 
   ⟨(some 65), none, .ixs 6 (.t 49) (.t 50)⟩, 
   ⟨none, none, .st 6 (.t 65) (.t 60)⟩, 
   ⟨(some 66), none, .ixs 6 (.t 51) (.t 54)⟩, 
   ⟨none, none, .st 6 (.t 66) (.t 64)⟩]))))
   (.reg [⟨(some 36), none, .mv (.t 11)⟩, 
   ⟨(some 37), none, .bin .add false (.t 36) (.k (.sc (.int .i64 1))) (pu (.binOp .add 3 (.tmp 36) (.const (.int .i64 1)) 3) 3)⟩, 
   ⟨(some 11), none, .mv (.t 37)⟩]))))))))
 .skip)))
def k49 : List Nat := [0, 1, 2, 8, 9, 10, 11, 12, 17, 35, 45]
theorem ic49 : factsI Try.prog 49 = some (67, [], c49) := by kernel_rfl

-- slices.choosePivotCmpFunc[chargenet/api.Token] (63 slots)
def c50 : IC :=
 (.seq (.reg [⟨(some 8), none, .mv (.k (.sc (.int .i64 0)))⟩, 
 ⟨(some 9), none, .mv (.k (.sc (.int .i64 0)))⟩])
 (.seq (.reg [⟨(some 15), none, .mv (.t 2)⟩, 
 ⟨(some 16), none, .mv (.t 1)⟩, 
 ⟨(some 17), none, .bin .sub false (.t 15) (.t 16) (pu (.binOp .sub 3 (.tmp 15) (.tmp 16) 3) 3)⟩, 
 ⟨(some 10), none, .mv (.t 17)⟩])
 (.seq (.reg [⟨(some 11), none, .al (.sc (.int .i64 0)) 1⟩])
 (.seq (.reg [⟨(some 18), none, .mv (.t 1)⟩, 
 ⟨(some 19), none, .mv (.t 10)⟩, 
 ⟨(some 20), none, .bin .quo false (.t 19) (.k (.sc (.int .i64 4))) (pu (.binOp .quo 3 (.tmp 19) (.const (.int .i64 4)) 3) 3)⟩, 
 ⟨(some 21), none, .bin .mul false (.t 20) (.k (.sc (.int .i64 1))) (pu (.binOp .mul 3 (.tmp 20) (.const (.int .i64 1)) 3) 3)⟩, 
 ⟨(some 22), none, .bin .add false (.t 18) (.t 21) (pu (.binOp .add 3 (.tmp 18) (.tmp 21) 3) 3)⟩, 
 ⟨(some 12), none, .mv (.t 22)⟩])
 (.seq (.reg [⟨(some 23), none, .mv (.t 1)⟩, 
 ⟨(some 24), none, .mv (.t 10)⟩, 
 ⟨(some 25), none, .bin .quo false (.t 24) (.k (.sc (.int .i64 4))) (pu (.binOp .quo 3 (.tmp 24) (.const (.int .i64 4)) 3) 3)⟩, 
 ⟨(some 26), none, .bin .mul false (.t 25) (.k (.sc (.int .i64 2))) (pu (.binOp .mul 3 (.tmp 25) (.const (.int .i64 2)) 3) 3)⟩, 
 ⟨(some 27), none, .bin .add false (.t 23) (.t 26) (pu (.binOp .add 3 (.tmp 23) (.tmp 26) 3) 3)⟩, 
 ⟨(some 13), none, .mv (.t 27)⟩])
 (.seq (.reg [⟨(some 28), none, .mv (.t 1)⟩, 
 ⟨(some 29), none, .mv (.t 10)⟩, 
 ⟨(some 30), none, .bin .quo false (.t 29) (.k (.sc (.int .i64 4))) (pu (.binOp .quo 3 (.tmp 29) (.const (.int .i64 4)) 3) 3)⟩, 
 ⟨(some 31), none, .bin .mul false (.t 30) (.k (.sc (.int .i64 3))) (pu (.binOp .mul 3 (.tmp 30) (.const (.int .i64 3)) 3) 3)⟩, 
 ⟨(some 32), none, .bin .add false (.t 28) (.t 31) (pu (.binOp .add 3 (.tmp 28) (.tmp 31) 3) 3)⟩, 
 ⟨(some 14), none, .mv (.t 32)⟩])
 (.seq (.seq (.reg [⟨(some 33), none, .mv (.t 10)⟩, 
 ⟨(some 34), none, .bin .geq false (.t 33) (.k (.sc (.int .i64 8))) (pu (.binOp .geq 3 (.tmp 33) (.const (.int .i64 8)) 3) 4)⟩])
 (.cond (.t 34) (.seq (.seq (.reg [⟨(some 35), none, .mv (.t 10)⟩, 
  ⟨(some 36), none, .bin .geq false (.t 35) (.k (.sc (.int .i64 50))) (pu (.binOp .geq 3 (.tmp 35) (.const (.int .i64 50)) 3) 4)⟩])
  (.cond (.t 36) (.seq (.reg [⟨(some 37), none, .mv (.t 0)⟩, 
   ⟨(some 38), none, .mv (.t 12)⟩, 
   ⟨(some 39), none, .mv (.t 3)⟩, 
   ⟨(some 40), none, .call 61 [(.t 37), (.t 38), (.t 11), (.t 39)]⟩, 
   ⟨(some 12), none, .mv (.t 40)⟩])
   (.seq (.reg [⟨(some 41), none, .mv (.t 0)⟩, 
   ⟨(some 42), none, .mv (.t 13)⟩, 
   ⟨(some 43), none, .mv (.t 3)⟩, 
   ⟨(some 44), none, .call 61 [(.t 41), (.t 42), (.t 11), (.t 43)]⟩, 
   ⟨(some 13), none, .mv (.t 44)⟩])
   (.reg [⟨(some 45), none, .mv (.t 0)⟩, 
   ⟨(some 46), none, .mv (.t 14)⟩, 
   ⟨(some 47), none, .mv (.t 3)⟩, 
   ⟨(some 48), none, .call 61 [(.t 45), (.t 46), (.t 11), (.t 47)]⟩, 
   ⟨(some 14), none, .mv (.t 48)⟩])))
  .skip))
  (.reg [⟨(some 49), none, .mv (.t 0)⟩, 
  ⟨(some 50), none, .mv (.t 12)⟩, 
  ⟨(some 51), none, .mv (.t 13)⟩, 
  ⟨(some 52), none, .mv (.t 14)⟩, 
  ⟨(some 53), none, .mv (.t 3)⟩, 
  ⟨(some 54), none, .call 62 [(.t 49), (.t 50), (.t 51), (.t 52), (.t 11), (.t 53)]⟩, 
  ⟨(some 13), none, .mv (.t 54)⟩]))
 .skip))
 (.seq (.reg [⟨(some 55), none, .ld none (.t 11)⟩])
 (.block 0 (.seq (.reg [⟨(some 58), none, .bin .eql false (.t 55) (.k (.sc (.int .i64 0))) (pu (.binOp .eql 3 (.tmp 55) (.const (.int .i64 0)) 3) 4)⟩, 
 ⟨(some 57), none, .mv (.t 58)⟩])
 (.cond (.t 57) (.seq (.reg [⟨(some 59), none, .mv (.t 13)⟩, 
  ⟨(some 8), none, .mv (.t 59)⟩, 
  ⟨(some 9), none, .mv (.k (.sc (.int .i64 1)))⟩])
  .ret)
 (.seq (.reg [⟨(some 61), none, .bin .eql false (.t 55) (.k (.sc (.int .i64 12))) (pu (.binOp .eql 3 (.tmp 55) (.const (.int .i64 12)) 3) 4)⟩, 
  ⟨(some 60), none, .mv (.t 61)⟩])
  (.cond (.t 60) (.seq (.reg [⟨(some 62), none, .mv (.t 13)⟩, 
   ⟨(some 8), none, .mv (.t 62)⟩, 
   ⟨(some 9), none, .mv (.k (.sc (.int .i64 2)))⟩])
   .ret)
  (.seq (.reg [⟨(some 56), none, .mv (.t 13)⟩, 
   ⟨(some 8), none, .mv (.t 56)⟩, 
   ⟨(some 9), none, .mv (.k (.sc (.int .i64 0)))⟩])
   .ret))))))))))))))
def k50 : List Nat := [0, 1, 2, 3, 8, 9, 10, 11, 12, 13, 14, 34, 36, 55, 57, 60]
theorem ic50 : factsI Try.prog 50 = some (63, [.tmp 8, .tmp 9], c50) := by kernel_rfl

-- slices.reverseRangeCmpFunc[chargenet/api.Token] (34 slots)
def c51 : IC :=
 (.seq (.reg [⟨(some 10), none, .mv (.t 1)⟩, 
 ⟨(some 8), none, .mv (.t 10)⟩])
 (.seq (.reg [⟨(some 11), none, .mv (.t 2)⟩, 
 ⟨(some 12), none, .bin .sub false (.t 11) (.k (.sc (.int .i64 1))) (pu (.binOp .sub 3 (.tmp 11) (.const (.int .i64 1)) 3) 3)⟩, 
 ⟨(some 9), none, .mv (.t 12)⟩])
 (.block 0 (.loop (.seq (.seq (.reg [⟨(some 13), none, .mv (.t 8)⟩, 
  ⟨(some 14), none, .mv (.t 9)⟩, 
  ⟨(some 15), none, .bin .lss false (.t 13) (.t 14) (pu (.binOp .lss 3 (.tmp 13) (.tmp 14) 3) 4)⟩])
  (.cond (.t 15) .skip
  (.exit 0)))
  (.block 1 (.seq (.drw [0, 0, 0, 0, 0, 0, 48, 112, 0, 0, 768, 1792, 4083, 8179, 16383, 32767] [⟨(some 16), none, .mv (.t 0)⟩, 
  ⟨(some 17), none, .mv (.t 8)⟩, 
  ⟨(some 18), none, .mv (.t 0)⟩, 
  ⟨(some 19), none, .mv (.t 9)⟩, 
  ⟨(some 20), none, .mv (.t 0)⟩, 
  ⟨(some 21), none, .mv (.t 9)⟩, 
  ⟨(some 22), none, .ixs 6 (.t 20) (.t 21)⟩, 
  ⟨(some 23), none, .ld (some 6) (.t 22)⟩, 
  ⟨(some 24), none, .mv (.t 0)⟩, 
  ⟨(some 25), none, .mv (.t 8)⟩, 
  ⟨(some 26), none, .ixs 6 (.t 24) (.t 25)⟩, 
  ⟨(some 27), none, .ld (some 6) (.t 26)⟩, 
  ⟨(some 28), none, .ixs 6 (.t 16) (.t 17)⟩, 
  ⟨none, none, .st 6 (.t 28) (.t 23)⟩, 
  ⟨(some 29), none, .ixs 6 (.t 18) (.t 19)⟩, 
  ⟨none, none, .st 6 (.t 29) (.t 27)⟩])
  (.seq (.reg [⟨(some 30), none, .mv (.t 8)⟩, 
  ⟨(some 31), none, .bin .add false (.t 30) (.k (.sc (.int .i64 1))) (pu (.binOp .add 3 (.tmp 30) (.const (.int .i64 1)) 3) 3)⟩, 
  ⟨(some 8), none, .mv (.t 31)⟩])
  (.reg [⟨(some 32), none, .mv (.t 9)⟩, 
  ⟨(some 33), none, .bin .sub false (.t 32) (.k (.sc (.int .i64 1))) (pu (.binOp .sub 3 (.tmp 32) (.const (.int .i64 1)) 3) 3)⟩, 
  ⟨(some 9), none, .mv (.t 33)⟩])))))))))
def k51 : List Nat := [0, 1, 2, 8, 9, 15]
theorem ic51 : factsI Try.prog 51 = some (34, [], c51) := by kernel_rfl

-- slices.partialInsertionSortCmpFunc[chargenet/api.Token] (141 slots)
def c52 : IC :=
 (.seq (.reg [⟨(some 8), none, .mv (.k (.sc (.bool false)))⟩])
 (.seq (.reg [⟨(some 13), none, .mv (.t 1)⟩, 
 ⟨(some 14), none, .bin .add false (.t 13) (.k (.sc (.int .i64 1))) (pu (.binOp .add 3 (.tmp 13) (.const (.int .i64 1)) 3) 3)⟩, 
 ⟨(some 9), none, .mv (.t 14)⟩])
 (.seq (.seq (.reg [⟨(some 10), none, .mv (.k (.sc (.int .i64 0)))⟩])
 (.block 0 (.loop (.seq (.seq (.reg [⟨(some 15), none, .mv (.t 10)⟩, 
  ⟨(some 16), none, .bin .lss false (.t 15) (.k (.sc (.int .i64 5))) (pu (.binOp .lss 3 (.tmp 15) (.const (.int .i64 5)) 3) 4)⟩])
  (.cond (.t 16) .skip
  (.exit 0)))
  (.seq (.block 1 (.seq (.block 2 (.loop (.seq (.seq (.drw [0, 0, 3, 7, 15, 15, 15, 111, 239, 15, 15, 1039, 3599, 7695, 16383, 32767, 65535, 131071] [⟨(some 19), none, .mv (.t 9)⟩, 
   ⟨(some 20), none, .mv (.t 2)⟩, 
   ⟨(some 21), none, .bin .lss false (.t 19) (.t 20) (pu (.binOp .lss 3 (.tmp 19) (.tmp 20) 3) 4)⟩, 
   ⟨(some 22), none, .mv (.t 21)⟩, 
   ⟨(some 23), (some ((some 22), true)), .mv (.t 3)⟩, 
   ⟨(some 24), (some ((some 22), true)), .mv (.t 0)⟩, 
   ⟨(some 25), (some ((some 22), true)), .mv (.t 9)⟩, 
   ⟨(some 26), (some ((some 22), true)), .ixs 6 (.t 24) (.t 25)⟩, 
   ⟨(some 27), (some ((some 22), true)), .ld (some 6) (.t 26)⟩, 
   ⟨(some 28), (some ((some 22), true)), .mv (.t 0)⟩, 
   ⟨(some 29), (some ((some 22), true)), .mv (.t 9)⟩, 
   ⟨(some 30), (some ((some 22), true)), .bin .sub false (.t 29) (.k (.sc (.int .i64 1))) (pu (.binOp .sub 3 (.tmp 29) (.const (.int .i64 1)) 3) 3)⟩, 
   ⟨(some 31), (some ((some 22), true)), .ixs 6 (.t 28) (.t 30)⟩, 
   ⟨(some 32), (some ((some 22), true)), .ld (some 6) (.t 31)⟩, 
   ⟨(some 33), (some ((some 22), true)), .callv (.t 23) [(.t 27), (.t 32)]⟩, 
   ⟨(some 34), (some ((some 22), true)), .bin .lss false (.t 33) (.k (.sc (.int .i64 0))) (pu (.binOp .lss 3 (.tmp 33) (.const (.int .i64 0)) 3) 4)⟩, 
   ⟨(some 35), (some ((some 22), true)), .un .not (.t 34) (pu (.unOp .not 4 (.tmp 34)) 4)⟩, 
   ⟨(some 36), none, .pick (.t 22) (.t 35) (.k (.sc (.bool false)))⟩])
   (.cond (.t 36) .skip
   (.exit 2)))
   (.block 3 (.reg [⟨(some 37), none, .mv (.t 9)⟩, 
   ⟨(some 38), none, .bin .add false (.t 37) (.k (.sc (.int .i64 1))) (pu (.binOp .add 3 (.tmp 37) (.const (.int .i64 1)) 3) 3)⟩, 
   ⟨(some 9), none, .mv (.t 38)⟩])))))
  (.seq (.seq (.reg [⟨(some 39), none, .mv (.t 9)⟩, 
  ⟨(some 40), none, .mv (.t 2)⟩, 
  ⟨(some 41), none, .bin .eql false (.t 39) (.t 40) (pu (.binOp .eql 3 (.tmp 39) (.tmp 40) 3) 4)⟩])
  (.cond (.t 41) (.seq (.reg [⟨(some 8), none, .mv (.k (.sc (.bool true)))⟩])
   .ret)
  .skip))
  (.seq (.seq (.reg [⟨(some 42), none, .mv (.t 2)⟩, 
  ⟨(some 43), none, .mv (.t 1)⟩, 
  ⟨(some 44), none, .bin .sub false (.t 42) (.t 43) (pu (.binOp .sub 3 (.tmp 42) (.tmp 43) 3) 3)⟩, 
  ⟨(some 45), none, .bin .lss false (.t 44) (.k (.sc (.int .i64 50))) (pu (.binOp .lss 3 (.tmp 44) (.const (.int .i64 50)) 3) 4)⟩])
  (.cond (.t 45) (.seq (.reg [⟨(some 8), none, .mv (.k (.sc (.bool false)))⟩])
   .ret)
  .skip))
  (.seq (.drw [0, 0, 0, 0, 8, 0, 0, 64, 224, 480, 0, 0, 3072, 7168, 16355, 32739, 65535, 131071] [⟨(some 46), none, .mv (.t 0)⟩, 
  ⟨(some 47), none, .mv (.t 9)⟩, 
  ⟨(some 48), none, .mv (.t 0)⟩, 
  ⟨(some 49), none, .mv (.t 9)⟩, 
  ⟨(some 50), none, .bin .sub false (.t 49) (.k (.sc (.int .i64 1))) (pu (.binOp .sub 3 (.tmp 49) (.const (.int .i64 1)) 3) 3)⟩, 
  ⟨(some 51), none, .mv (.t 0)⟩, 
  ⟨(some 52), none, .mv (.t 9)⟩, 
  ⟨(some 53), none, .bin .sub false (.t 52) (.k (.sc (.int .i64 1))) (pu (.binOp .sub 3 (.tmp 52) (.const (.int .i64 1)) 3) 3)⟩, 
  ⟨(some 54), none, .ixs 6 (.t 51) (.t 53)⟩, 
  ⟨(some 55), none, .ld (some 6) (.t 54)⟩, 
  ⟨(some 56), none, .mv (.t 0)⟩, 
  ⟨(some 57), none, .mv (.t 9)⟩, 
  ⟨(some 58), none, .ixs 6 (.t 56) (.t 57)⟩, 
  ⟨(some 59), none, .ld (some 6) (.t 58)⟩, 
  ⟨(some 60), none, .ixs 6 (.t 46) (.t 47)⟩, 
  ⟨none, none, .st 6 (.t 60) (.t 55)⟩, 
  ⟨(some 61), none, .ixs 6 (.t 48) (.t 50)⟩, 
  ⟨none, none, .st 6 (.t 61) (.t 59)⟩])
  (.seq (.seq (.reg [⟨(some 62), none, .mv (.t 9)⟩, 
  ⟨(some 63), none, .mv (.t 1)⟩, 
  ⟨(some 64), none, .bin .sub false (.t 62) (.t 63) (pu (.binOp .sub 3 (.tmp 62) (.tmp 63) 3) 3)⟩, 
  ⟨(some 65), none, .bin .geq false (.t 64) (.k (.sc (.int .i64 2))) (pu (.binOp .geq 3 (.tmp 64) (.const (.int .i64 2)) 3) 4)⟩])
  (.cond (.t 65) (.seq (.reg [⟨(some 66), none, .mv (.t 9)⟩, 
   ⟨(some 67), none, .bin .sub false (.t 66) (.k (.sc (.int .i64 1))) (pu (.binOp .sub 3 (.tmp 66) (.const (.int .i64 1)) 3) 3)⟩, 
   ⟨(some 11), none, .mv (.t 67)⟩])
   (.block 4 (.loop (.seq (.seq (.reg [⟨(some 68), none, .mv (.t 11)⟩, 
    ⟨(some 69), none, .bin .geq false (.t 68) (.k (.sc (.int .i64 1))) (pu (.binOp .geq 3 (.tmp 68) (.const (.int .i64 1)) 3) 4)⟩])
    (.cond (.t 69) .skip
    (.exit 4)))
    (.seq (.block 5 (.seq (.seq (.drw [0, 0, 0, 6, 14, 0, 0, 64, 224, 480, 1023, 2047, 4095] [⟨(some 72), none, .mv (.t 3)⟩, 
    ⟨(some 73), none, .mv (.t 0)⟩, 
    ⟨(some 74), none, .mv (.t 11)⟩, 
    ⟨(some 75), none, .ixs 6 (.t 73) (.t 74)⟩, 
    ⟨(some 76), none, .ld (some 6) (.t 75)⟩, 
    ⟨(some 77), none, .mv (.t 0)⟩, 
    ⟨(some 78), none, .mv (.t 11)⟩, 
    ⟨(some 79), none, .bin .sub false (.t 78) (.k (.sc (.int .i64 1))) (pu (.binOp .sub 3 (.tmp 78) (.const (.int .i64 1)) 3) 3)⟩, 
    ⟨(some 80), none, .ixs 6 (.t 77) (.t 79)⟩, 
    ⟨(some 81), none, .ld (some 6) (.t 80)⟩, 
    ⟨(some 82), none, .callv (.t 72) [(.t 76), (.t 81)]⟩, 
    ⟨(some 83), none, .bin .lss false (.t 82) (.k (.sc (.int .i64 0))) (pu (.binOp .lss 3 (.tmp 82) (.const (.int .i64 0)) 3) 4)⟩, 
    ⟨(some 84), none, .un .not (.t 83) (pu (.unOp .not 4 (.tmp 83)) 4)⟩])
    (.cond (.t 84) (.exit 4)
    .skip))
    (.drw [0, 0, 0, 0, 8, 0, 0, 64, 224, 480, 0, 0, 3072, 7168, 16355, 32739, 65535, 131071] [⟨(some 85), none, .mv (.t 0)⟩, 
    ⟨(some 86), none, .mv (.t 11)⟩, 
    ⟨(some 87), none, .mv (.t 0)⟩, 
    ⟨(some 88), none, .mv (.t 11)⟩, 
    ⟨(some 89), none, .bin .sub false (.t 88) (.k (.sc (.int .i64 1))) (pu (.binOp .sub 3 (.tmp 88) (.const (.int .i64 1)) 3) 3)⟩, 
    ⟨(some 90), none, .mv (.t 0)⟩, 
    ⟨(some 91), none, .mv (.t 11)⟩, 
    ⟨(some 92), none, .bin .sub false (.t 91) (.k (.sc (.int .i64 1))) (pu (.binOp .sub 3 (.tmp 91) (.const (.int .i64 1)) 3) 3)⟩, 
    ⟨(some 93), none, .ixs 6 (.t 90) (.t 92)⟩, 
    ⟨(some 94), none, .ld (some 6) (.t 93)⟩, 
    ⟨(some 95), none, .mv (.t 0)⟩, 
    ⟨(some 96), none, .mv (.t 11)⟩, 
    ⟨(some 97), none, .ixs 6 (.t 95) (.t 96)⟩, 
    ⟨(some 98), none, .ld (some 6) (.t 97)⟩, 
    ⟨(some 99), none, .ixs 6 (.t 85) (.t 86)⟩, 
    ⟨none, none, .st 6 (.t 99) (.t 94)⟩, 
    ⟨(some 100), none, .ixs 6 (.t 87) (.t 89)⟩, 
    ⟨none, none, .st 6 (.t 100) (.t 98)⟩])))
    (.reg [⟨(some 70), none, .mv (.t 11)⟩, 
    ⟨(some 71), none, .bin .sub false (.t 70) (.k (.sc (.int .i64 1))) (pu (.binOp .sub 3 (.tmp 70) (.const (.int .i64 1)) 3) 3)⟩, 
    ⟨(some 11), none, .mv (.t 71)⟩]))))))
  .skip))
  (.seq (.reg [⟨(some 101), none, .mv (.t 2)⟩, 
  ⟨(some 102), none, .mv (.t 9)⟩, 
  ⟨(some 103), none, .bin .sub false (.t 101) (.t 102) (pu (.binOp .sub 3 (.tmp 101) (.tmp 102) 3) 3)⟩, 
  ⟨(some 104), none, .bin .geq false (.t 103) (.k (.sc (.int .i64 2))) (pu (.binOp .geq 3 (.tmp 103) (.const (.int .i64 2)) 3) 4)⟩])
  (.cond (.t 104) (.seq (.reg [⟨(some 105), none, .mv (.t 9)⟩, 
   ⟨(some 106), none, .bin .add false (.t 105) (.k (.sc (.int .i64 1))) (pu (.binOp .add 3 (.tmp 105) (.const (.int .i64 1)) 3) 3)⟩, 
   ⟨(some 12), none, .mv (.t 106)⟩])
   (.block 6 (.loop (.seq (.seq (.reg [⟨(some 107), none, .mv (.t 12)⟩, 
    ⟨(some 108), none, .mv (.t 2)⟩, 
    ⟨(some 109), none, .bin .lss false (.t 107) (.t 108) (pu (.binOp .lss 3 (.tmp 107) (.tmp 108) 3) 4)⟩])
    (.cond (.t 109) .skip
    (.exit 6)))
    (.seq (.block 7 (.seq (.seq (.drw [0, 0, 0, 6, 14, 0, 0, 64, 224, 480, 1023, 2047, 4095] [⟨(some 112), none, .mv (.t 3)⟩, 
    ⟨(some 113), none, .mv (.t 0)⟩, 
    ⟨(some 114), none, .mv (.t 12)⟩, 
    ⟨(some 115), none, .ixs 6 (.t 113) (.t 114)⟩, 
    ⟨(some 116), none, .ld (some 6) (.t 115)⟩, 
    ⟨(some 117), none, .mv (.t 0)⟩, 
    ⟨(some 118), none, .mv (.t 12)⟩, 
    ⟨(some 119), none, .bin .sub false (.t 118) (.k (.sc (.int .i64 1))) (pu (.binOp .sub 3 (.tmp 118) (.const (.int .i64 1)) 3) 3)⟩, 
    ⟨(some 120), none, .ixs 6 (.t 117) (.t 119)⟩, 
    ⟨(some 121), none, .ld (some 6) (.t 120)⟩, 
    ⟨(some 122), none, .callv (.t 112) [(.t 116), (.t 121)]⟩, 
    ⟨(some 123), none, .bin .lss false (.t 122) (.k (.sc (.int .i64 0))) (pu (.binOp .lss 3 (.tmp 122) (.const (.int .i64 0)) 3) 4)⟩, 
    ⟨(some 124), none, .un .not (.t 123) (pu (.unOp .not 4 (.tmp 123)) 4)⟩])
    (.cond (.t 124) (.exit 6)
    .skip))
    (.drw [0, 0, 0, 0, 8, 0, 0, 64, 224, 480, 0, 0, 3072, 7168, 16355, 32739, 65535, 131071] [⟨(some 125), none, .mv (.t 0)⟩, 
    ⟨(some 126), none, .mv (.t 12)⟩, 
    ⟨(some 127), none, .mv (.t 0)⟩, 
    ⟨(some 128), none, .mv (.t 12)⟩, 
    ⟨(some 129), none, .bin .sub false (.t 128) (.k (.sc (.int .i64 1))) (pu (.binOp .sub 3 (.tmp 128) (.const (.int .i64 1)) 3) 3)⟩, 
    ⟨(some 130), none, .mv (.t 0)⟩, 
    ⟨(some 131), none, .mv (.t 12)⟩, 
    ⟨(some 132), none, .bin .sub false (.t 131) (.k (.sc (.int .i64 1))) (pu (.binOp .sub 3 (.tmp 131) (.const (.int .i64 1)) 3) 3)⟩, 
    ⟨(some 133), none, .ixs 6 (.t 130) (.t 132)⟩, 
    ⟨(some 134), none, .ld (some 6) (.t 133)⟩, 
    ⟨(some 135), none, .mv (.t 0)⟩, 
    ⟨(some 136), none, .mv (.t 12)⟩, 
    ⟨(some 137), none, .ixs 6 (.t 135) (.t 136)⟩, 
    ⟨(some 138), none, .ld (some 6) (.t 137)⟩, 
    ⟨(some 139), none, .ixs 6 (.t 125) (.t 126)⟩, 
    ⟨none, none, .st 6 (.t 139) (.t 134)⟩, 
    ⟨(some 140), none, .ixs 6 (.t 127) (.t 129)⟩, 
    ⟨none, none, .st 6 (.t 140) (.t 138)⟩])))
    (.reg [⟨(some 110), none, .mv (.t 12)⟩, 
    ⟨(some 111), none, .bin .add false (.t 110) (.k (.sc (.int .i64 1))) (pu (.binOp .add 3 (.tmp 110) (.const (.int .i64 1)) 3) 3)⟩, 
    ⟨(some 12), none, .mv (.t 111)⟩]))))))
  .skip))))))))
  (.reg [⟨(some 17), none, .mv (.t 10)⟩, 
  ⟨(some 18), none, .bin .add false (.t 17) (.k (.sc (.int .i64 1))) (pu (.binOp .add 3 (.tmp 17) (.const (.int .i64 1)) 3) 3)⟩, 
  ⟨(some 10), none, .mv (.t 18)⟩]))))))
 (.seq (.reg [⟨(some 8), none, .mv (.k (.sc (.bool false)))⟩])
 .ret))))
def k52 : List Nat := [0, 1, 2, 3, 8, 9, 10, 11, 12, 16, 36, 41, 45, 65, 69, 84, 104, 109, 124]
theorem ic52 : factsI Try.prog 52 = some (141, [.tmp 8], c52) := by kernel_rfl

-- slices.partitionEqualCmpFunc[chargenet/api.Token] (90 slots)
def c53 : IC :=
 (.seq (.reg [⟨(some 10), none, .mv (.k (.sc (.int .i64 0)))⟩])
 (.seq (.drw [0, 0, 0, 0, 0, 0, 48, 112, 0, 0, 768, 1792, 4083, 8179, 16383, 32767] [⟨(some 13), none, .mv (.t 0)⟩, 
 ⟨(some 14), none, .mv (.t 1)⟩, 
 ⟨(some 15), none, .mv (.t 0)⟩, 
 ⟨(some 16), none, .mv (.t 3)⟩, 
 ⟨(some 17), none, .mv (.t 0)⟩, 
 ⟨(some 18), none, .mv (.t 3)⟩, 
 ⟨(some 19), none, .ixs 6 (.t 17) (.t 18)⟩, 
 ⟨(some 20), none, .ld (some 6) (.t 19)⟩, 
 ⟨(some 21), none, .mv (.t 0)⟩, 
 ⟨(some 22), none, .mv (.t 1)⟩, 
 ⟨(some 23), none, .ixs 6 (.t 21) (.t 22)⟩, 
 ⟨(some 24), none, .ld (some 6) (.t 23)⟩, 
 ⟨(some 25), none, .ixs 6 (.t 13) (.t 14)⟩, 
 ⟨none, none, .st 6 (.t 25) (.t 20)⟩, 
 ⟨(some 26), none, .ixs 6 (.t 15) (.t 16)⟩, 
 ⟨none, none, .st 6 (.t 26) (.t 24)⟩])
 (.seq (.reg [⟨(some 27), none, .mv (.t 1)⟩, 
 ⟨(some 28), none, .bin .add false (.t 27) (.k (.sc (.int .i64 1))) (pu (.binOp .add 3 (.tmp 27) (.const (.int .i64 1)) 3) 3)⟩, 
 ⟨(some 29), none, .mv (.t 2)⟩, 
 ⟨(some 30), none, .bin .sub false (.t 29) (.k (.sc (.int .i64 1))) (pu (.binOp .sub 3 (.tmp 29) (.const (.int .i64 1)) 3) 3)⟩, 
 ⟨(some 11), none, .mv (.t 28)⟩, 
 ⟨(some 12), none, .mv (.t 30)⟩])
 (.seq (.block 0 (.loop (.block 1 (.seq (.block 2 (.loop (.seq (.seq (.drw [0, 0, 3, 7, 15, 15, 15, 111, 239, 15, 15, 1551, 3599, 8191, 16383, 32767, 65535] [⟨(some 31), none, .mv (.t 11)⟩, 
   ⟨(some 32), none, .mv (.t 12)⟩, 
   ⟨(some 33), none, .bin .leq false (.t 31) (.t 32) (pu (.binOp .leq 3 (.tmp 31) (.tmp 32) 3) 4)⟩, 
   ⟨(some 34), none, .mv (.t 33)⟩, 
   ⟨(some 35), (some ((some 34), true)), .mv (.t 4)⟩, 
   ⟨(some 36), (some ((some 34), true)), .mv (.t 0)⟩, 
   ⟨(some 37), (some ((some 34), true)), .mv (.t 1)⟩, 
   ⟨(some 38), (some ((some 34), true)), .ixs 6 (.t 36) (.t 37)⟩, 
   ⟨(some 39), (some ((some 34), true)), .ld (some 6) (.t 38)⟩, 
   ⟨(some 40), (some ((some 34), true)), .mv (.t 0)⟩, 
   ⟨(some 41), (some ((some 34), true)), .mv (.t 11)⟩, 
   ⟨(some 42), (some ((some 34), true)), .ixs 6 (.t 40) (.t 41)⟩, 
   ⟨(some 43), (some ((some 34), true)), .ld (some 6) (.t 42)⟩, 
   ⟨(some 44), (some ((some 34), true)), .callv (.t 35) [(.t 39), (.t 43)]⟩, 
   ⟨(some 45), (some ((some 34), true)), .bin .lss false (.t 44) (.k (.sc (.int .i64 0))) (pu (.binOp .lss 3 (.tmp 44) (.const (.int .i64 0)) 3) 4)⟩, 
   ⟨(some 46), (some ((some 34), true)), .un .not (.t 45) (pu (.unOp .not 4 (.tmp 45)) 4)⟩, 
   ⟨(some 47), none, .pick (.t 34) (.t 46) (.k (.sc (.bool false)))⟩])
   (.cond (.t 47) .skip
   (.exit 2)))
   (.block 3 (.reg [⟨(some 48), none, .mv (.t 11)⟩, 
   ⟨(some 49), none, .bin .add false (.t 48) (.k (.sc (.int .i64 1))) (pu (.binOp .add 3 (.tmp 48) (.const (.int .i64 1)) 3) 3)⟩, 
   ⟨(some 11), none, .mv (.t 49)⟩])))))
  (.seq (.block 4 (.loop (.seq (.seq (.drw [0, 0, 3, 7, 15, 15, 15, 111, 239, 15, 15, 1551, 3599, 8191, 16383, 32767] [⟨(some 50), none, .mv (.t 11)⟩, 
   ⟨(some 51), none, .mv (.t 12)⟩, 
   ⟨(some 52), none, .bin .leq false (.t 50) (.t 51) (pu (.binOp .leq 3 (.tmp 50) (.tmp 51) 3) 4)⟩, 
   ⟨(some 53), none, .mv (.t 52)⟩, 
   ⟨(some 54), (some ((some 53), true)), .mv (.t 4)⟩, 
   ⟨(some 55), (some ((some 53), true)), .mv (.t 0)⟩, 
   ⟨(some 56), (some ((some 53), true)), .mv (.t 1)⟩, 
   ⟨(some 57), (some ((some 53), true)), .ixs 6 (.t 55) (.t 56)⟩, 
   ⟨(some 58), (some ((some 53), true)), .ld (some 6) (.t 57)⟩, 
   ⟨(some 59), (some ((some 53), true)), .mv (.t 0)⟩, 
   ⟨(some 60), (some ((some 53), true)), .mv (.t 12)⟩, 
   ⟨(some 61), (some ((some 53), true)), .ixs 6 (.t 59) (.t 60)⟩, 
   ⟨(some 62), (some ((some 53), true)), .ld (some 6) (.t 61)⟩, 
   ⟨(some 63), (some ((some 53), true)), .callv (.t 54) [(.t 58), (.t 62)]⟩, 
   ⟨(some 64), (some ((some 53), true)), .bin .lss false (.t 63) (.k (.sc (.int .i64 0))) (pu (.binOp .lss 3 (.tmp 63) (.const (.int .i64 0)) 3) 4)⟩, 
   ⟨(some 65), none, .pick (.t 53) (.t 64) (.k (.sc (.bool false)))⟩])
   (.cond (.t 65) .skip
   (.exit 4)))
   (.block 5 (.reg [⟨(some 66), none, .mv (.t 12)⟩, 
   ⟨(some 67), none, .bin .sub false (.t 66) (.k (.sc (.int .i64 1))) (pu (.binOp .sub 3 (.tmp 66) (.const (.int .i64 1)) 3) 3)⟩, 
   ⟨(some 12), none, .mv (.t 67)⟩])))))
  (.seq (.seq (.reg [⟨(some 68), none, .mv (.t 11)⟩, 
  ⟨(some 69), none, .mv (.t 12)⟩, 
  ⟨(some 70), none, .bin .gtr false (.t 68) (.t 69) (pu (.binOp .gtr 3 (.tmp 68) (.tmp 69) 3) 4)⟩])
  (.cond (.t 70) (.exit 0)
  .skip))
  (.seq (.drw [0, 0, 0, 0, 0, 0, 48, 112, 0, 0, 768, 1792, 4083, 8179, 16383, 32767] [⟨(some 71), none, .mv (.t 0)⟩, 
  ⟨(some 72), none, .mv (.t 11)⟩, 
  ⟨(some 73), none, .mv (.t 0)⟩, 
  ⟨(some 74), none, .mv (.t 12)⟩, 
  ⟨(some 75), none, .mv (.t 0)⟩, 
  ⟨(some 76), none, .mv (.t 12)⟩, 
  ⟨(some 77), none, .ixs 6 (.t 75) (.t 76)⟩, 
  ⟨(some 78), none, .ld (some 6) (.t 77)⟩, 
  ⟨(some 79), none, .mv (.t 0)⟩, 
  ⟨(some 80), none, .mv (.t 11)⟩, 
  ⟨(some 81), none, .ixs 6 (.t 79) (.t 80)⟩, 
  ⟨(some 82), none, .ld (some 6) (.t 81)⟩, 
  ⟨(some 83), none, .ixs 6 (.t 71) (.t 72)⟩, 
  ⟨none, none, .st 6 (.t 83) (.t 78)⟩, 
  ⟨(some 84), none, .ixs 6 (.t 73) (.t 74)⟩, 
  ⟨none, none, .st 6 (.t 84) (.t 82)⟩])
  (.seq (.reg [⟨(some 85), none, .mv (.t 11)⟩, 
  ⟨(some 86), none, .bin .add false (.t 85) (.k (.sc (.int .i64 1))) (pu (.binOp .add 3 (.tmp 85) (.const (.int .i64 1)) 3) 3)⟩, 
  ⟨(some 11), none, .mv (.t 86)⟩])
  (.reg [⟨(some 87), none, .mv (.t 12)⟩, 
  ⟨(some 88), none, .bin .sub false (.t 87) (.k (.sc (.int .i64 1))) (pu (.binOp .sub 3 (.tmp 87) (.const (.int .i64 1)) 3) 3)⟩, 
  ⟨(some 12), none, .mv (.t 88)⟩])))))))))
 (.seq (.reg [⟨(some 89), none, .mv (.t 11)⟩, 
 ⟨(some 10), none, .mv (.t 89)⟩])
 .ret)))))
def k53 : List Nat := [0, 1, 2, 3, 4, 10, 11, 12, 47, 65, 70]
theorem ic53 : factsI Try.prog 53 = some (90, [.tmp 10], c53) := by kernel_rfl

-- slices.partitionCmpFunc[chargenet/api.Token] (178 slots)
def c54 : IC :=
 (.seq (.reg [⟨(some 10), none, .mv (.k (.sc (.int .i64 0)))⟩, 
 ⟨(some 11), none, .mv (.k (.sc (.bool false)))⟩])
 (.seq (.drw [0, 0, 0, 0, 0, 0, 48, 112, 0, 0, 768, 1792, 4083, 8179, 16383, 32767] [⟨(some 14), none, .mv (.t 0)⟩, 
 ⟨(some 15), none, .mv (.t 1)⟩, 
 ⟨(some 16), none, .mv (.t 0)⟩, 
 ⟨(some 17), none, .mv (.t 3)⟩, 
 ⟨(some 18), none, .mv (.t 0)⟩, 
 ⟨(some 19), none, .mv (.t 3)⟩, 
 ⟨(some 20), none, .ixs 6 (.t 18) (.t 19)⟩, 
 ⟨(some 21), none, .ld (some 6) (.t 20)⟩, 
 ⟨(some 22), none, .mv (.t 0)⟩, 
 ⟨(some 23), none, .mv (.t 1)⟩, 
 ⟨(some 24), none, .ixs 6 (.t 22) (.t 23)⟩, 
 ⟨(some 25), none, .ld (some 6) (.t 24)⟩, 
 ⟨(some 26), none, .ixs 6 (.t 14) (.t 15)⟩, 
 ⟨none, none, .st 6 (.t 26) (.t 21)⟩, 
 ⟨(some 27), none, .ixs 6 (.t 16) (.t 17)⟩, 
 ⟨none, none, .st 6 (.t 27) (.t 25)⟩])
 (.seq (.reg [⟨(some 28), none, .mv (.t 1)⟩, 
 ⟨(some 29), none, .bin .add false (.t 28) (.k (.sc (.int .i64 1))) (pu (.binOp .add 3 (.tmp 28) (.const (.int .i64 1)) 3) 3)⟩, 
 ⟨(some 30), none, .mv (.t 2)⟩, 
 ⟨(some 31), none, .bin .sub false (.t 30) (.k (.sc (.int .i64 1))) (pu (.binOp .sub 3 (.tmp 30) (.const (.int .i64 1)) 3) 3)⟩, 
 ⟨(some 12), none, .mv (.t 29)⟩, 
 ⟨(some 13), none, .mv (.t 31)⟩])
 (.seq (.block 0 (.loop (.seq (.seq (.drw [0, 0, 3, 7, 15, 15, 15, 111, 239, 15, 15, 1551, 3599, 8191, 16383, 32767] [⟨(some 32), none, .mv (.t 12)⟩, 
  ⟨(some 33), none, .mv (.t 13)⟩, 
  ⟨(some 34), none, .bin .leq false (.t 32) (.t 33) (pu (.binOp .leq 3 (.tmp 32) (.tmp 33) 3) 4)⟩, 
  ⟨(some 35), none, .mv (.t 34)⟩, 
  ⟨(some 36), (some ((some 35), true)), .mv (.t 4)⟩, 
  ⟨(some 37), (some ((some 35), true)), .mv (.t 0)⟩, 
  ⟨(some 38), (some ((some 35), true)), .mv (.t 12)⟩, 
  ⟨(some 39), (some ((some 35), true)), .ixs 6 (.t 37) (.t 38)⟩, 
  ⟨(some 40), (some ((some 35), true)), .ld (some 6) (.t 39)⟩, 
  ⟨(some 41), (some ((some 35), true)), .mv (.t 0)⟩, 
  ⟨(some 42), (some ((some 35), true)), .mv (.t 1)⟩, 
  ⟨(some 43), (some ((some 35), true)), .ixs 6 (.t 41) (.t 42)⟩, 
  ⟨(some 44), (some ((some 35), true)), .ld (some 6) (.t 43)⟩, 
  ⟨(some 45), (some ((some 35), true)), .callv (.t 36) [(.t 40), (.t 44)]⟩, 
  ⟨(some 46), (some ((some 35), true)), .bin .lss false (.t 45) (.k (.sc (.int .i64 0))) (pu (.binOp .lss 3 (.tmp 45) (.const (.int .i64 0)) 3) 4)⟩, 
  ⟨(some 47), none, .pick (.t 35) (.t 46) (.k (.sc (.bool false)))⟩])
  (.cond (.t 47) .skip
  (.exit 0)))
  (.block 1 (.reg [⟨(some 48), none, .mv (.t 12)⟩, 
  ⟨(some 49), none, .bin .add false (.t 48) (.k (.sc (.int .i64 1))) (pu (.binOp .add 3 (.tmp 48) (.const (.int .i64 1)) 3) 3)⟩, 
  ⟨(some 12), none, .mv (.t 49)⟩])))))
 (.seq (.block 2 (.loop (.seq (.seq (.drw [0, 0, 3, 7, 15, 15, 15, 111, 239, 15, 15, 1551, 3599, 8191, 16383, 32767, 65535] [⟨(some 50), none, .mv (.t 12)⟩, 
  ⟨(some 51), none, .mv (.t 13)⟩, 
  ⟨(some 52), none, .bin .leq false (.t 50) (.t 51) (pu (.binOp .leq 3 (.tmp 50) (.tmp 51) 3) 4)⟩, 
  ⟨(some 53), none, .mv (.t 52)⟩, 
  ⟨(some 54), (some ((some 53), true)), .mv (.t 4)⟩, 
  ⟨(some 55), (some ((some 53), true)), .mv (.t 0)⟩, 
  ⟨(some 56), (some ((some 53), true)), .mv (.t 13)⟩, 
  ⟨(some 57), (some ((some 53), true)), .ixs 6 (.t 55) (.t 56)⟩, 
  ⟨(some 58), (some ((some 53), true)), .ld (some 6) (.t 57)⟩, 
  ⟨(some 59), (some ((some 53), true)), .mv (.t 0)⟩, 
  ⟨(some 60), (some ((some 53), true)), .mv (.t 1)⟩, 
  ⟨(some 61), (some ((some 53), true)), .ixs 6 (.t 59) (.t 60)⟩, 
  ⟨(some 62), (some ((some 53), true)), .ld (some 6) (.t 61)⟩, 
  ⟨(some 63), (some ((some 53), true)), .callv (.t 54) [(.t 58), (.t 62)]⟩, 
  ⟨(some 64), (some ((some 53), true)), .bin .lss false (.t 63) (.k (.sc (.int .i64 0))) (pu (.binOp .lss 3 (.tmp 63) (.const (.int .i64 0)) 3) 4)⟩, 
  ⟨(some 65), (some ((some 53), true)), .un .not (.t 64) (pu (.unOp .not 4 (.tmp 64)) 4)⟩, 
  ⟨(some 66), none, .pick (.t 53) (.t 65) (.k (.sc (.bool false)))⟩])
  (.cond (.t 66) .skip
  (.exit 2)))
  (.block 3 (.reg [⟨(some 67), none, .mv (.t 13)⟩, 
  ⟨(some 68), none, .bin .sub false (.t 67) (.k (.sc (.int .i64 1))) (pu (.binOp .sub 3 (.tmp 67) (.const (.int .i64 1)) 3) 3)⟩, 
  ⟨(some 13), none, .mv (.t 68)⟩])))))
 (.seq (.seq (.reg [⟨(some 69), none, .mv (.t 12)⟩, 
 ⟨(some 70), none, .mv (.t 13)⟩, 
 ⟨(some 71), none, .bin .gtr false (.t 69) (.t 70) (pu (.binOp .gtr 3 (.tmp 69) (.tmp 70) 3) 4)⟩])
 (.cond (.t 71) (.seq (.drw [0, 0, 0, 0, 0, 0, 48, 112, 0, 0, 768, 1792, 4083, 8179, 16383, 32767] [⟨(some 72), none, .mv (.t 0)⟩, 
  ⟨(some 73), none, .mv (.t 13)⟩, 
  ⟨(some 74), none, .mv (.t 0)⟩, 
  ⟨(some 75), none, .mv (.t 1)⟩, 
  ⟨(some 76), none, .mv (.t 0)⟩, 
  ⟨(some 77), none, .mv (.t 1)⟩, 
  ⟨(some 78), none, .ixs 6 (.t 76) (.t 77)⟩, 
  ⟨(some 79), none, .ld (some 6) (.t 78)⟩, 
  ⟨(some 80), none, .mv (.t 0)⟩, 
  ⟨(some 81), none, .mv (.t 13)⟩, 
  ⟨(some 82), none, .ixs 6 (.t 80) (.t 81)⟩, 
  ⟨(some 83), none, .ld (some 6) (.t 82)⟩, 
  ⟨(some 84), none, .ixs 6 (.t 72) (.t 73)⟩, 
  ⟨none, none, .st 6 (.t 84) (.t 79)⟩, 
  ⟨(some 85), none, .ixs 6 (.t 74) (.t 75)⟩, 
  ⟨none, none, .st 6 (.t 85) (.t 83)⟩])
  (.seq (.reg [⟨(some 86), none, .mv (.t 13)⟩, 
  ⟨(some 10), none, .mv (.t 86)⟩, 
  ⟨(some 11), none, .mv (.k (.sc (.bool true)))⟩])
  .ret))
 .skip))
 (.seq (.drw [0, 0, 0, 0, 0, 0, 48, 112, 0, 0, 768, 1792, 4083, 8179, 16383, 32767] [⟨(some 87), none, .mv (.t 0)⟩, 
 ⟨(some 88), none, .mv (.t 12)⟩, 
 ⟨(some 89), none, .mv (.t 0)⟩, 
 ⟨(some 90), none, .mv (.t 13)⟩, 
 ⟨(some 91), none, .mv (.t 0)⟩, 
 ⟨(some 92), none, .mv (.t 13)⟩, 
 ⟨(some 93), none, .ixs 6 (.t 91) (.t 92)⟩, 
 ⟨(some 94), none, .ld (some 6) (.t 93)⟩, 
 ⟨(some 95), none, .mv (.t 0)⟩, 
 ⟨(some 96), none, .mv (.t 12)⟩, 
 ⟨(some 97), none, .ixs 6 (.t 95) (.t 96)⟩, 
 ⟨(some 98), none, .ld (some 6) (.t 97)⟩, 
 ⟨(some 99), none, .ixs 6 (.t 87) (.t 88)⟩, 
 ⟨none, none, .st 6 (.t 99) (.t 94)⟩, 
 ⟨(some 100), none, .ixs 6 (.t 89) (.t 90)⟩, 
 ⟨none, none, .st 6 (.t 100) (.t 98)⟩])
 (.seq (.reg [⟨(some 101), none, .mv (.t 12)⟩, 
 ⟨(some 102), none, .bin .add false (.t 101) (.k (.sc (.int .i64 1))) (pu (.binOp .add 3 (.tmp 101) (.const (.int .i64 1)) 3) 3)⟩, 
 ⟨(some 12), none, .mv (.t 102)⟩])
 (.seq (.reg [⟨(some 103), none, .mv (.t 13)⟩, 
 ⟨(some 104), none, .bin .sub false (.t 103) (.k (.sc (.int .i64 1))) (pu (.binOp .sub 3 (.tmp 103) (.const (.int .i64 1)) 3) 3)⟩, 
 ⟨(some 13), none, .mv (.t 104)⟩])
 (.seq (.block 4 (.loop (.block 5 (.seq (.block 6 (.loop (.seq (.seq (.drw [0, 0, 3, 7, 15, 15, 15, 111, 239, 15, 15, 1551, 3599, 8191, 16383, 32767] [⟨(some 105), none, .mv (.t 12)⟩, 
   ⟨(some 106), none, .mv (.t 13)⟩, 
   ⟨(some 107), none, .bin .leq false (.t 105) (.t 106) (pu (.binOp .leq 3 (.tmp 105) (.tmp 106) 3) 4)⟩, 
   ⟨(some 108), none, .mv (.t 107)⟩, 
   ⟨(some 109), (some ((some 108), true)), .mv (.t 4)⟩, 
   ⟨(some 110), (some ((some 108), true)), .mv (.t 0)⟩, 
   ⟨(some 111), (some ((some 108), true)), .mv (.t 12)⟩, 
   ⟨(some 112), (some ((some 108), true)), .ixs 6 (.t 110) (.t 111)⟩, 
   ⟨(some 113), (some ((some 108), true)), .ld (some 6) (.t 112)⟩, 
   ⟨(some 114), (some ((some 108), true)), .mv (.t 0)⟩, 
   ⟨(some 115), (some ((some 108), true)), .mv (.t 1)⟩, 
   ⟨(some 116), (some ((some 108), true)), .ixs 6 (.t 114) (.t 115)⟩, 
   ⟨(some 117), (some ((some 108), true)), .ld (some 6) (.t 116)⟩, 
   ⟨(some 118), (some ((some 108), true)), .callv (.t 109) [(.t 113), (.t 117)]⟩, 
   ⟨(some 119), (some ((some 108), true)), .bin .lss false (.t 118) (.k (.sc (.int .i64 0))) (pu (.binOp .lss 3 (.tmp 118) (.const (.int .i64 0)) 3) 4)⟩, 
   ⟨(some 120), none, .pick (.t 108) (.t 119) (.k (.sc (.bool false)))⟩])
   (.cond (.t 120) .skip
   (.exit 6)))
   (.block 7 (.reg [⟨(some 121), none, .mv (.t 12)⟩, 
   ⟨(some 122), none, .bin .add false (.t 121) (.k (.sc (.int .i64 1))) (pu (.binOp .add 3 (.tmp 121) (.const (.int .i64 1)) 3) 3)⟩, 
   ⟨(some 12), none, .mv (.t 122)⟩])))))
  (.seq (.block 8 (.loop (.seq (.seq (.drw [0, 0, 3, 7, 15, 15, 15, 111, 239, 15, 15, 1551, 3599, 8191, 16383, 32767, 65535] [⟨(some 123), none, .mv (.t 12)⟩, 
   ⟨(some 124), none, .mv (.t 13)⟩, 
   ⟨(some 125), none, .bin .leq false (.t 123) (.t 124) (pu (.binOp .leq 3 (.tmp 123) (.tmp 124) 3) 4)⟩, 
   ⟨(some 126), none, .mv (.t 125)⟩, 
   ⟨(some 127), (some ((some 126), true)), .mv (.t 4)⟩, 
   ⟨(some 128), (some ((some 126), true)), .mv (.t 0)⟩, 
   ⟨(some 129), (some ((some 126), true)), .mv (.t 13)⟩, 
   ⟨(some 130), (some ((some 126), true)), .ixs 6 (.t 128) (.t 129)⟩, 
   ⟨(some 131), (some ((some 126), true)), .ld (some 6) (.t 130)⟩, 
   ⟨(some 132), (some ((some 126), true)), .mv (.t 0)⟩, 
   ⟨(some 133), (some ((some 126), true)), .mv (.t 1)⟩, 
   ⟨(some 134), (some ((some 126), true)), .ixs 6 (.t 132) (.t 133)⟩, 
   ⟨(some 135), (some ((some 126), true)), .ld (some 6) (.t 134)⟩, 
   ⟨(some 136), (some ((some 126), true)), .callv (.t 127) [(.t 131), (.t 135)]⟩, 
   ⟨(some 137), (some ((some 126), true)), .bin .lss false (.t 136) (.k (.sc (.int .i64 0))) (pu (.binOp .lss 3 (.tmp 136) (.const (.int .i64 0)) 3) 4)⟩, 
   ⟨(some 138), (some ((some 126), true)), .un .not (.t 137) (pu (.unOp .not 4 (.tmp 137)) 4)⟩, 
   ⟨(some 139), none, .pick (.t 126) (.t 138) (.k (.sc (.bool false)))⟩])
   (.cond (.t 139) .skip
   (.exit 8)))
   (.block 9 (.reg [⟨(some 140), none, .mv (.t 13)⟩, 
   ⟨(some 141), none, .bin .sub false (.t 140) (.k (.sc (.int .i64 1))) (pu (.binOp .sub 3 (.tmp 140) (.const (.int .i64 1)) 3) 3)⟩, 
   ⟨(some 13), none, .mv (.t 141)⟩])))))
  (.seq (.seq (.reg [⟨(some 142), none, .mv (.t 12)⟩, 
  ⟨(some 143), none, .mv (.t 13)⟩, 
  ⟨(some 144), none, .bin .gtr false (.t 142) (.t 143) (pu (.binOp .gtr 3 (.tmp 142) (.tmp 143) 3) 4)⟩])
  (.cond (.t 144) (.exit 4)
  .skip))
  (.seq (.drw [0, 0, 0, 0, 0, 0, 48, 112, 0, 0, 768, 1792, 4083, 8179, 16383, 32767] [⟨(some 145), none, .mv (.t 0)⟩, 
  ⟨(some 146), none, .mv (.t 12)⟩, 
  ⟨(some 147), none, .mv (.t 0)⟩, 
  ⟨(some 148), none, .mv (.t 13)⟩, 
  ⟨(some 149), none, .mv (.t 0)⟩, 
  ⟨(some 150), none, .mv (.t 13)⟩, 
  ⟨(some 151), none, .ixs 6 (.t 149) (.t 150)⟩, 
  ⟨(some 152), none, .ld (some 6) (.t 151)⟩, 
  ⟨(some 153), none, .mv (.t 0)⟩, 
  ⟨(some 154), none, .mv (.t 12)⟩, 
  ⟨(some 155), none, .ixs 6 (.t 153) (.t 154)⟩, 
  ⟨(some 156), none, .ld (some 6) (.t 155)⟩, 
  ⟨(some 157), none, .ixs 6 (.t 145) (.t 146)⟩, 
  ⟨none, none, .st 6 (.t 157) (.t 152)⟩, 
  ⟨(some 158), none, .ixs 6 (.t 147) (.t 148)⟩, 
  ⟨none, none, .st 6 (.t 158) (.t 156)⟩])
  (.seq (.reg [⟨(some 159), none, .mv (.t 12)⟩, 
  ⟨(some 160), none, .bin .add false (.t 159) (.k (.sc (.int .i64 1))) (pu (.binOp .add 3 (.tmp 159) (.const (.int .i64 1)) 3) 3)⟩, 
  ⟨(some 12), none, .mv (.t 160)⟩])
  (.reg [⟨(some 161), none, .mv (.t 13)⟩, 
  ⟨(some 162), none, .bin .sub false (.t 161) (.k (.sc (.int .i64 1))) (pu (.binOp .sub 3 (.tmp 161) (.const (.int .i64 1)) 3) 3)⟩, 
  ⟨(some 13), none, .mv (.t 162)⟩])))))))))
 (.seq (.drw [0, 0, 0, 0, 0, 0, 48, 112, 0, 0, 768, 1792, 4083, 8179, 16383, 32767] [⟨(some 163), none, .mv (.t 0)⟩, 
 ⟨(some 164), none, .mv (.t 13)⟩, 
 ⟨(some 165), none, .mv (.t 0)⟩, 
 ⟨(some 166), none, .mv (.t 1)⟩, 
 ⟨(some 167), none, .mv (.t 0)⟩, 
 ⟨(some 168), none, .mv (.t 1)⟩, 
 ⟨(some 169), none, .ixs 6 (.t 167) (.t 168)⟩, 
 ⟨(some 170), none, .ld (some 6) (.t 169)⟩, 
 ⟨(some 171), none, .mv (.t 0)⟩, 
 ⟨(some 172), none, .mv (.t 13)⟩, 
 ⟨(some 173), none, .ixs 6 (.t 171) (.t 172)⟩, 
 ⟨(some 174), none, .ld (some 6) (.t 173)⟩, 
 ⟨(some 175), none, .ixs 6 (.t 163) (.t 164)⟩, 
 ⟨none, none, .st 6 (.t 175) (.t 170)⟩, 
 ⟨(some 176), none, .ixs 6 (.t 165) (.t 166)⟩, 
 ⟨none, none, .st 6 (.t 176) (.t 174)⟩])
 (.seq (.reg [⟨(some 177), none, .mv (.t 13)⟩, 
 ⟨(some 10), none, .mv (.t 177)⟩, 
 ⟨(some 11), none, .mv (.k (.sc (.bool false)))⟩])
 .ret))))))))))))
def k54 : List Nat := [0, 1, 2, 3, 4, 10, 11, 12, 13, 47, 66, 71, 120, 139, 144]
theorem ic54 : factsI Try.prog 54 = some (178, [.tmp 10, .tmp 11], c54) := by kernel_rfl

-- math/bits.Len32 (19 slots)
def c55 : IC :=
 (.seq (.reg [⟨(some 2), none, .mv (.k (.sc (.int .i64 0)))⟩])
 (.seq (.seq (.reg [⟨(some 3), none, .mv (.t 0)⟩, 
 ⟨(some 4), none, .bin .geq false (.t 3) (.k (.sc (.int .u32 65536))) (pu (.binOp .geq 77 (.tmp 3) (.const (.int .u32 65536)) 77) 4)⟩])
 (.cond (.t 4) (.seq (.reg [⟨(some 5), none, .mv (.t 0)⟩, 
  ⟨(some 6), none, .bin .shr false (.t 5) (.k (.sc (.int .u64 16))) (pu (.binOp .shr 77 (.tmp 5) (.const (.int .u64 16)) 65) 77)⟩, 
  ⟨(some 0), none, .mv (.t 6)⟩])
  (.reg [⟨(some 2), none, .mv (.k (.sc (.int .i64 16)))⟩]))
 .skip))
 (.seq (.seq (.reg [⟨(some 7), none, .mv (.t 0)⟩, 
 ⟨(some 8), none, .bin .geq false (.t 7) (.k (.sc (.int .u32 256))) (pu (.binOp .geq 77 (.tmp 7) (.const (.int .u32 256)) 77) 4)⟩])
 (.cond (.t 8) (.seq (.reg [⟨(some 9), none, .mv (.t 0)⟩, 
  ⟨(some 10), none, .bin .shr false (.t 9) (.k (.sc (.int .u64 8))) (pu (.binOp .shr 77 (.tmp 9) (.const (.int .u64 8)) 65) 77)⟩, 
  ⟨(some 0), none, .mv (.t 10)⟩])
  (.reg [⟨(some 11), none, .mv (.t 2)⟩, 
  ⟨(some 12), none, .bin .add false (.t 11) (.k (.sc (.int .i64 8))) (pu (.binOp .add 3 (.tmp 11) (.const (.int .i64 8)) 3) 3)⟩, 
  ⟨(some 2), none, .mv (.t 12)⟩]))
 .skip))
 (.seq (.reg [⟨(some 13), none, .mv (.t 2)⟩, 
 ⟨(some 14), none, .mv (.t 0)⟩, 
 ⟨(some 15), none, .pur (pu (.convert 77 5 (.tmp 14)) 5)⟩, 
 ⟨(some 16), none, .pur (pu (.index 9 (.const (.string ⟨#[0, 1, 2, 2, 3, 3, 3, 3, 4, 4, 4, 4, 4, 4, 4, 4, 5, 5, 5, 5, 5, 5, 5, 5, 5, 5, 5, 5, 5, 5, 5, 5, 6, 6, 6, 6, 6, 6, 6, 6, 6, 6, 6, 6, 6, 6, 6, 6, 6, 6, 6, 6, 6, 6, 6, 6, 6, 6, 6, 6, 6, 6, 6, 6, 7, 7, 7, 7, 7, 7, 7, 7, 7, 7, 7, 7, 7, 7, 7, 7, 7, 7, 7, 7, 7, 7, 7, 7, 7, 7, 7, 7, 7, 7, 7, 7, 7, 7, 7, 7, 7, 7, 7, 7, 7, 7, 7, 7, 7, 7, 7, 7, 7, 7, 7, 7, 7, 7, 7, 7, 7, 7, 7, 7, 7, 7, 7, 7, 8, 8, 8, 8, 8, 8, 8, 8, 8, 8, 8, 8, 8, 8, 8, 8, 8, 8, 8, 8, 8, 8, 8, 8, 8, 8, 8, 8, 8, 8, 8, 8, 8, 8, 8, 8, 8, 8, 8, 8, 8, 8, 8, 8, 8, 8, 8, 8, 8, 8, 8, 8, 8, 8, 8, 8, 8, 8, 8, 8, 8, 8, 8, 8, 8, 8, 8, 8, 8, 8, 8, 8, 8, 8, 8, 8, 8, 8, 8, 8, 8, 8, 8, 8, 8, 8, 8, 8, 8, 8, 8, 8, 8, 8, 8, 8, 8, 8, 8, 8, 8, 8, 8, 8, 8, 8, 8, 8, 8, 8, 8, 8, 8, 8, 8, 8, 8, 8, 8, 8, 8, 8, 8, 8, 8, 8, 8, 8]⟩)) (.tmp 15)) 5)⟩, 
 ⟨(some 17), none, .pur (pu (.convert 5 3 (.tmp 16)) 3)⟩, 
 ⟨(some 18), none, .bin .add false (.t 13) (.t 17) (pu (.binOp .add 3 (.tmp 13) (.tmp 17) 3) 3)⟩, 
 ⟨(some 2), none, .mv (.t 18)⟩])
 .ret))))
def k55 : List Nat := [0, 2, 4, 8]
theorem ic55 : factsI Try.prog 55 = some (19, [.tmp 2], c55) := by kernel_rfl

-- math/bits.Len64 (25 slots)
def c56 : IC :=
 (.seq (.reg [⟨(some 2), none, .mv (.k (.sc (.int .i64 0)))⟩])
 (.seq (.seq (.reg [⟨(some 3), none, .mv (.t 0)⟩, 
 ⟨(some 4), none, .bin .geq false (.t 3) (.k (.sc (.int .u64 4294967296))) (pu (.binOp .geq 79 (.tmp 3) (.const (.int .u64 4294967296)) 79) 4)⟩])
 (.cond (.t 4) (.seq (.reg [⟨(some 5), none, .mv (.t 0)⟩, 
  ⟨(some 6), none, .bin .shr false (.t 5) (.k (.sc (.int .u64 32))) (pu (.binOp .shr 79 (.tmp 5) (.const (.int .u64 32)) 65) 79)⟩, 
  ⟨(some 0), none, .mv (.t 6)⟩])
  (.reg [⟨(some 2), none, .mv (.k (.sc (.int .i64 32)))⟩]))
 .skip))
 (.seq (.seq (.reg [⟨(some 7), none, .mv (.t 0)⟩, 
 ⟨(some 8), none, .bin .geq false (.t 7) (.k (.sc (.int .u64 65536))) (pu (.binOp .geq 79 (.tmp 7) (.const (.int .u64 65536)) 79) 4)⟩])
 (.cond (.t 8) (.seq (.reg [⟨(some 9), none, .mv (.t 0)⟩, 
  ⟨(some 10), none, .bin .shr false (.t 9) (.k (.sc (.int .u64 16))) (pu (.binOp .shr 79 (.tmp 9) (.const (.int .u64 16)) 65) 79)⟩, 
  ⟨(some 0), none, .mv (.t 10)⟩])
  (.reg [⟨(some 11), none, .mv (.t 2)⟩, 
  ⟨(some 12), none, .bin .add false (.t 11) (.k (.sc (.int .i64 16))) (pu (.binOp .add 3 (.tmp 11) (.const (.int .i64 16)) 3) 3)⟩, 
  ⟨(some 2), none, .mv (.t 12)⟩]))
 .skip))
 (.seq (.seq (.reg [⟨(some 13), none, .mv (.t 0)⟩, 
 ⟨(some 14), none, .bin .geq false (.t 13) (.k (.sc (.int .u64 256))) (pu (.binOp .geq 79 (.tmp 13) (.const (.int .u64 256)) 79) 4)⟩])
 (.cond (.t 14) (.seq (.reg [⟨(some 15), none, .mv (.t 0)⟩, 
  ⟨(some 16), none, .bin .shr false (.t 15) (.k (.sc (.int .u64 8))) (pu (.binOp .shr 79 (.tmp 15) (.const (.int .u64 8)) 65) 79)⟩, 
  ⟨(some 0), none, .mv (.t 16)⟩])
  (.reg [⟨(some 17), none, .mv (.t 2)⟩, 
  ⟨(some 18), none, .bin .add false (.t 17) (.k (.sc (.int .i64 8))) (pu (.binOp .add 3 (.tmp 17) (.const (.int .i64 8)) 3) 3)⟩, 
  ⟨(some 2), none, .mv (.t 18)⟩]))
 .skip))
 (.seq (.reg [⟨(some 19), none, .mv (.t 2)⟩, 
 ⟨(some 20), none, .mv (.t 0)⟩, 
 ⟨(some 21), none, .pur (pu (.convert 79 5 (.tmp 20)) 5)⟩, 
 ⟨(some 22), none, .pur (pu (.index 9 (.const (.string ⟨#[0, 1, 2, 2, 3, 3, 3, 3, 4, 4, 4, 4, 4, 4, 4, 4, 5, 5, 5, 5, 5, 5, 5, 5, 5, 5, 5, 5, 5, 5, 5, 5, 6, 6, 6, 6, 6, 6, 6, 6, 6, 6, 6, 6, 6, 6, 6, 6, 6, 6, 6, 6, 6, 6, 6, 6, 6, 6, 6, 6, 6, 6, 6, 6, 7, 7, 7, 7, 7, 7, 7, 7, 7, 7, 7, 7, 7, 7, 7, 7, 7, 7, 7, 7, 7, 7, 7, 7, 7, 7, 7, 7, 7, 7, 7, 7, 7, 7, 7, 7, 7, 7, 7, 7, 7, 7, 7, 7, 7, 7, 7, 7, 7, 7, 7, 7, 7, 7, 7, 7, 7, 7, 7, 7, 7, 7, 7, 7, 8, 8, 8, 8, 8, 8, 8, 8, 8, 8, 8, 8, 8, 8, 8, 8, 8, 8, 8, 8, 8, 8, 8, 8, 8, 8, 8, 8, 8, 8, 8, 8, 8, 8, 8, 8, 8, 8, 8, 8, 8, 8, 8, 8, 8, 8, 8, 8, 8, 8, 8, 8, 8, 8, 8, 8, 8, 8, 8, 8, 8, 8, 8, 8, 8, 8, 8, 8, 8, 8, 8, 8, 8, 8, 8, 8, 8, 8, 8, 8, 8, 8, 8, 8, 8, 8, 8, 8, 8, 8, 8, 8, 8, 8, 8, 8, 8, 8, 8, 8, 8, 8, 8, 8, 8, 8, 8, 8, 8, 8, 8, 8, 8, 8, 8, 8, 8, 8, 8, 8, 8, 8, 8, 8, 8, 8, 8, 8]⟩)) (.tmp 21)) 5)⟩, 
 ⟨(some 23), none, .pur (pu (.convert 5 3 (.tmp 22)) 3)⟩, 
 ⟨(some 24), none, .bin .add false (.t 19) (.t 23) (pu (.binOp .add 3 (.tmp 19) (.tmp 23) 3) 3)⟩, 
 ⟨(some 2), none, .mv (.t 24)⟩])
 .ret)))))
def k56 : List Nat := [0, 2, 4, 8, 14]
theorem ic56 : factsI Try.prog 56 = some (25, [.tmp 2], c56) := by kernel_rfl

-- chargenet/chargenetref01.Capital (12 slots)
def c57 : IC :=
 (.seq (.reg [⟨(some 2), none, .mv (.k (.sc (.int .u8 0)))⟩])
 (.seq (.seq (.reg [⟨(some 3), none, .mv (.t 0)⟩, 
 ⟨(some 4), none, .bin .geq false (.t 3) (.k (.sc (.int .u8 97))) (pu (.binOp .geq 5 (.tmp 3) (.const (.int .u8 97)) 5) 4)⟩, 
 ⟨(some 5), none, .mv (.t 4)⟩, 
 ⟨(some 6), (some ((some 5), true)), .mv (.t 0)⟩, 
 ⟨(some 7), (some ((some 5), true)), .bin .leq false (.t 6) (.k (.sc (.int .u8 122))) (pu (.binOp .leq 5 (.tmp 6) (.const (.int .u8 122)) 5) 4)⟩, 
 ⟨(some 8), none, .pick (.t 5) (.t 7) (.k (.sc (.bool false)))⟩])
 (.cond (.t 8) (.seq (.reg [⟨(some 9), none, .mv (.t 0)⟩, 
  ⟨(some 10), none, .bin .sub false (.t 9) (.k (.sc (.int .u8 32))) (pu (.binOp .sub 5 (.tmp 9) (.const (.int .u8 32)) 5) 5)⟩, 
  ⟨(some 2), none, .mv (.t 10)⟩])
  .ret)
 .skip))
 (.seq (.reg [⟨(some 11), none, .mv (.t 0)⟩, 
 ⟨(some 2), none, .mv (.t 11)⟩])
 .ret)))
def k57 : List Nat := [0, 2, 8]
theorem ic57 : factsI Try.prog 57 = some (12, [.tmp 2], c57) := by kernel_rfl

end Go.Proofs.Ytlkejejgaenjcaa
