import Derived.Test.YtdidgmhkgcblhaaRows
import Derived.Test.YtdidgmhkgcblhaaIdlM4
namespace Go.Proofs.Ytdidgmhkgcblhaa
open Go.Idl
-- chargenet/chargenetlaw20.UsageValids (19 slots)
def c3 : IC :=
 (.seq (.reg [⟨(some 4), none, .mv (.k (.sc (.bool false)))⟩])
 (.seq (.seq (.reg [⟨(some 5), none, .mv (.t 0)⟩, 
 ⟨(some 6), none, .len (.t 5) (pu (.call ⟨.builtin .len, #[(.tmp 5)], #[22]⟩) 3)⟩, 
 ⟨(some 7), none, .bin .gtr false (.t 6) (.k (.sc (.int .i64 1030))) (pu (.binOp .gtr 3 (.tmp 6) (.const (.int .i64 1030)) 3) 4)⟩])
 (.cond (.t 7) (.seq (.reg [⟨(some 8), none, .call 9 []⟩, 
  ⟨(some 4), none, .mv (.t 8)⟩])
  .ret)
 .skip))
 (.seq (.reg [⟨(some 9), none, .mv (.t 0)⟩, 
 ⟨(some 10), none, .mv (.t 1)⟩, 
 ⟨(some 11), none, .call 10 [(.t 9), (.t 10)]⟩, 
 ⟨(some 12), none, .mv (.t 0)⟩, 
 ⟨(some 13), none, .mv (.t 1)⟩, 
 ⟨(some 14), none, .call 11 [(.t 12), (.t 13)]⟩, 
 ⟨(some 15), none, .bin .eql false (.t 11) (.t 14) (pu (.binOp .eql 24 (.tmp 11) (.tmp 14) 24) 4)⟩, 
 ⟨(some 16), none, .mv (.t 15)⟩, 
 ⟨(some 17), (some ((some 16), true)), .call 9 []⟩, 
 ⟨(some 18), none, .pick (.t 16) (.t 17) (.k (.sc (.bool false)))⟩, 
 ⟨(some 4), none, .mv (.t 18)⟩])
 .ret)))
def k3 : List Nat := [0, 1, 4, 7]
theorem ic3 : factsI Try.prog 3 = some (19, [.tmp 4], c3) := by kernel_rfl

-- chargenet/chargenetlaw20.UsageTotals (36 slots)
def c4 : IC :=
 (.seq (.reg [⟨(some 4), none, .mv (.k (.sc (.bool false)))⟩])
 (.seq (.seq (.reg [⟨(some 9), none, .mv (.t 0)⟩, 
 ⟨(some 10), none, .len (.t 9) (pu (.call ⟨.builtin .len, #[(.tmp 9)], #[22]⟩) 3)⟩, 
 ⟨(some 11), none, .bin .gtr false (.t 10) (.k (.sc (.int .i64 1030))) (pu (.binOp .gtr 3 (.tmp 10) (.const (.int .i64 1030)) 3) 4)⟩])
 (.cond (.t 11) (.seq (.reg [⟨(some 12), none, .call 9 []⟩, 
  ⟨(some 4), none, .mv (.t 12)⟩])
  .ret)
 .skip))
 (.seq (.reg [⟨(some 14), none, .mv (.t 0)⟩, 
 ⟨(some 15), none, .mv (.t 1)⟩, 
 ⟨(some 16), none, .call 12 [(.t 14), (.t 15)]⟩, 
 ⟨(some 13), none, .mv (.t 16)⟩, 
 ⟨(some 17), none, .ext (.t 13) 0⟩, 
 ⟨(some 18), none, .ext (.t 13) 1⟩, 
 ⟨(some 5), none, .mv (.t 17)⟩, 
 ⟨(some 6), none, .mv (.t 18)⟩])
 (.seq (.reg [⟨(some 20), none, .mv (.t 0)⟩, 
 ⟨(some 21), none, .mv (.t 1)⟩, 
 ⟨(some 22), none, .call 13 [(.t 20), (.t 21)]⟩, 
 ⟨(some 19), none, .mv (.t 22)⟩, 
 ⟨(some 23), none, .ext (.t 19) 0⟩, 
 ⟨(some 24), none, .ext (.t 19) 1⟩, 
 ⟨(some 7), none, .mv (.t 23)⟩, 
 ⟨(some 8), none, .mv (.t 24)⟩])
 (.seq (.reg [⟨(some 25), none, .mv (.t 5)⟩, 
 ⟨(some 26), none, .mv (.t 7)⟩, 
 ⟨(some 27), none, .bin .eql false (.t 25) (.t 26) (pu (.binOp .eql 3 (.tmp 25) (.tmp 26) 3) 4)⟩, 
 ⟨(some 28), none, .mv (.t 27)⟩, 
 ⟨(some 29), (some ((some 28), true)), .mv (.t 6)⟩, 
 ⟨(some 30), (some ((some 28), true)), .mv (.t 8)⟩, 
 ⟨(some 31), (some ((some 28), true)), .bin .eql false (.t 29) (.t 30) (pu (.binOp .eql 24 (.tmp 29) (.tmp 30) 24) 4)⟩, 
 ⟨(some 32), none, .pick (.t 28) (.t 31) (.k (.sc (.bool false)))⟩, 
 ⟨(some 33), none, .mv (.t 32)⟩, 
 ⟨(some 34), (some ((some 33), true)), .call 9 []⟩, 
 ⟨(some 35), none, .pick (.t 33) (.t 34) (.k (.sc (.bool false)))⟩, 
 ⟨(some 4), none, .mv (.t 35)⟩])
 .ret)))))
def k4 : List Nat := [0, 1, 4, 5, 6, 7, 8, 11]
theorem ic4 : factsI Try.prog 4 = some (36, [.tmp 4], c4) := by kernel_rfl

-- chargenet/chargenetlaw20.UsageMinutes (67 slots)
def c5 : IC :=
 (.seq (.reg [⟨(some 4), none, .mv (.k (.sc (.bool false)))⟩])
 (.seq (.seq (.reg [⟨(some 13), none, .mv (.t 0)⟩, 
 ⟨(some 14), none, .len (.t 13) (pu (.call ⟨.builtin .len, #[(.tmp 13)], #[22]⟩) 3)⟩, 
 ⟨(some 15), none, .bin .gtr false (.t 14) (.k (.sc (.int .i64 40))) (pu (.binOp .gtr 3 (.tmp 14) (.const (.int .i64 40)) 3) 4)⟩, 
 ⟨(some 16), none, .mv (.t 15)⟩, 
 ⟨(some 17), (some ((some 16), false)), .mv (.t 0)⟩, 
 ⟨(some 18), (some ((some 16), false)), .call 14 [(.t 17)]⟩, 
 ⟨(some 19), (some ((some 16), false)), .un .not (.t 18) (pu (.unOp .not 4 (.tmp 18)) 4)⟩, 
 ⟨(some 20), none, .pick (.t 16) (.k (.sc (.bool true))) (.t 19)⟩])
 (.cond (.t 20) (.seq (.reg [⟨(some 21), none, .call 9 []⟩, 
  ⟨(some 4), none, .mv (.t 21)⟩])
  .ret)
 .skip))
 (.seq (.reg [⟨(some 23), none, .mv (.t 0)⟩, 
 ⟨(some 24), none, .mv (.t 1)⟩, 
 ⟨(some 25), none, .call 15 [(.t 23), (.t 24)]⟩, 
 ⟨(some 22), none, .mv (.t 25)⟩, 
 ⟨(some 26), none, .ext (.t 22) 0⟩, 
 ⟨(some 27), none, .ext (.t 22) 1⟩, 
 ⟨(some 5), none, .mv (.t 26)⟩, 
 ⟨(some 6), none, .mv (.t 27)⟩])
 (.seq (.reg [⟨(some 29), none, .mv (.t 0)⟩, 
 ⟨(some 30), none, .mv (.t 1)⟩, 
 ⟨(some 31), none, .call 16 [(.t 29), (.t 30)]⟩, 
 ⟨(some 28), none, .mv (.t 31)⟩, 
 ⟨(some 32), none, .ext (.t 28) 0⟩, 
 ⟨(some 33), none, .ext (.t 28) 1⟩, 
 ⟨(some 7), none, .mv (.t 32)⟩, 
 ⟨(some 8), none, .mv (.t 33)⟩])
 (.seq (.reg [⟨(some 35), none, .mv (.t 0)⟩, 
 ⟨(some 36), none, .mv (.t 1)⟩, 
 ⟨(some 37), none, .call 17 [(.t 35), (.t 36)]⟩, 
 ⟨(some 34), none, .mv (.t 37)⟩, 
 ⟨(some 38), none, .ext (.t 34) 0⟩, 
 ⟨(some 39), none, .ext (.t 34) 1⟩, 
 ⟨(some 9), none, .mv (.t 38)⟩, 
 ⟨(some 10), none, .mv (.t 39)⟩])
 (.seq (.reg [⟨(some 41), none, .mv (.t 0)⟩, 
 ⟨(some 42), none, .mv (.t 1)⟩, 
 ⟨(some 43), none, .call 18 [(.t 41), (.t 42)]⟩, 
 ⟨(some 40), none, .mv (.t 43)⟩, 
 ⟨(some 44), none, .ext (.t 40) 0⟩, 
 ⟨(some 45), none, .ext (.t 40) 1⟩, 
 ⟨(some 11), none, .mv (.t 44)⟩, 
 ⟨(some 12), none, .mv (.t 45)⟩])
 (.seq (.reg [⟨(some 46), none, .mv (.t 5)⟩, 
 ⟨(some 47), none, .mv (.t 7)⟩, 
 ⟨(some 48), none, .call 19 [(.t 46), (.t 47)]⟩, 
 ⟨(some 49), none, .mv (.t 48)⟩, 
 ⟨(some 50), (some ((some 49), true)), .mv (.t 6)⟩, 
 ⟨(some 51), (some ((some 49), true)), .mv (.t 8)⟩, 
 ⟨(some 52), (some ((some 49), true)), .bin .eql false (.t 50) (.t 51) (pu (.binOp .eql 24 (.tmp 50) (.tmp 51) 24) 4)⟩, 
 ⟨(some 53), none, .pick (.t 49) (.t 52) (.k (.sc (.bool false)))⟩, 
 ⟨(some 54), none, .mv (.t 53)⟩, 
 ⟨(some 55), (some ((some 54), true)), .mv (.t 9)⟩, 
 ⟨(some 56), (some ((some 54), true)), .mv (.t 11)⟩, 
 ⟨(some 57), (some ((some 54), true)), .call 20 [(.t 55), (.t 56)]⟩, 
 ⟨(some 58), none, .pick (.t 54) (.t 57) (.k (.sc (.bool false)))⟩, 
 ⟨(some 59), none, .mv (.t 58)⟩, 
 ⟨(some 60), (some ((some 59), true)), .mv (.t 10)⟩, 
 ⟨(some 61), (some ((some 59), true)), .mv (.t 12)⟩, 
 ⟨(some 62), (some ((some 59), true)), .bin .eql false (.t 60) (.t 61) (pu (.binOp .eql 24 (.tmp 60) (.tmp 61) 24) 4)⟩, 
 ⟨(some 63), none, .pick (.t 59) (.t 62) (.k (.sc (.bool false)))⟩, 
 ⟨(some 64), none, .mv (.t 63)⟩, 
 ⟨(some 65), (some ((some 64), true)), .call 9 []⟩, 
 ⟨(some 66), none, .pick (.t 64) (.t 65) (.k (.sc (.bool false)))⟩, 
 ⟨(some 4), none, .mv (.t 66)⟩])
 .ret)))))))
def k5 : List Nat := [0, 1, 4, 5, 6, 7, 8, 9, 10, 11, 12, 20]
theorem ic5 : factsI Try.prog 5 = some (67, [.tmp 4], c5) := by kernel_rfl

-- chargenet/chargenetlaw20.UsageSums (138 slots)
def c6 : IC :=
 (.seq (.reg [⟨(some 4), none, .mv (.k (.sc (.bool false)))⟩])
 (.seq (.seq (.drw [0, 1, 3, 7, 15, 15, 63, 127, 255, 511, 1023, 1023, 3071, 7167, 16383, 32767, 65535, 1023, 132095, 394239, 918527, 2097151, 4194303, 8388607] [⟨(some 15), none, .mv (.t 0)⟩, 
 ⟨(some 16), none, .len (.t 15) (pu (.call ⟨.builtin .len, #[(.tmp 15)], #[22]⟩) 3)⟩, 
 ⟨(some 17), none, .bin .gtr false (.t 16) (.k (.sc (.int .i64 40))) (pu (.binOp .gtr 3 (.tmp 16) (.const (.int .i64 40)) 3) 4)⟩, 
 ⟨(some 18), none, .mv (.t 17)⟩, 
 ⟨(some 19), (some ((some 18), false)), .mv (.t 0)⟩, 
 ⟨(some 20), (some ((some 18), false)), .mv (.t 1)⟩, 
 ⟨(some 21), (some ((some 18), false)), .call 11 [(.t 19), (.t 20)]⟩, 
 ⟨(some 22), (some ((some 18), false)), .bin .neq false (.t 21) (.k (.sc (.int .i64 0))) (pu (.binOp .neq 24 (.tmp 21) (.const (.int .i64 0)) 24) 4)⟩, 
 ⟨(some 23), none, .pick (.t 18) (.k (.sc (.bool true))) (.t 22)⟩, 
 ⟨(some 24), none, .mv (.t 23)⟩, 
 ⟨(some 25), (some ((some 24), false)), .mv (.t 0)⟩, 
 ⟨(some 26), (some ((some 24), false)), .mv (.t 0)⟩, 
 ⟨(some 27), (some ((some 24), false)), .len (.t 26) (pu (.call ⟨.builtin .len, #[(.tmp 26)], #[22]⟩) 3)⟩, 
 ⟨(some 28), (some ((some 24), false)), .bin .sub false (.t 27) (.k (.sc (.int .i64 1))) (pu (.binOp .sub 3 (.tmp 27) (.const (.int .i64 1)) 3) 3)⟩, 
 ⟨(some 29), (some ((some 24), false)), .ixs 2 (.t 25) (.t 28)⟩, 
 ⟨(some 30), (some ((some 24), false)), .sh 0 (.t 29)⟩, 
 ⟨(some 31), (some ((some 24), false)), .ld none (.t 30)⟩, 
 ⟨(some 32), (some ((some 24), false)), .mv (.t 0)⟩, 
 ⟨(some 33), (some ((some 24), false)), .ixs 2 (.t 32) (.k (.sc (.int .i64 0)))⟩, 
 ⟨(some 34), (some ((some 24), false)), .sh 0 (.t 33)⟩, 
 ⟨(some 35), (some ((some 24), false)), .ld none (.t 34)⟩, 
 ⟨(some 36), (some ((some 24), false)), .bin .sub false (.t 31) (.t 35) (pu (.binOp .sub 3 (.tmp 31) (.tmp 35) 3) 3)⟩, 
 ⟨(some 37), (some ((some 24), false)), .bin .gtr false (.t 36) (.k (.sc (.int .i64 400))) (pu (.binOp .gtr 3 (.tmp 36) (.const (.int .i64 400)) 3) 4)⟩, 
 ⟨(some 38), none, .pick (.t 24) (.k (.sc (.bool true))) (.t 37)⟩])
 (.cond (.t 38) (.seq (.reg [⟨(some 39), none, .call 9 []⟩, 
  ⟨(some 4), none, .mv (.t 39)⟩])
  .ret)
 .skip))
 (.seq (.reg [⟨(some 41), none, .mv (.t 0)⟩, 
 ⟨(some 42), none, .mv (.t 1)⟩, 
 ⟨(some 43), none, .call 12 [(.t 41), (.t 42)]⟩, 
 ⟨(some 40), none, .mv (.t 43)⟩, 
 ⟨(some 44), none, .ext (.t 40) 0⟩, 
 ⟨(some 45), none, .ext (.t 40) 1⟩, 
 ⟨(some 5), none, .mv (.t 44)⟩, 
 ⟨(some 6), none, .mv (.t 45)⟩])
 (.seq (.reg [⟨(some 47), none, .mv (.t 0)⟩, 
 ⟨(some 48), none, .mv (.t 1)⟩, 
 ⟨(some 49), none, .call 15 [(.t 47), (.t 48)]⟩, 
 ⟨(some 46), none, .mv (.t 49)⟩, 
 ⟨(some 50), none, .ext (.t 46) 0⟩, 
 ⟨(some 51), none, .ext (.t 46) 1⟩, 
 ⟨(some 7), none, .mv (.t 50)⟩, 
 ⟨(some 8), none, .mv (.t 51)⟩])
 (.seq (.seq (.drw [0, 1, 3, 7, 15, 31, 63, 127, 255, 127, 127, 1151, 3199, 7807, 15999, 32383, 127, 65663, 196735, 458879, 1048191, 2097151, 4194303] [⟨(some 52), none, .mv (.t 6)⟩, 
 ⟨(some 53), none, .bin .neq false (.t 52) (.k (.sc (.int .i64 0))) (pu (.binOp .neq 24 (.tmp 52) (.const (.int .i64 0)) 24) 4)⟩, 
 ⟨(some 54), none, .mv (.t 53)⟩, 
 ⟨(some 55), (some ((some 54), false)), .mv (.t 8)⟩, 
 ⟨(some 56), (some ((some 54), false)), .bin .neq false (.t 55) (.k (.sc (.int .i64 0))) (pu (.binOp .neq 24 (.tmp 55) (.const (.int .i64 0)) 24) 4)⟩, 
 ⟨(some 57), none, .pick (.t 54) (.k (.sc (.bool true))) (.t 56)⟩, 
 ⟨(some 58), none, .mv (.t 57)⟩, 
 ⟨(some 59), (some ((some 58), false)), .mv (.t 7)⟩, 
 ⟨(some 60), (some ((some 58), false)), .len (.t 59) (pu (.call ⟨.builtin .len, #[(.tmp 59)], #[30]⟩) 3)⟩, 
 ⟨(some 61), (some ((some 58), false)), .mv (.t 0)⟩, 
 ⟨(some 62), (some ((some 58), false)), .mv (.t 0)⟩, 
 ⟨(some 63), (some ((some 58), false)), .len (.t 62) (pu (.call ⟨.builtin .len, #[(.tmp 62)], #[22]⟩) 3)⟩, 
 ⟨(some 64), (some ((some 58), false)), .bin .sub false (.t 63) (.k (.sc (.int .i64 1))) (pu (.binOp .sub 3 (.tmp 63) (.const (.int .i64 1)) 3) 3)⟩, 
 ⟨(some 65), (some ((some 58), false)), .ixs 2 (.t 61) (.t 64)⟩, 
 ⟨(some 66), (some ((some 58), false)), .sh 0 (.t 65)⟩, 
 ⟨(some 67), (some ((some 58), false)), .ld none (.t 66)⟩, 
 ⟨(some 68), (some ((some 58), false)), .mv (.t 0)⟩, 
 ⟨(some 69), (some ((some 58), false)), .ixs 2 (.t 68) (.k (.sc (.int .i64 0)))⟩, 
 ⟨(some 70), (some ((some 58), false)), .sh 0 (.t 69)⟩, 
 ⟨(some 71), (some ((some 58), false)), .ld none (.t 70)⟩, 
 ⟨(some 72), (some ((some 58), false)), .bin .sub false (.t 67) (.t 71) (pu (.binOp .sub 3 (.tmp 67) (.tmp 71) 3) 3)⟩, 
 ⟨(some 73), (some ((some 58), false)), .bin .neq false (.t 60) (.t 72) (pu (.binOp .neq 3 (.tmp 60) (.tmp 72) 3) 4)⟩, 
 ⟨(some 74), none, .pick (.t 58) (.k (.sc (.bool true))) (.t 73)⟩])
 (.cond (.t 74) (.seq (.reg [⟨(some 4), none, .mv (.k (.sc (.bool false)))⟩])
  .ret)
 .skip))
 (.seq (.reg [⟨(some 9), none, .mv (.k (.sc (.int .i64 0)))⟩, 
 ⟨(some 10), none, .mv (.k (.sc (.int .i64 0)))⟩])
 (.seq (.seq (.reg [⟨(some 11), none, .mv (.k (.sc (.int .i64 1)))⟩])
 (.block 0 (.loop (.seq (.seq (.reg [⟨(some 75), none, .mv (.t 11)⟩, 
  ⟨(some 76), none, .mv (.t 0)⟩, 
  ⟨(some 77), none, .len (.t 76) (pu (.call ⟨.builtin .len, #[(.tmp 76)], #[22]⟩) 3)⟩, 
  ⟨(some 78), none, .bin .lss false (.t 75) (.t 77) (pu (.binOp .lss 3 (.tmp 75) (.tmp 77) 3) 4)⟩])
  (.cond (.t 78) .skip
  (.exit 0)))
  (.seq (.block 1 (.seq (.drw [0, 0, 3, 7, 0, 0, 48, 112, 15, 511] [⟨(some 81), none, .mv (.t 7)⟩, 
  ⟨(some 82), none, .mv (.t 10)⟩, 
  ⟨(some 83), none, .ixs 1 (.t 81) (.t 82)⟩, 
  ⟨(some 84), none, .ld none (.t 83)⟩, 
  ⟨(some 85), none, .mv (.t 7)⟩, 
  ⟨(some 86), none, .mv (.t 10)⟩, 
  ⟨(some 87), none, .ixs 1 (.t 85) (.t 86)⟩, 
  ⟨(some 88), none, .ld none (.t 87)⟩, 
  ⟨(some 12), none, .mv (.t 84)⟩, 
  ⟨(some 13), none, .mv (.t 88)⟩])
  (.seq (.seq (.reg [⟨(some 89), none, .mv (.t 0)⟩, 
  ⟨(some 90), none, .mv (.t 11)⟩, 
  ⟨(some 91), none, .bin .sub false (.t 90) (.k (.sc (.int .i64 1))) (pu (.binOp .sub 3 (.tmp 90) (.const (.int .i64 1)) 3) 3)⟩, 
  ⟨(some 92), none, .ixs 2 (.t 89) (.t 91)⟩, 
  ⟨(some 93), none, .sh 0 (.t 92)⟩, 
  ⟨(some 94), none, .ld none (.t 93)⟩, 
  ⟨(some 14), none, .mv (.t 94)⟩])
  (.block 2 (.loop (.seq (.seq (.reg [⟨(some 95), none, .mv (.t 14)⟩, 
   ⟨(some 96), none, .mv (.t 0)⟩, 
   ⟨(some 97), none, .mv (.t 11)⟩, 
   ⟨(some 98), none, .ixs 2 (.t 96) (.t 97)⟩, 
   ⟨(some 99), none, .sh 0 (.t 98)⟩, 
   ⟨(some 100), none, .ld none (.t 99)⟩, 
   ⟨(some 101), none, .bin .lss false (.t 95) (.t 100) (pu (.binOp .lss 3 (.tmp 95) (.tmp 100) 3) 4)⟩])
   (.cond (.t 101) .skip
   (.exit 2)))
   (.seq (.block 3 (.seq (.drw [0, 0, 0, 6, 14, 31, 0, 0, 0, 384, 896, 1984, 63, 8191] [⟨(some 104), none, .mv (.t 12)⟩, 
   ⟨(some 105), none, .mv (.t 7)⟩, 
   ⟨(some 106), none, .mv (.t 10)⟩, 
   ⟨(some 107), none, .ixs 1 (.t 105) (.t 106)⟩, 
   ⟨(some 108), none, .ld none (.t 107)⟩, 
   ⟨(some 109), none, .pur (pu (.call ⟨.builtin .min, #[(.tmp 104), (.tmp 108)], #[3, 3]⟩) 3)⟩, 
   ⟨(some 110), none, .mv (.t 13)⟩, 
   ⟨(some 111), none, .mv (.t 7)⟩, 
   ⟨(some 112), none, .mv (.t 10)⟩, 
   ⟨(some 113), none, .ixs 1 (.t 111) (.t 112)⟩, 
   ⟨(some 114), none, .ld none (.t 113)⟩, 
   ⟨(some 115), none, .pur (pu (.call ⟨.builtin .max, #[(.tmp 110), (.tmp 114)], #[3, 3]⟩) 3)⟩, 
   ⟨(some 12), none, .mv (.t 109)⟩, 
   ⟨(some 13), none, .mv (.t 115)⟩])
   (.seq (.reg [⟨(some 116), none, .mv (.t 9)⟩, 
   ⟨(some 117), none, .mv (.t 7)⟩, 
   ⟨(some 118), none, .mv (.t 10)⟩, 
   ⟨(some 119), none, .ixs 1 (.t 117) (.t 118)⟩, 
   ⟨(some 120), none, .ld none (.t 119)⟩, 
   ⟨(some 121), none, .bin .add false (.t 116) (.t 120) (pu (.binOp .add 3 (.tmp 116) (.tmp 120) 3) 3)⟩, 
   ⟨(some 9), none, .mv (.t 121)⟩])
   (.reg [⟨(some 122), none, .mv (.t 10)⟩, 
   ⟨(some 123), none, .bin .add false (.t 122) (.k (.sc (.int .i64 1))) (pu (.binOp .add 3 (.tmp 122) (.const (.int .i64 1)) 3) 3)⟩, 
   ⟨(some 10), none, .mv (.t 123)⟩]))))
   (.reg [⟨(some 102), none, .mv (.t 14)⟩, 
   ⟨(some 103), none, .bin .add false (.t 102) (.k (.sc (.int .i64 1))) (pu (.binOp .add 3 (.tmp 102) (.const (.int .i64 1)) 3) 3)⟩, 
   ⟨(some 14), none, .mv (.t 103)⟩]))))))
  (.seq (.reg [⟨(some 124), none, .mv (.t 12)⟩, 
  ⟨(some 125), none, .bin .lss false (.t 124) (.k (.sc (.int .i64 0))) (pu (.binOp .lss 3 (.tmp 124) (.const (.int .i64 0)) 3) 4)⟩, 
  ⟨(some 126), none, .mv (.t 125)⟩, 
  ⟨(some 127), (some ((some 126), false)), .mv (.t 13)⟩, 
  ⟨(some 128), (some ((some 126), false)), .mv (.t 12)⟩, 
  ⟨(some 129), (some ((some 126), false)), .bin .sub false (.t 127) (.t 128) (pu (.binOp .sub 3 (.tmp 127) (.tmp 128) 3) 3)⟩, 
  ⟨(some 130), (some ((some 126), false)), .bin .gtr false (.t 129) (.k (.sc (.int .i64 1))) (pu (.binOp .gtr 3 (.tmp 129) (.const (.int .i64 1)) 3) 4)⟩, 
  ⟨(some 131), none, .pick (.t 126) (.k (.sc (.bool true))) (.t 130)⟩])
  (.cond (.t 131) (.seq (.reg [⟨(some 4), none, .mv (.k (.sc (.bool false)))⟩])
   .ret)
  .skip)))))
  (.reg [⟨(some 79), none, .mv (.t 11)⟩, 
  ⟨(some 80), none, .bin .add false (.t 79) (.k (.sc (.int .i64 1))) (pu (.binOp .add 3 (.tmp 79) (.const (.int .i64 1)) 3) 3)⟩, 
  ⟨(some 11), none, .mv (.t 80)⟩]))))))
 (.seq (.reg [⟨(some 132), none, .mv (.t 9)⟩, 
 ⟨(some 133), none, .mv (.t 5)⟩, 
 ⟨(some 134), none, .bin .eql false (.t 132) (.t 133) (pu (.binOp .eql 3 (.tmp 132) (.tmp 133) 3) 4)⟩, 
 ⟨(some 135), none, .mv (.t 134)⟩, 
 ⟨(some 136), (some ((some 135), true)), .call 9 []⟩, 
 ⟨(some 137), none, .pick (.t 135) (.t 136) (.k (.sc (.bool false)))⟩, 
 ⟨(some 4), none, .mv (.t 137)⟩])
 .ret))))))))
def k6 : List Nat := [0, 1, 4, 5, 6, 7, 8, 9, 10, 11, 12, 13, 14, 38, 74, 78, 101, 131]
theorem ic6 : factsI Try.prog 6 = some (138, [.tmp 4], c6) := by kernel_rfl

-- chargenet/chargenetlaw20.UsageFiner (125 slots)
def c7 : IC :=
 (.seq (.reg [⟨(some 8), none, .mv (.k (.sc (.bool false)))⟩])
 (.seq (.seq (.reg [⟨(some 19), none, .mv (.t 0)⟩, 
 ⟨(some 20), none, .len (.t 19) (pu (.call ⟨.builtin .len, #[(.tmp 19)], #[22]⟩) 3)⟩, 
 ⟨(some 21), none, .bin .gtr false (.t 20) (.k (.sc (.int .i64 40))) (pu (.binOp .gtr 3 (.tmp 20) (.const (.int .i64 40)) 3) 4)⟩, 
 ⟨(some 22), none, .mv (.t 21)⟩, 
 ⟨(some 23), (some ((some 22), false)), .mv (.t 0)⟩, 
 ⟨(some 24), (some ((some 22), false)), .len (.t 23) (pu (.call ⟨.builtin .len, #[(.tmp 23)], #[22]⟩) 3)⟩, 
 ⟨(some 25), (some ((some 22), false)), .bin .lss false (.t 24) (.k (.sc (.int .i64 2))) (pu (.binOp .lss 3 (.tmp 24) (.const (.int .i64 2)) 3) 4)⟩, 
 ⟨(some 26), none, .pick (.t 22) (.k (.sc (.bool true))) (.t 25)⟩, 
 ⟨(some 27), none, .mv (.t 26)⟩, 
 ⟨(some 28), (some ((some 27), false)), .mv (.t 0)⟩, 
 ⟨(some 29), (some ((some 27), false)), .mv (.t 1)⟩, 
 ⟨(some 30), (some ((some 27), false)), .call 11 [(.t 28), (.t 29)]⟩, 
 ⟨(some 31), (some ((some 27), false)), .bin .neq false (.t 30) (.k (.sc (.int .i64 0))) (pu (.binOp .neq 24 (.tmp 30) (.const (.int .i64 0)) 24) 4)⟩, 
 ⟨(some 32), none, .pick (.t 27) (.k (.sc (.bool true))) (.t 31)⟩])
 (.cond (.t 32) (.seq (.reg [⟨(some 33), none, .call 9 []⟩, 
  ⟨(some 8), none, .mv (.t 33)⟩])
  .ret)
 .skip))
 (.seq (.reg [⟨(some 34), none, .mv (.t 2)⟩, 
 ⟨(some 35), none, .pur (pu (.convert 5 3 (.tmp 34)) 3)⟩, 
 ⟨(some 36), none, .mv (.t 0)⟩, 
 ⟨(some 37), none, .len (.t 36) (pu (.call ⟨.builtin .len, #[(.tmp 36)], #[22]⟩) 3)⟩, 
 ⟨(some 38), none, .bin .sub false (.t 37) (.k (.sc (.int .i64 1))) (pu (.binOp .sub 3 (.tmp 37) (.const (.int .i64 1)) 3) 3)⟩, 
 ⟨(some 39), none, .bin .rem false (.t 35) (.t 38) (pu (.binOp .rem 3 (.tmp 35) (.tmp 38) 3) 3)⟩, 
 ⟨(some 40), none, .bin .add false (.k (.sc (.int .i64 1))) (.t 39) (pu (.binOp .add 3 (.const (.int .i64 1)) (.tmp 39) 3) 3)⟩, 
 ⟨(some 9), none, .mv (.t 40)⟩])
 (.seq (.drw [0, 0, 2, 7, 15, 0, 0, 96, 224, 0, 0, 1567, 4095] [⟨(some 41), none, .mv (.t 0)⟩, 
 ⟨(some 42), none, .mv (.t 9)⟩, 
 ⟨(some 43), none, .bin .sub false (.t 42) (.k (.sc (.int .i64 1))) (pu (.binOp .sub 3 (.tmp 42) (.const (.int .i64 1)) 3) 3)⟩, 
 ⟨(some 44), none, .ixs 2 (.t 41) (.t 43)⟩, 
 ⟨(some 45), none, .ld (some 2) (.t 44)⟩, 
 ⟨(some 46), none, .mv (.t 0)⟩, 
 ⟨(some 47), none, .mv (.t 9)⟩, 
 ⟨(some 48), none, .ixs 2 (.t 46) (.t 47)⟩, 
 ⟨(some 49), none, .ld (some 2) (.t 48)⟩, 
 ⟨(some 10), none, .al (.agg [(.sc (.int .i64 0)), (.sc (.int .i64 0))]) 2⟩, 
 ⟨(some 11), none, .al (.agg [(.sc (.int .i64 0)), (.sc (.int .i64 0))]) 2⟩, 
 ⟨none, none, .st 2 (.t 10) (.t 45)⟩, 
 ⟨none, none, .st 2 (.t 11) (.t 49)⟩])
 (.seq (.seq (.reg [⟨(some 50), none, .sh 0 (.t 11)⟩, 
 ⟨(some 51), none, .ld none (.t 50)⟩, 
 ⟨(some 52), none, .sh 0 (.t 10)⟩, 
 ⟨(some 53), none, .ld none (.t 52)⟩, 
 ⟨(some 54), none, .bin .sub false (.t 51) (.t 53) (pu (.binOp .sub 3 (.tmp 51) (.tmp 53) 3) 3)⟩, 
 ⟨(some 55), none, .bin .lss false (.t 54) (.k (.sc (.int .i64 2))) (pu (.binOp .lss 3 (.tmp 54) (.const (.int .i64 2)) 3) 4)⟩])
 (.cond (.t 55) (.seq (.reg [⟨(some 56), none, .call 9 []⟩, 
  ⟨(some 8), none, .mv (.t 56)⟩])
  .ret)
 .skip))
 (.seq (.reg [⟨(some 57), none, .ld (some 2) (.t 10)⟩, 
 ⟨(some 58), none, .ld (some 2) (.t 11)⟩, 
 ⟨(some 59), none, .mv (.t 1)⟩, 
 ⟨(some 60), none, .call 21 [(.t 57), (.t 58), (.t 59)]⟩, 
 ⟨(some 12), none, .mv (.t 60)⟩])
 (.seq (.reg [⟨(some 61), none, .mv (.t 3)⟩, 
 ⟨(some 62), none, .pur (pu (.convert 40 3 (.tmp 61)) 3)⟩, 
 ⟨(some 63), none, .mv (.t 12)⟩, 
 ⟨(some 64), none, .bin .add false (.t 63) (.k (.sc (.int .i64 1))) (pu (.binOp .add 3 (.tmp 63) (.const (.int .i64 1)) 3) 3)⟩, 
 ⟨(some 65), none, .bin .rem false (.t 62) (.t 64) (pu (.binOp .rem 3 (.tmp 62) (.tmp 64) 3) 3)⟩, 
 ⟨(some 13), none, .mv (.t 65)⟩])
 (.seq (.reg [⟨(some 66), none, .bsl 2 0 true [] []⟩, 
 ⟨(some 67), none, .mv (.t 0)⟩, 
 ⟨(some 68), none, .mv (.t 9)⟩, 
 ⟨(some 69), none, .sl 2 (.t 67) none (some (.t 68)) none (pu (.slice 22 (.tmp 67) none (some (.tmp 68)) none) 22)⟩, 
 ⟨(some 70), none, .app 2 16 (.t 66) (.t 69)⟩, 
 ⟨(some 14), none, .mv (.t 70)⟩])
 (.seq (.drw [0, 0, 2, 6, 0, 16, 0, 64, 0, 256, 960, 1984, 4080, 8190, 0, 16384, 0, 114688, 0, 507904, 1048574, 2097150, 4194303, 8388607] [⟨(some 71), none, .mv (.t 14)⟩, 
 ⟨(some 72), none, .sh 0 (.t 10)⟩, 
 ⟨(some 73), none, .ld none (.t 72)⟩, 
 ⟨(some 74), none, .bin .add false (.t 73) (.k (.sc (.int .i64 1))) (pu (.binOp .add 3 (.tmp 73) (.const (.int .i64 1)) 3) 3)⟩, 
 ⟨(some 75), none, .mv (.t 3)⟩, 
 ⟨(some 76), none, .pur (pu (.convert 40 3 (.tmp 75)) 3)⟩, 
 ⟨(some 77), none, .sh 0 (.t 11)⟩, 
 ⟨(some 78), none, .ld none (.t 77)⟩, 
 ⟨(some 79), none, .sh 0 (.t 10)⟩, 
 ⟨(some 80), none, .ld none (.t 79)⟩, 
 ⟨(some 81), none, .bin .sub false (.t 78) (.t 80) (pu (.binOp .sub 3 (.tmp 78) (.tmp 80) 3) 3)⟩, 
 ⟨(some 82), none, .bin .sub false (.t 81) (.k (.sc (.int .i64 1))) (pu (.binOp .sub 3 (.tmp 81) (.const (.int .i64 1)) 3) 3)⟩, 
 ⟨(some 83), none, .bin .rem false (.t 76) (.t 82) (pu (.binOp .rem 3 (.tmp 76) (.tmp 82) 3) 3)⟩, 
 ⟨(some 84), none, .bin .add false (.t 74) (.t 83) (pu (.binOp .add 3 (.tmp 74) (.tmp 83) 3) 3)⟩, 
 ⟨(some 85), none, .sh 1 (.t 10)⟩, 
 ⟨(some 86), none, .ld none (.t 85)⟩, 
 ⟨(some 87), none, .mv (.t 13)⟩, 
 ⟨(some 88), none, .bin .add false (.t 86) (.t 87) (pu (.binOp .add 3 (.tmp 86) (.tmp 87) 3) 3)⟩, 
 ⟨(some 89), none, .mv (.t 1)⟩, 
 ⟨(some 90), none, .bin .rem false (.t 88) (.t 89) (pu (.binOp .rem 3 (.tmp 88) (.tmp 89) 3) 3)⟩, 
 ⟨(some 91), none, .bld [(.sc (.int .i64 0)), (.sc (.int .i64 0))] [(0, 1, (.t 84)), (1, 1, (.t 90))]⟩, 
 ⟨(some 92), none, .bsl 2 1 true [(.sc (.int .i64 0)), (.sc (.int .i64 0))] [(0, 2, (.t 91))]⟩, 
 ⟨(some 93), none, .app 2 16 (.t 71) (.t 92)⟩, 
 ⟨(some 14), none, .mv (.t 93)⟩])
 (.seq (.reg [⟨(some 94), none, .mv (.t 14)⟩, 
 ⟨(some 95), none, .mv (.t 0)⟩, 
 ⟨(some 96), none, .mv (.t 9)⟩, 
 ⟨(some 97), none, .sl 2 (.t 95) (some (.t 96)) none none (pu (.slice 22 (.tmp 95) (some (.tmp 96)) none none) 22)⟩, 
 ⟨(some 98), none, .app 2 16 (.t 94) (.t 97)⟩, 
 ⟨(some 14), none, .mv (.t 98)⟩])
 (.seq (.reg [⟨(some 100), none, .mv (.t 0)⟩, 
 ⟨(some 101), none, .mv (.t 1)⟩, 
 ⟨(some 102), none, .call 12 [(.t 100), (.t 101)]⟩, 
 ⟨(some 99), none, .mv (.t 102)⟩, 
 ⟨(some 103), none, .ext (.t 99) 0⟩, 
 ⟨(some 104), none, .ext (.t 99) 1⟩, 
 ⟨(some 15), none, .mv (.t 103)⟩, 
 ⟨(some 16), none, .mv (.t 104)⟩])
 (.seq (.reg [⟨(some 106), none, .mv (.t 14)⟩, 
 ⟨(some 107), none, .mv (.t 1)⟩, 
 ⟨(some 108), none, .call 12 [(.t 106), (.t 107)]⟩, 
 ⟨(some 105), none, .mv (.t 108)⟩, 
 ⟨(some 109), none, .ext (.t 105) 0⟩, 
 ⟨(some 110), none, .ext (.t 105) 1⟩, 
 ⟨(some 17), none, .mv (.t 109)⟩, 
 ⟨(some 18), none, .mv (.t 110)⟩])
 (.seq (.reg [⟨(some 111), none, .mv (.t 15)⟩, 
 ⟨(some 112), none, .mv (.t 17)⟩, 
 ⟨(some 113), none, .bin .eql false (.t 111) (.t 112) (pu (.binOp .eql 3 (.tmp 111) (.tmp 112) 3) 4)⟩, 
 ⟨(some 114), none, .mv (.t 113)⟩, 
 ⟨(some 115), (some ((some 114), true)), .mv (.t 16)⟩, 
 ⟨(some 116), (some ((some 114), true)), .bin .eql false (.t 115) (.k (.sc (.int .i64 0))) (pu (.binOp .eql 24 (.tmp 115) (.const (.int .i64 0)) 24) 4)⟩, 
 ⟨(some 117), none, .pick (.t 114) (.t 116) (.k (.sc (.bool false)))⟩, 
 ⟨(some 118), none, .mv (.t 117)⟩, 
 ⟨(some 119), (some ((some 118), true)), .mv (.t 18)⟩, 
 ⟨(some 120), (some ((some 118), true)), .bin .eql false (.t 119) (.k (.sc (.int .i64 0))) (pu (.binOp .eql 24 (.tmp 119) (.const (.int .i64 0)) 24) 4)⟩, 
 ⟨(some 121), none, .pick (.t 118) (.t 120) (.k (.sc (.bool false)))⟩, 
 ⟨(some 122), none, .mv (.t 121)⟩, 
 ⟨(some 123), (some ((some 122), true)), .call 9 []⟩, 
 ⟨(some 124), none, .pick (.t 122) (.t 123) (.k (.sc (.bool false)))⟩, 
 ⟨(some 8), none, .mv (.t 124)⟩])
 .ret)))))))))))))
def k7 : List Nat := [0, 1, 2, 3, 8, 9, 10, 11, 12, 13, 14, 15, 16, 17, 18, 32, 55]
theorem ic7 : factsI Try.prog 7 = some (125, [.tmp 8], c7) := by kernel_rfl

-- chargenet/chargenetlaw20.UsageParts (95 slots)
def c8 : IC :=
 (.seq (.reg [⟨(some 4), none, .mv (.k (.sc (.bool false)))⟩])
 (.seq (.seq (.reg [⟨(some 14), none, .mv (.t 0)⟩, 
 ⟨(some 15), none, .len (.t 14) (pu (.call ⟨.builtin .len, #[(.tmp 14)], #[22]⟩) 3)⟩, 
 ⟨(some 16), none, .bin .gtr false (.t 15) (.k (.sc (.int .i64 40))) (pu (.binOp .gtr 3 (.tmp 15) (.const (.int .i64 40)) 3) 4)⟩, 
 ⟨(some 17), none, .mv (.t 16)⟩, 
 ⟨(some 18), (some ((some 17), false)), .mv (.t 0)⟩, 
 ⟨(some 19), (some ((some 17), false)), .call 22 [(.t 18)]⟩, 
 ⟨(some 20), (some ((some 17), false)), .un .not (.t 19) (pu (.unOp .not 4 (.tmp 19)) 4)⟩, 
 ⟨(some 21), none, .pick (.t 17) (.k (.sc (.bool true))) (.t 20)⟩])
 (.cond (.t 21) (.seq (.reg [⟨(some 22), none, .call 9 []⟩, 
  ⟨(some 4), none, .mv (.t 22)⟩])
  .ret)
 .skip))
 (.seq (.reg [⟨(some 5), none, .mv (.k (.sc (.slice none 0 0)))⟩, 
 ⟨(some 6), none, .mv (.k (.sc (.slice none 0 0)))⟩])
 (.seq (.seq (.reg [⟨(some 7), none, .mv (.k (.sc (.int .i64 0)))⟩])
 (.block 0 (.loop (.seq (.seq (.reg [⟨(some 23), none, .mv (.t 7)⟩, 
  ⟨(some 24), none, .mv (.t 0)⟩, 
  ⟨(some 25), none, .len (.t 24) (pu (.call ⟨.builtin .len, #[(.tmp 24)], #[22]⟩) 3)⟩, 
  ⟨(some 26), none, .bin .lss false (.t 23) (.t 25) (pu (.binOp .lss 3 (.tmp 23) (.tmp 25) 3) 4)⟩])
  (.cond (.t 26) .skip
  (.exit 0)))
  (.seq (.block 1 (.seq (.reg [⟨(some 29), none, .mv (.t 1)⟩, 
  ⟨(some 30), none, .mv (.t 7)⟩, 
  ⟨(some 31), none, .pur (pu (.convert 3 44 (.tmp 30)) 44)⟩, 
  ⟨(some 32), none, .bin .shr false (.t 29) (.t 31) (pu (.binOp .shr 43 (.tmp 29) (.tmp 31) 44) 43)⟩, 
  ⟨(some 33), none, .bin .rem false (.t 32) (.k (.sc (.int .u64 2))) (pu (.binOp .rem 43 (.tmp 32) (.const (.int .u64 2)) 43) 43)⟩, 
  ⟨(some 34), none, .bin .eql false (.t 33) (.k (.sc (.int .u64 1))) (pu (.binOp .eql 43 (.tmp 33) (.const (.int .u64 1)) 43) 4)⟩])
  (.cond (.t 34) (.reg [⟨(some 35), none, .mv (.t 5)⟩, 
   ⟨(some 36), none, .mv (.t 0)⟩, 
   ⟨(some 37), none, .mv (.t 7)⟩, 
   ⟨(some 38), none, .ixs 2 (.t 36) (.t 37)⟩, 
   ⟨(some 39), none, .ld (some 2) (.t 38)⟩, 
   ⟨(some 40), none, .bsl 2 1 true [(.sc (.int .i64 0)), (.sc (.int .i64 0))] [(0, 2, (.t 39))]⟩, 
   ⟨(some 41), none, .app 2 16 (.t 35) (.t 40)⟩, 
   ⟨(some 5), none, .mv (.t 41)⟩])
  (.reg [⟨(some 42), none, .mv (.t 6)⟩, 
   ⟨(some 43), none, .mv (.t 0)⟩, 
   ⟨(some 44), none, .mv (.t 7)⟩, 
   ⟨(some 45), none, .ixs 2 (.t 43) (.t 44)⟩, 
   ⟨(some 46), none, .ld (some 2) (.t 45)⟩, 
   ⟨(some 47), none, .bsl 2 1 true [(.sc (.int .i64 0)), (.sc (.int .i64 0))] [(0, 2, (.t 46))]⟩, 
   ⟨(some 48), none, .app 2 16 (.t 42) (.t 47)⟩, 
   ⟨(some 6), none, .mv (.t 48)⟩]))))
  (.reg [⟨(some 27), none, .mv (.t 7)⟩, 
  ⟨(some 28), none, .bin .add false (.t 27) (.k (.sc (.int .i64 1))) (pu (.binOp .add 3 (.tmp 27) (.const (.int .i64 1)) 3) 3)⟩, 
  ⟨(some 7), none, .mv (.t 28)⟩]))))))
 (.seq (.reg [⟨(some 50), none, .mv (.t 0)⟩, 
 ⟨(some 51), none, .mv (.t 5)⟩, 
 ⟨(some 52), none, .call 23 [(.t 50), (.t 51)]⟩, 
 ⟨(some 49), none, .mv (.t 52)⟩, 
 ⟨(some 53), none, .ext (.t 49) 0⟩, 
 ⟨(some 54), none, .ext (.t 49) 1⟩, 
 ⟨(some 8), none, .mv (.t 53)⟩, 
 ⟨(some 9), none, .mv (.t 54)⟩])
 (.seq (.reg [⟨(some 56), none, .mv (.t 5)⟩, 
 ⟨(some 57), none, .mv (.t 6)⟩, 
 ⟨(some 58), none, .call 23 [(.t 56), (.t 57)]⟩, 
 ⟨(some 55), none, .mv (.t 58)⟩, 
 ⟨(some 59), none, .ext (.t 55) 0⟩, 
 ⟨(some 60), none, .ext (.t 55) 1⟩, 
 ⟨(some 10), none, .mv (.t 59)⟩, 
 ⟨(some 11), none, .mv (.t 60)⟩])
 (.seq (.reg [⟨(some 62), none, .mv (.t 6)⟩, 
 ⟨(some 63), none, .mv (.t 0)⟩, 
 ⟨(some 64), none, .call 23 [(.t 62), (.t 63)]⟩, 
 ⟨(some 61), none, .mv (.t 64)⟩, 
 ⟨(some 65), none, .ext (.t 61) 0⟩, 
 ⟨(some 66), none, .ext (.t 61) 1⟩, 
 ⟨(some 12), none, .mv (.t 65)⟩, 
 ⟨(some 13), none, .mv (.t 66)⟩])
 (.seq (.reg [⟨(some 67), none, .mv (.t 8)⟩, 
 ⟨(some 68), none, .mv (.t 0)⟩, 
 ⟨(some 69), none, .call 24 [(.t 67), (.t 68)]⟩, 
 ⟨(some 70), none, .mv (.t 69)⟩, 
 ⟨(some 71), (some ((some 70), true)), .mv (.t 10)⟩, 
 ⟨(some 72), (some ((some 70), true)), .mv (.t 0)⟩, 
 ⟨(some 73), (some ((some 70), true)), .call 24 [(.t 71), (.t 72)]⟩, 
 ⟨(some 74), none, .pick (.t 70) (.t 73) (.k (.sc (.bool false)))⟩, 
 ⟨(some 75), none, .mv (.t 74)⟩, 
 ⟨(some 76), (some ((some 75), true)), .mv (.t 12)⟩, 
 ⟨(some 77), (some ((some 75), true)), .mv (.t 0)⟩, 
 ⟨(some 78), (some ((some 75), true)), .call 24 [(.t 76), (.t 77)]⟩, 
 ⟨(some 79), none, .pick (.t 75) (.t 78) (.k (.sc (.bool false)))⟩, 
 ⟨(some 80), none, .mv (.t 79)⟩, 
 ⟨(some 81), (some ((some 80), true)), .mv (.t 9)⟩, 
 ⟨(some 82), (some ((some 80), true)), .bin .eql false (.t 81) (.k (.sc (.int .i64 0))) (pu (.binOp .eql 24 (.tmp 81) (.const (.int .i64 0)) 24) 4)⟩, 
 ⟨(some 83), none, .pick (.t 80) (.t 82) (.k (.sc (.bool false)))⟩, 
 ⟨(some 84), none, .mv (.t 83)⟩, 
 ⟨(some 85), (some ((some 84), true)), .mv (.t 11)⟩, 
 ⟨(some 86), (some ((some 84), true)), .bin .eql false (.t 85) (.k (.sc (.int .i64 0))) (pu (.binOp .eql 24 (.tmp 85) (.const (.int .i64 0)) 24) 4)⟩, 
 ⟨(some 87), none, .pick (.t 84) (.t 86) (.k (.sc (.bool false)))⟩, 
 ⟨(some 88), none, .mv (.t 87)⟩, 
 ⟨(some 89), (some ((some 88), true)), .mv (.t 13)⟩, 
 ⟨(some 90), (some ((some 88), true)), .bin .eql false (.t 89) (.k (.sc (.int .i64 0))) (pu (.binOp .eql 24 (.tmp 89) (.const (.int .i64 0)) 24) 4)⟩, 
 ⟨(some 91), none, .pick (.t 88) (.t 90) (.k (.sc (.bool false)))⟩, 
 ⟨(some 92), none, .mv (.t 91)⟩, 
 ⟨(some 93), (some ((some 92), true)), .call 9 []⟩, 
 ⟨(some 94), none, .pick (.t 92) (.t 93) (.k (.sc (.bool false)))⟩, 
 ⟨(some 4), none, .mv (.t 94)⟩])
 .ret))))))))
def k8 : List Nat := [0, 1, 4, 5, 6, 7, 8, 9, 10, 11, 12, 13, 21, 26, 34]
theorem ic8 : factsI Try.prog 8 = some (95, [.tmp 4], c8) := by kernel_rfl

-- chargenet/chargenetlaw20.awake (93 slots)
def c9 : IC :=
 (.seq (.reg [⟨(some 0), none, .mv (.k (.sc (.bool false)))⟩])
 (.seq (.reg [⟨(some 10), none, .call 25 []⟩, 
 ⟨(some 11), none, .call 12 [(.t 10), (.k (.sc (.int .i64 100000)))]⟩, 
 ⟨(some 9), none, .mv (.t 11)⟩, 
 ⟨(some 12), none, .ext (.t 9) 0⟩, 
 ⟨(some 13), none, .ext (.t 9) 1⟩, 
 ⟨(some 1), none, .mv (.t 12)⟩, 
 ⟨(some 2), none, .mv (.t 13)⟩])
 (.seq (.reg [⟨(some 15), none, .call 25 []⟩, 
 ⟨(some 16), none, .call 15 [(.t 15), (.k (.sc (.int .i64 100000)))]⟩, 
 ⟨(some 14), none, .mv (.t 16)⟩, 
 ⟨(some 17), none, .ext (.t 14) 0⟩, 
 ⟨(some 18), none, .ext (.t 14) 1⟩, 
 ⟨(some 3), none, .mv (.t 17)⟩, 
 ⟨(some 4), none, .mv (.t 18)⟩])
 (.seq (.reg [⟨(some 20), none, .call 25 []⟩, 
 ⟨(some 21), none, .bld [(.sc (.int .i64 0)), (.sc (.int .i64 0))] [(0, 1, (.k (.sc (.int .i64 15)))), (1, 1, (.k (.sc (.int .i64 15))))]⟩, 
 ⟨(some 22), none, .bsl 2 1 true [(.sc (.int .i64 0)), (.sc (.int .i64 0))] [(0, 2, (.t 21))]⟩, 
 ⟨(some 23), none, .app 2 16 (.t 20) (.t 22)⟩, 
 ⟨(some 24), none, .call 17 [(.t 23), (.k (.sc (.int .i64 100000)))]⟩, 
 ⟨(some 19), none, .mv (.t 24)⟩, 
 ⟨(some 25), none, .ext (.t 19) 0⟩, 
 ⟨(some 26), none, .ext (.t 19) 1⟩, 
 ⟨(some 5), none, .mv (.t 25)⟩, 
 ⟨(some 6), none, .mv (.t 26)⟩])
 (.seq (.seq (.reg [⟨(some 27), none, .mv (.t 1)⟩, 
 ⟨(some 28), none, .bin .neq false (.t 27) (.k (.sc (.int .i64 25))) (pu (.binOp .neq 3 (.tmp 27) (.const (.int .i64 25)) 3) 4)⟩, 
 ⟨(some 29), none, .mv (.t 28)⟩, 
 ⟨(some 30), (some ((some 29), false)), .mv (.t 2)⟩, 
 ⟨(some 31), (some ((some 29), false)), .bin .neq false (.t 30) (.k (.sc (.int .i64 0))) (pu (.binOp .neq 24 (.tmp 30) (.const (.int .i64 0)) 24) 4)⟩, 
 ⟨(some 32), none, .pick (.t 29) (.k (.sc (.bool true))) (.t 31)⟩, 
 ⟨(some 33), none, .mv (.t 32)⟩, 
 ⟨(some 34), (some ((some 33), false)), .mv (.t 3)⟩, 
 ⟨(some 35), (some ((some 33), false)), .bsl 1 4 false [(.sc (.int .i64 0)), (.sc (.int .i64 0)), (.sc (.int .i64 0)), (.sc (.int .i64 0))] [(0, 1, (.k (.sc (.int .i64 6)))), (1, 1, (.k (.sc (.int .i64 6)))), (2, 1, (.k (.sc (.int .i64 6)))), (3, 1, (.k (.sc (.int .i64 7))))]⟩, 
 ⟨(some 36), (some ((some 33), false)), .call 19 [(.t 34), (.t 35)]⟩, 
 ⟨(some 37), (some ((some 33), false)), .un .not (.t 36) (pu (.unOp .not 4 (.tmp 36)) 4)⟩, 
 ⟨(some 38), none, .pick (.t 33) (.k (.sc (.bool true))) (.t 37)⟩, 
 ⟨(some 39), none, .mv (.t 38)⟩, 
 ⟨(some 40), (some ((some 39), false)), .mv (.t 4)⟩, 
 ⟨(some 41), (some ((some 39), false)), .bin .neq false (.t 40) (.k (.sc (.int .i64 0))) (pu (.binOp .neq 24 (.tmp 40) (.const (.int .i64 0)) 24) 4)⟩, 
 ⟨(some 42), none, .pick (.t 39) (.k (.sc (.bool true))) (.t 41)⟩, 
 ⟨(some 43), none, .mv (.t 42)⟩, 
 ⟨(some 44), (some ((some 43), false)), .mv (.t 5)⟩, 
 ⟨(some 45), (some ((some 43), false)), .len (.t 44) (pu (.call ⟨.builtin .len, #[(.tmp 44)], #[33]⟩) 3)⟩, 
 ⟨(some 46), (some ((some 43), false)), .bin .neq false (.t 45) (.k (.sc (.int .i64 5))) (pu (.binOp .neq 3 (.tmp 45) (.const (.int .i64 5)) 3) 4)⟩, 
 ⟨(some 47), none, .pick (.t 43) (.k (.sc (.bool true))) (.t 46)⟩, 
 ⟨(some 48), none, .mv (.t 47)⟩, 
 ⟨(some 49), (some ((some 48), false)), .mv (.t 5)⟩, 
 ⟨(some 50), (some ((some 48), false)), .ixs 2 (.t 49) (.k (.sc (.int .i64 4)))⟩, 
 ⟨(some 51), (some ((some 48), false)), .sh 1 (.t 50)⟩, 
 ⟨(some 52), (some ((some 48), false)), .ld none (.t 51)⟩, 
 ⟨(some 53), (some ((some 48), false)), .un .not (.t 52) (pu (.unOp .not 4 (.tmp 52)) 4)⟩, 
 ⟨(some 54), none, .pick (.t 48) (.k (.sc (.bool true))) (.t 53)⟩, 
 ⟨(some 55), none, .mv (.t 54)⟩, 
 ⟨(some 56), (some ((some 55), false)), .mv (.t 5)⟩, 
 ⟨(some 57), (some ((some 55), false)), .ixs 2 (.t 56) (.k (.sc (.int .i64 3)))⟩, 
 ⟨(some 58), (some ((some 55), false)), .sh 0 (.t 57)⟩, 
 ⟨(some 59), (some ((some 55), false)), .ld none (.t 58)⟩, 
 ⟨(some 60), (some ((some 55), false)), .bin .neq false (.t 59) (.k (.sc (.int .i64 7))) (pu (.binOp .neq 3 (.tmp 59) (.const (.int .i64 7)) 3) 4)⟩, 
 ⟨(some 61), none, .pick (.t 55) (.k (.sc (.bool true))) (.t 60)⟩, 
 ⟨(some 62), none, .mv (.t 61)⟩, 
 ⟨(some 63), (some ((some 62), false)), .mv (.t 6)⟩, 
 ⟨(some 64), (some ((some 62), false)), .bin .neq false (.t 63) (.k (.sc (.int .i64 0))) (pu (.binOp .neq 24 (.tmp 63) (.const (.int .i64 0)) 24) 4)⟩, 
 ⟨(some 65), none, .pick (.t 62) (.k (.sc (.bool true))) (.t 64)⟩])
 (.cond (.t 65) (.seq (.reg [⟨(some 0), none, .mv (.k (.sc (.bool false)))⟩])
  .ret)
 .skip))
 (.seq (.reg [⟨(some 67), none, .bld [(.sc (.int .i64 0)), (.sc (.int .i64 0))] [(0, 1, (.k (.sc (.int .i64 1)))), (1, 1, (.k (.sc (.int .i64 5))))]⟩, 
 ⟨(some 68), none, .bld [(.sc (.int .i64 0)), (.sc (.int .i64 0))] [(0, 1, (.k (.sc (.int .i64 3)))), (1, 1, (.k (.sc (.int .i64 7))))]⟩, 
 ⟨(some 69), none, .bsl 2 2 true [(.sc (.int .i64 0)), (.sc (.int .i64 0)), (.sc (.int .i64 0)), (.sc (.int .i64 0))] [(0, 2, (.t 67)), (2, 2, (.t 68))]⟩, 
 ⟨(some 70), none, .bld [(.sc (.int .i64 0)), (.sc (.int .i64 0))] [(0, 1, (.k (.sc (.int .i64 2)))), (1, 1, (.k (.sc (.int .i64 6))))]⟩, 
 ⟨(some 71), none, .bsl 2 1 true [(.sc (.int .i64 0)), (.sc (.int .i64 0))] [(0, 2, (.t 70))]⟩, 
 ⟨(some 72), none, .call 23 [(.t 69), (.t 71)]⟩, 
 ⟨(some 66), none, .mv (.t 72)⟩, 
 ⟨(some 73), none, .ext (.t 66) 0⟩, 
 ⟨(some 74), none, .ext (.t 66) 1⟩, 
 ⟨(some 7), none, .mv (.t 73)⟩, 
 ⟨(some 8), none, .mv (.t 74)⟩])
 (.seq (.reg [⟨(some 75), none, .mv (.t 7)⟩, 
 ⟨(some 76), none, .len (.t 75) (pu (.call ⟨.builtin .len, #[(.tmp 75)], #[22]⟩) 3)⟩, 
 ⟨(some 77), none, .bin .eql false (.t 76) (.k (.sc (.int .i64 3))) (pu (.binOp .eql 3 (.tmp 76) (.const (.int .i64 3)) 3) 4)⟩, 
 ⟨(some 78), none, .mv (.t 77)⟩, 
 ⟨(some 79), (some ((some 78), true)), .mv (.t 7)⟩, 
 ⟨(some 80), (some ((some 78), true)), .ixs 2 (.t 79) (.k (.sc (.int .i64 1)))⟩, 
 ⟨(some 81), (some ((some 78), true)), .sh 0 (.t 80)⟩, 
 ⟨(some 82), (some ((some 78), true)), .ld none (.t 81)⟩, 
 ⟨(some 83), (some ((some 78), true)), .bin .eql false (.t 82) (.k (.sc (.int .i64 2))) (pu (.binOp .eql 3 (.tmp 82) (.const (.int .i64 2)) 3) 4)⟩, 
 ⟨(some 84), none, .pick (.t 78) (.t 83) (.k (.sc (.bool false)))⟩, 
 ⟨(some 85), none, .mv (.t 84)⟩, 
 ⟨(some 86), (some ((some 85), true)), .mv (.t 8)⟩, 
 ⟨(some 87), (some ((some 85), true)), .bin .eql false (.t 86) (.k (.sc (.int .i64 0))) (pu (.binOp .eql 24 (.tmp 86) (.const (.int .i64 0)) 24) 4)⟩, 
 ⟨(some 88), none, .pick (.t 85) (.t 87) (.k (.sc (.bool false)))⟩, 
 ⟨(some 89), none, .mv (.t 88)⟩, 
 ⟨(some 90), (some ((some 89), true)), .call 10 [(.k (.sc (.slice none 0 0))), (.k (.sc (.int .i64 1000)))]⟩, 
 ⟨(some 91), (some ((some 89), true)), .bin .eql false (.t 90) (.k (.sc (.int .i64 1))) (pu (.binOp .eql 24 (.tmp 90) (.const (.int .i64 1)) 24) 4)⟩, 
 ⟨(some 92), none, .pick (.t 89) (.t 91) (.k (.sc (.bool false)))⟩, 
 ⟨(some 0), none, .mv (.t 92)⟩])
 .ret)))))))
def k9 : List Nat := [0, 1, 2, 3, 4, 5, 6, 7, 8, 65]
theorem ic9 : factsI Try.prog 9 = some (93, [.tmp 0], c9) := by kernel_rfl

-- chargenet/usage.Valid (59 slots)
def c10 : IC :=
 (.seq (.reg [⟨(some 4), none, .mv (.k (.sc (.int .i64 0)))⟩])
 (.seq (.seq (.reg [⟨(some 7), none, .mv (.t 1)⟩, 
 ⟨(some 8), none, .bin .lss false (.t 7) (.k (.sc (.int .i64 1000))) (pu (.binOp .lss 3 (.tmp 7) (.const (.int .i64 1000)) 3) 4)⟩, 
 ⟨(some 9), none, .mv (.t 8)⟩, 
 ⟨(some 10), (some ((some 9), false)), .mv (.t 1)⟩, 
 ⟨(some 11), (some ((some 9), false)), .bin .gtr false (.t 10) (.k (.sc (.int .i64 1099511627776))) (pu (.binOp .gtr 3 (.tmp 10) (.const (.int .i64 1099511627776)) 3) 4)⟩, 
 ⟨(some 12), none, .pick (.t 9) (.k (.sc (.bool true))) (.t 11)⟩])
 (.cond (.t 12) (.seq (.reg [⟨(some 4), none, .mv (.k (.sc (.int .i64 2)))⟩])
  .ret)
 .skip))
 (.seq (.seq (.reg [⟨(some 13), none, .mv (.t 0)⟩, 
 ⟨(some 14), none, .len (.t 13) (pu (.call ⟨.builtin .len, #[(.tmp 13)], #[22]⟩) 3)⟩, 
 ⟨(some 15), none, .bin .eql false (.t 14) (.k (.sc (.int .i64 0))) (pu (.binOp .eql 3 (.tmp 14) (.const (.int .i64 0)) 3) 4)⟩])
 (.cond (.t 15) (.seq (.reg [⟨(some 4), none, .mv (.k (.sc (.int .i64 1)))⟩])
  .ret)
 .skip))
 (.seq (.seq (.reg [⟨(some 16), none, .mv (.t 0)⟩, 
 ⟨(some 17), none, .len (.t 16) (pu (.call ⟨.builtin .len, #[(.tmp 16)], #[22]⟩) 3)⟩, 
 ⟨(some 18), none, .bin .gtr false (.t 17) (.k (.sc (.int .i64 1024))) (pu (.binOp .gtr 3 (.tmp 17) (.const (.int .i64 1024)) 3) 4)⟩])
 (.cond (.t 18) (.seq (.reg [⟨(some 4), none, .mv (.k (.sc (.int .i64 3)))⟩])
  .ret)
 .skip))
 (.seq (.seq (.reg [⟨(some 19), none, .mv (.t 0)⟩, 
 ⟨(some 20), none, .len (.t 19) (pu (.call ⟨.builtin .len, #[(.tmp 19)], #[22]⟩) 3)⟩, 
 ⟨(some 21), none, .mv (.k (.sc (.int .i64 0)))⟩])
 (.block 0 (.loop (.seq (.reg [⟨(some 22), none, .bin .lss false (.t 21) (.t 20) (pu (.binOp .lss 3 (.tmp 21) (.tmp 20) 3) 0)⟩])
  (.seq (.cond (.t 22) .skip
  (.exit 0))
  (.seq (.block 1 (.seq (.reg [⟨(some 23), none, .mv (.t 21)⟩, 
  ⟨(some 24), none, .ixs 2 (.t 19) (.t 21)⟩, 
  ⟨(some 25), none, .ld (some 2) (.t 24)⟩, 
  ⟨(some 6), none, .al (.agg [(.sc (.int .i64 0)), (.sc (.int .i64 0))]) 2⟩, 
  ⟨(some 5), none, .mv (.t 23)⟩, 
  ⟨none, none, .st 2 (.t 6) (.t 25)⟩])
  (.seq (.seq (.reg [⟨(some 26), none, .sh 0 (.t 6)⟩, 
  ⟨(some 27), none, .ld none (.t 26)⟩, 
  ⟨(some 28), none, .bin .lss false (.t 27) (.k (.sc (.int .i64 0))) (pu (.binOp .lss 3 (.tmp 27) (.const (.int .i64 0)) 3) 4)⟩, 
  ⟨(some 29), none, .mv (.t 28)⟩, 
  ⟨(some 30), (some ((some 29), false)), .sh 0 (.t 6)⟩, 
  ⟨(some 31), (some ((some 29), false)), .ld none (.t 30)⟩, 
  ⟨(some 32), (some ((some 29), false)), .bin .gtr false (.t 31) (.k (.sc (.int .i64 268435456))) (pu (.binOp .gtr 3 (.tmp 31) (.const (.int .i64 268435456)) 3) 4)⟩, 
  ⟨(some 33), none, .pick (.t 29) (.k (.sc (.bool true))) (.t 32)⟩, 
  ⟨(some 34), none, .mv (.t 33)⟩, 
  ⟨(some 35), (some ((some 34), false)), .sh 1 (.t 6)⟩, 
  ⟨(some 36), (some ((some 34), false)), .ld none (.t 35)⟩, 
  ⟨(some 37), (some ((some 34), false)), .bin .lss false (.t 36) (.k (.sc (.int .i64 0))) (pu (.binOp .lss 3 (.tmp 36) (.const (.int .i64 0)) 3) 4)⟩, 
  ⟨(some 38), none, .pick (.t 34) (.k (.sc (.bool true))) (.t 37)⟩, 
  ⟨(some 39), none, .mv (.t 38)⟩, 
  ⟨(some 40), (some ((some 39), false)), .sh 1 (.t 6)⟩, 
  ⟨(some 41), (some ((some 39), false)), .ld none (.t 40)⟩, 
  ⟨(some 42), (some ((some 39), false)), .mv (.t 1)⟩, 
  ⟨(some 43), (some ((some 39), false)), .bin .geq false (.t 41) (.t 42) (pu (.binOp .geq 3 (.tmp 41) (.tmp 42) 3) 4)⟩, 
  ⟨(some 44), none, .pick (.t 39) (.k (.sc (.bool true))) (.t 43)⟩])
  (.cond (.t 44) (.seq (.reg [⟨(some 4), none, .mv (.k (.sc (.int .i64 2)))⟩])
   .ret)
  .skip))
  (.seq (.drw [0, 1, 3, 7, 15, 7, 7, 71, 231, 487, 999, 2047, 4095] [⟨(some 45), none, .mv (.t 5)⟩, 
  ⟨(some 46), none, .bin .gtr false (.t 45) (.k (.sc (.int .i64 0))) (pu (.binOp .gtr 3 (.tmp 45) (.const (.int .i64 0)) 3) 4)⟩, 
  ⟨(some 47), none, .mv (.t 46)⟩, 
  ⟨(some 48), (some ((some 47), true)), .sh 0 (.t 6)⟩, 
  ⟨(some 49), (some ((some 47), true)), .ld none (.t 48)⟩, 
  ⟨(some 50), (some ((some 47), true)), .mv (.t 0)⟩, 
  ⟨(some 51), (some ((some 47), true)), .mv (.t 5)⟩, 
  ⟨(some 52), (some ((some 47), true)), .bin .sub false (.t 51) (.k (.sc (.int .i64 1))) (pu (.binOp .sub 3 (.tmp 51) (.const (.int .i64 1)) 3) 3)⟩, 
  ⟨(some 53), (some ((some 47), true)), .ixs 2 (.t 50) (.t 52)⟩, 
  ⟨(some 54), (some ((some 47), true)), .sh 0 (.t 53)⟩, 
  ⟨(some 55), (some ((some 47), true)), .ld none (.t 54)⟩, 
  ⟨(some 56), (some ((some 47), true)), .bin .leq false (.t 49) (.t 55) (pu (.binOp .leq 3 (.tmp 49) (.tmp 55) 3) 4)⟩, 
  ⟨(some 57), none, .pick (.t 47) (.t 56) (.k (.sc (.bool false)))⟩])
  (.cond (.t 57) (.seq (.reg [⟨(some 4), none, .mv (.k (.sc (.int .i64 1)))⟩])
   .ret)
  .skip)))))
  (.reg [⟨(some 58), none, .bin .add false (.t 21) (.k (.sc (.int .i64 1))) (pu (.binOp .add 3 (.tmp 21) (.const (.int .i64 1)) 3) 3)⟩, 
  ⟨(some 21), none, .mv (.t 58)⟩])))))))
 (.seq (.reg [⟨(some 4), none, .mv (.k (.sc (.int .i64 0)))⟩])
 .ret))))))
def k10 : List Nat := [0, 1, 4, 5, 6, 12, 15, 18, 19, 20, 21, 22, 44, 57]
theorem ic10 : factsI Try.prog 10 = some (59, [.tmp 4], c10) := by kernel_rfl

-- chargenet/chargenetref20.Valid (71 slots)
def c11 : IC :=
 (.seq (.reg [⟨(some 4), none, .mv (.k (.sc (.int .i64 0)))⟩])
 (.seq (.seq (.reg [⟨(some 6), none, .mv (.t 1)⟩, 
 ⟨(some 7), none, .bin .lss false (.t 6) (.k (.sc (.int .i64 1000))) (pu (.binOp .lss 3 (.tmp 6) (.const (.int .i64 1000)) 3) 4)⟩, 
 ⟨(some 8), none, .mv (.t 7)⟩, 
 ⟨(some 9), (some ((some 8), false)), .mv (.t 1)⟩, 
 ⟨(some 10), (some ((some 8), false)), .bin .gtr false (.t 9) (.k (.sc (.int .i64 1099511627776))) (pu (.binOp .gtr 3 (.tmp 9) (.const (.int .i64 1099511627776)) 3) 4)⟩, 
 ⟨(some 11), none, .pick (.t 8) (.k (.sc (.bool true))) (.t 10)⟩])
 (.cond (.t 11) (.seq (.reg [⟨(some 4), none, .mv (.k (.sc (.int .i64 2)))⟩])
  .ret)
 .skip))
 (.seq (.seq (.reg [⟨(some 12), none, .mv (.t 0)⟩, 
 ⟨(some 13), none, .len (.t 12) (pu (.call ⟨.builtin .len, #[(.tmp 12)], #[22]⟩) 3)⟩, 
 ⟨(some 14), none, .bin .eql false (.t 13) (.k (.sc (.int .i64 0))) (pu (.binOp .eql 3 (.tmp 13) (.const (.int .i64 0)) 3) 4)⟩])
 (.cond (.t 14) (.seq (.reg [⟨(some 4), none, .mv (.k (.sc (.int .i64 1)))⟩])
  .ret)
 .skip))
 (.seq (.seq (.reg [⟨(some 15), none, .mv (.t 0)⟩, 
 ⟨(some 16), none, .len (.t 15) (pu (.call ⟨.builtin .len, #[(.tmp 15)], #[22]⟩) 3)⟩, 
 ⟨(some 17), none, .bin .gtr false (.t 16) (.k (.sc (.int .i64 1024))) (pu (.binOp .gtr 3 (.tmp 16) (.const (.int .i64 1024)) 3) 4)⟩])
 (.cond (.t 17) (.seq (.reg [⟨(some 4), none, .mv (.k (.sc (.int .i64 3)))⟩])
  .ret)
 .skip))
 (.seq (.seq (.reg [⟨(some 5), none, .mv (.k (.sc (.int .i64 0)))⟩])
 (.block 0 (.loop (.seq (.seq (.reg [⟨(some 18), none, .mv (.t 5)⟩, 
  ⟨(some 19), none, .mv (.t 0)⟩, 
  ⟨(some 20), none, .len (.t 19) (pu (.call ⟨.builtin .len, #[(.tmp 19)], #[22]⟩) 3)⟩, 
  ⟨(some 21), none, .bin .lss false (.t 18) (.t 20) (pu (.binOp .lss 3 (.tmp 18) (.tmp 20) 3) 4)⟩])
  (.cond (.t 21) .skip
  (.exit 0)))
  (.seq (.block 1 (.seq (.seq (.reg [⟨(some 24), none, .mv (.t 0)⟩, 
  ⟨(some 25), none, .mv (.t 5)⟩, 
  ⟨(some 26), none, .ixs 2 (.t 24) (.t 25)⟩, 
  ⟨(some 27), none, .sh 0 (.t 26)⟩, 
  ⟨(some 28), none, .ld none (.t 27)⟩, 
  ⟨(some 29), none, .bin .lss false (.t 28) (.k (.sc (.int .i64 0))) (pu (.binOp .lss 3 (.tmp 28) (.const (.int .i64 0)) 3) 4)⟩, 
  ⟨(some 30), none, .mv (.t 29)⟩, 
  ⟨(some 31), (some ((some 30), false)), .mv (.t 0)⟩, 
  ⟨(some 32), (some ((some 30), false)), .mv (.t 5)⟩, 
  ⟨(some 33), (some ((some 30), false)), .ixs 2 (.t 31) (.t 32)⟩, 
  ⟨(some 34), (some ((some 30), false)), .sh 0 (.t 33)⟩, 
  ⟨(some 35), (some ((some 30), false)), .ld none (.t 34)⟩, 
  ⟨(some 36), (some ((some 30), false)), .bin .gtr false (.t 35) (.k (.sc (.int .i64 268435456))) (pu (.binOp .gtr 3 (.tmp 35) (.const (.int .i64 268435456)) 3) 4)⟩, 
  ⟨(some 37), none, .pick (.t 30) (.k (.sc (.bool true))) (.t 36)⟩, 
  ⟨(some 38), none, .mv (.t 37)⟩, 
  ⟨(some 39), (some ((some 38), false)), .mv (.t 0)⟩, 
  ⟨(some 40), (some ((some 38), false)), .mv (.t 5)⟩, 
  ⟨(some 41), (some ((some 38), false)), .ixs 2 (.t 39) (.t 40)⟩, 
  ⟨(some 42), (some ((some 38), false)), .sh 1 (.t 41)⟩, 
  ⟨(some 43), (some ((some 38), false)), .ld none (.t 42)⟩, 
  ⟨(some 44), (some ((some 38), false)), .bin .lss false (.t 43) (.k (.sc (.int .i64 0))) (pu (.binOp .lss 3 (.tmp 43) (.const (.int .i64 0)) 3) 4)⟩, 
  ⟨(some 45), none, .pick (.t 38) (.k (.sc (.bool true))) (.t 44)⟩, 
  ⟨(some 46), none, .mv (.t 45)⟩, 
  ⟨(some 47), (some ((some 46), false)), .mv (.t 0)⟩, 
  ⟨(some 48), (some ((some 46), false)), .mv (.t 5)⟩, 
  ⟨(some 49), (some ((some 46), false)), .ixs 2 (.t 47) (.t 48)⟩, 
  ⟨(some 50), (some ((some 46), false)), .sh 1 (.t 49)⟩, 
  ⟨(some 51), (some ((some 46), false)), .ld none (.t 50)⟩, 
  ⟨(some 52), (some ((some 46), false)), .mv (.t 1)⟩, 
  ⟨(some 53), (some ((some 46), false)), .bin .geq false (.t 51) (.t 52) (pu (.binOp .geq 3 (.tmp 51) (.tmp 52) 3) 4)⟩, 
  ⟨(some 54), none, .pick (.t 46) (.k (.sc (.bool true))) (.t 53)⟩])
  (.cond (.t 54) (.seq (.reg [⟨(some 4), none, .mv (.k (.sc (.int .i64 2)))⟩])
   .ret)
  .skip))
  (.seq (.drw [0, 1, 3, 7, 7, 31, 63, 127, 7, 7, 519, 1799, 3847, 7943, 16383, 32767] [⟨(some 55), none, .mv (.t 5)⟩, 
  ⟨(some 56), none, .bin .gtr false (.t 55) (.k (.sc (.int .i64 0))) (pu (.binOp .gtr 3 (.tmp 55) (.const (.int .i64 0)) 3) 4)⟩, 
  ⟨(some 57), none, .mv (.t 56)⟩, 
  ⟨(some 58), (some ((some 57), true)), .mv (.t 0)⟩, 
  ⟨(some 59), (some ((some 57), true)), .mv (.t 5)⟩, 
  ⟨(some 60), (some ((some 57), true)), .ixs 2 (.t 58) (.t 59)⟩, 
  ⟨(some 61), (some ((some 57), true)), .sh 0 (.t 60)⟩, 
  ⟨(some 62), (some ((some 57), true)), .ld none (.t 61)⟩, 
  ⟨(some 63), (some ((some 57), true)), .mv (.t 0)⟩, 
  ⟨(some 64), (some ((some 57), true)), .mv (.t 5)⟩, 
  ⟨(some 65), (some ((some 57), true)), .bin .sub false (.t 64) (.k (.sc (.int .i64 1))) (pu (.binOp .sub 3 (.tmp 64) (.const (.int .i64 1)) 3) 3)⟩, 
  ⟨(some 66), (some ((some 57), true)), .ixs 2 (.t 63) (.t 65)⟩, 
  ⟨(some 67), (some ((some 57), true)), .sh 0 (.t 66)⟩, 
  ⟨(some 68), (some ((some 57), true)), .ld none (.t 67)⟩, 
  ⟨(some 69), (some ((some 57), true)), .bin .leq false (.t 62) (.t 68) (pu (.binOp .leq 3 (.tmp 62) (.tmp 68) 3) 4)⟩, 
  ⟨(some 70), none, .pick (.t 57) (.t 69) (.k (.sc (.bool false)))⟩])
  (.cond (.t 70) (.seq (.reg [⟨(some 4), none, .mv (.k (.sc (.int .i64 1)))⟩])
   .ret)
  .skip))))
  (.reg [⟨(some 22), none, .mv (.t 5)⟩, 
  ⟨(some 23), none, .bin .add false (.t 22) (.k (.sc (.int .i64 1))) (pu (.binOp .add 3 (.tmp 22) (.const (.int .i64 1)) 3) 3)⟩, 
  ⟨(some 5), none, .mv (.t 23)⟩]))))))
 (.seq (.reg [⟨(some 4), none, .mv (.k (.sc (.int .i64 0)))⟩])
 .ret))))))
def k11 : List Nat := [0, 1, 4, 5, 11, 14, 17, 21, 54, 70]
theorem ic11 : factsI Try.prog 11 = some (71, [.tmp 4], c11) := by kernel_rfl

-- chargenet/usage.Total (38 slots)
def c12 : IC :=
 (.seq (.reg [⟨(some 3), none, .bx (.t 1)⟩, 
 ⟨(some 4), none, .al (.sc (.int .i64 0)) 1⟩, 
 ⟨(some 5), none, .al (.sc (.int .i64 0)) 1⟩])
 (.seq (.seq (.reg [⟨(some 12), none, .mv (.t 0)⟩, 
 ⟨(some 13), none, .ld none (.t 3)⟩, 
 ⟨(some 14), none, .call 10 [(.t 12), (.t 13)]⟩, 
 ⟨(some 6), none, .mv (.t 14)⟩])
 (.seq (.reg [⟨(some 15), none, .mv (.t 6)⟩, 
 ⟨(some 16), none, .bin .neq false (.t 15) (.k (.sc (.int .i64 0))) (pu (.binOp .neq 24 (.tmp 15) (.const (.int .i64 0)) 24) 4)⟩])
 (.cond (.t 16) (.seq (.reg [⟨(some 17), none, .mv (.t 6)⟩, 
  ⟨none, none, .st 1 (.t 4) (.k (.sc (.int .i64 0)))⟩, 
  ⟨none, none, .st 1 (.t 5) (.t 17)⟩])
  .ret)
 .skip)))
 (.seq (.reg [⟨(some 7), none, .al (.sc (.int .i64 0)) 1⟩, 
 ⟨none, none, .st 1 (.t 7) (.k (.sc (.int .i64 0)))⟩])
 (.seq (.seq (.reg [⟨(some 18), none, .mv (.t 0)⟩, 
 ⟨(some 19), none, .call 26 [(.t 18)]⟩])
 (.block 0 (.rfn (.t 19) [20, 21] (.seq (.reg [⟨(some 8), none, .al (.agg [(.sc (.int .i64 0)), (.sc (.int .i64 0))]) 2⟩, 
  ⟨none, none, .st 2 (.t 8) (.t 20)⟩])
  (.reg [⟨(some 9), none, .al (.agg [(.sc (.int .i64 0)), (.sc (.int .i64 0))]) 2⟩, 
  ⟨none, none, .st 2 (.t 9) (.t 21)⟩]))
 (.block 1 (.seq (.reg [⟨(some 23), none, .sh 1 (.t 8)⟩, 
  ⟨(some 24), none, .ld none (.t 23)⟩, 
  ⟨(some 25), none, .sh 1 (.t 9)⟩, 
  ⟨(some 26), none, .ld none (.t 25)⟩, 
  ⟨(some 27), none, .ld none (.t 3)⟩, 
  ⟨(some 28), none, .call 27 [(.t 24), (.t 26), (.t 27)]⟩, 
  ⟨(some 22), none, .mv (.t 28)⟩, 
  ⟨(some 29), none, .ext (.t 22) 0⟩, 
  ⟨(some 30), none, .ext (.t 22) 1⟩, 
  ⟨(some 10), none, .mv (.t 29)⟩, 
  ⟨(some 11), none, .mv (.t 30)⟩])
  (.seq (.seq (.reg [⟨(some 31), none, .mv (.t 11)⟩, 
  ⟨(some 32), none, .bin .neq false (.t 31) (.k (.sc (.int .i64 0))) (pu (.binOp .neq 24 (.tmp 31) (.const (.int .i64 0)) 24) 4)⟩])
  (.cond (.t 32) (.seq (.reg [⟨(some 33), none, .mv (.t 11)⟩, 
   ⟨none, none, .st 1 (.t 4) (.k (.sc (.int .i64 0)))⟩, 
   ⟨none, none, .st 1 (.t 5) (.t 33)⟩])
   .ret)
  .skip))
  (.reg [⟨(some 34), none, .ld none (.t 7)⟩, 
  ⟨(some 35), none, .mv (.t 10)⟩, 
  ⟨(some 36), none, .bin .add false (.t 34) (.t 35) (pu (.binOp .add 3 (.tmp 34) (.tmp 35) 3) 3)⟩, 
  ⟨none, none, .st 1 (.t 7) (.t 36)⟩])))))))
 (.seq (.reg [⟨(some 37), none, .ld none (.t 7)⟩, 
 ⟨none, none, .st 1 (.t 4) (.t 37)⟩, 
 ⟨none, none, .st 1 (.t 5) (.k (.sc (.int .i64 0)))⟩])
 .ret)))))
def k12 : List Nat := [0, 1, 3, 4, 5, 6, 7, 8, 9, 10, 11, 16, 19, 20, 21, 32]
theorem ic12 : factsI Try.prog 12 = some (38, [.cell 4 3, .cell 5 24], c12) := by kernel_rfl

-- chargenet/chargenetref20.Total (35 slots)
def c13 : IC :=
 (.seq (.reg [⟨(some 4), none, .mv (.k (.sc (.int .i64 0)))⟩, 
 ⟨(some 5), none, .mv (.k (.sc (.int .i64 0)))⟩])
 (.seq (.seq (.reg [⟨(some 9), none, .mv (.t 0)⟩, 
 ⟨(some 10), none, .mv (.t 1)⟩, 
 ⟨(some 11), none, .call 11 [(.t 9), (.t 10)]⟩, 
 ⟨(some 6), none, .mv (.t 11)⟩])
 (.seq (.reg [⟨(some 12), none, .mv (.t 6)⟩, 
 ⟨(some 13), none, .bin .neq false (.t 12) (.k (.sc (.int .i64 0))) (pu (.binOp .neq 24 (.tmp 12) (.const (.int .i64 0)) 24) 4)⟩])
 (.cond (.t 13) (.seq (.reg [⟨(some 14), none, .mv (.t 6)⟩, 
  ⟨(some 4), none, .mv (.k (.sc (.int .i64 0)))⟩, 
  ⟨(some 5), none, .mv (.t 14)⟩])
  .ret)
 .skip)))
 (.seq (.reg [⟨(some 7), none, .mv (.k (.sc (.int .i64 0)))⟩])
 (.seq (.seq (.reg [⟨(some 8), none, .mv (.k (.sc (.int .i64 1)))⟩])
 (.block 0 (.loop (.seq (.seq (.reg [⟨(some 15), none, .mv (.t 8)⟩, 
  ⟨(some 16), none, .mv (.t 0)⟩, 
  ⟨(some 17), none, .len (.t 16) (pu (.call ⟨.builtin .len, #[(.tmp 16)], #[22]⟩) 3)⟩, 
  ⟨(some 18), none, .bin .lss false (.t 15) (.t 17) (pu (.binOp .lss 3 (.tmp 15) (.tmp 17) 3) 4)⟩])
  (.cond (.t 18) .skip
  (.exit 0)))
  (.seq (.block 1 (.drw [0, 0, 0, 4, 14, 30, 0, 0, 192, 448, 0, 2046, 4095, 8191] [⟨(some 21), none, .mv (.t 7)⟩, 
  ⟨(some 22), none, .mv (.t 0)⟩, 
  ⟨(some 23), none, .mv (.t 8)⟩, 
  ⟨(some 24), none, .bin .sub false (.t 23) (.k (.sc (.int .i64 1))) (pu (.binOp .sub 3 (.tmp 23) (.const (.int .i64 1)) 3) 3)⟩, 
  ⟨(some 25), none, .ixs 2 (.t 22) (.t 24)⟩, 
  ⟨(some 26), none, .ld (some 2) (.t 25)⟩, 
  ⟨(some 27), none, .mv (.t 0)⟩, 
  ⟨(some 28), none, .mv (.t 8)⟩, 
  ⟨(some 29), none, .ixs 2 (.t 27) (.t 28)⟩, 
  ⟨(some 30), none, .ld (some 2) (.t 29)⟩, 
  ⟨(some 31), none, .mv (.t 1)⟩, 
  ⟨(some 32), none, .call 21 [(.t 26), (.t 30), (.t 31)]⟩, 
  ⟨(some 33), none, .bin .add false (.t 21) (.t 32) (pu (.binOp .add 3 (.tmp 21) (.tmp 32) 3) 3)⟩, 
  ⟨(some 7), none, .mv (.t 33)⟩]))
  (.reg [⟨(some 19), none, .mv (.t 8)⟩, 
  ⟨(some 20), none, .bin .add false (.t 19) (.k (.sc (.int .i64 1))) (pu (.binOp .add 3 (.tmp 19) (.const (.int .i64 1)) 3) 3)⟩, 
  ⟨(some 8), none, .mv (.t 20)⟩]))))))
 (.seq (.reg [⟨(some 34), none, .mv (.t 7)⟩, 
 ⟨(some 4), none, .mv (.t 34)⟩, 
 ⟨(some 5), none, .mv (.k (.sc (.int .i64 0)))⟩])
 .ret)))))
def k13 : List Nat := [0, 1, 4, 5, 6, 7, 8, 13, 18]
theorem ic13 : factsI Try.prog 13 = some (35, [.tmp 4, .tmp 5], c13) := by kernel_rfl

-- chargenet/chargenetlaw20.short (40 slots)
def c14 : IC :=
 (.seq (.reg [⟨(some 2), none, .mv (.k (.sc (.bool false)))⟩])
 (.seq (.seq (.reg [⟨(some 5), none, .mv (.t 0)⟩, 
 ⟨(some 6), none, .len (.t 5) (pu (.call ⟨.builtin .len, #[(.tmp 5)], #[22]⟩) 3)⟩, 
 ⟨(some 7), none, .bin .lss false (.t 6) (.k (.sc (.int .i64 2))) (pu (.binOp .lss 3 (.tmp 6) (.const (.int .i64 2)) 3) 4)⟩])
 (.cond (.t 7) (.seq (.reg [⟨(some 2), none, .mv (.k (.sc (.bool true)))⟩])
  .ret)
 .skip))
 (.seq (.drw [0, 1, 3, 7, 0, 0, 32, 96, 240, 496, 1008, 15, 4095] [⟨(some 8), none, .mv (.t 0)⟩, 
 ⟨(some 9), none, .ixs 2 (.t 8) (.k (.sc (.int .i64 0)))⟩, 
 ⟨(some 10), none, .sh 0 (.t 9)⟩, 
 ⟨(some 11), none, .ld none (.t 10)⟩, 
 ⟨(some 12), none, .mv (.t 0)⟩, 
 ⟨(some 13), none, .mv (.t 0)⟩, 
 ⟨(some 14), none, .len (.t 13) (pu (.call ⟨.builtin .len, #[(.tmp 13)], #[22]⟩) 3)⟩, 
 ⟨(some 15), none, .bin .sub false (.t 14) (.k (.sc (.int .i64 1))) (pu (.binOp .sub 3 (.tmp 14) (.const (.int .i64 1)) 3) 3)⟩, 
 ⟨(some 16), none, .ixs 2 (.t 12) (.t 15)⟩, 
 ⟨(some 17), none, .sh 0 (.t 16)⟩, 
 ⟨(some 18), none, .ld none (.t 17)⟩, 
 ⟨(some 3), none, .mv (.t 11)⟩, 
 ⟨(some 4), none, .mv (.t 18)⟩])
 (.seq (.seq (.reg [⟨(some 19), none, .mv (.t 3)⟩, 
 ⟨(some 20), none, .bin .lss false (.t 19) (.k (.sc (.int .i64 0))) (pu (.binOp .lss 3 (.tmp 19) (.const (.int .i64 0)) 3) 4)⟩, 
 ⟨(some 21), none, .mv (.t 20)⟩, 
 ⟨(some 22), (some ((some 21), false)), .mv (.t 4)⟩, 
 ⟨(some 23), (some ((some 21), false)), .bin .gtr false (.t 22) (.k (.sc (.int .i64 268435456))) (pu (.binOp .gtr 3 (.tmp 22) (.const (.int .i64 268435456)) 3) 4)⟩, 
 ⟨(some 24), none, .pick (.t 21) (.k (.sc (.bool true))) (.t 23)⟩, 
 ⟨(some 25), none, .mv (.t 24)⟩, 
 ⟨(some 26), (some ((some 25), false)), .mv (.t 3)⟩, 
 ⟨(some 27), (some ((some 25), false)), .mv (.t 4)⟩, 
 ⟨(some 28), (some ((some 25), false)), .bin .gtr false (.t 26) (.t 27) (pu (.binOp .gtr 3 (.tmp 26) (.tmp 27) 3) 4)⟩, 
 ⟨(some 29), none, .pick (.t 25) (.k (.sc (.bool true))) (.t 28)⟩])
 (.cond (.t 29) (.seq (.reg [⟨(some 2), none, .mv (.k (.sc (.bool true)))⟩])
  .ret)
 .skip))
 (.seq (.reg [⟨(some 30), none, .mv (.t 4)⟩, 
 ⟨(some 31), none, .mv (.t 3)⟩, 
 ⟨(some 32), none, .bin .sub false (.t 30) (.t 31) (pu (.binOp .sub 3 (.tmp 30) (.tmp 31) 3) 3)⟩, 
 ⟨(some 33), none, .bin .leq false (.t 32) (.k (.sc (.int .i64 400))) (pu (.binOp .leq 3 (.tmp 32) (.const (.int .i64 400)) 3) 4)⟩, 
 ⟨(some 34), none, .mv (.t 33)⟩, 
 ⟨(some 35), (some ((some 34), false)), .mv (.t 4)⟩, 
 ⟨(some 36), (some ((some 34), false)), .mv (.t 3)⟩, 
 ⟨(some 37), (some ((some 34), false)), .bin .sub false (.t 35) (.t 36) (pu (.binOp .sub 3 (.tmp 35) (.tmp 36) 3) 3)⟩, 
 ⟨(some 38), (some ((some 34), false)), .bin .geq false (.t 37) (.k (.sc (.int .i64 20160))) (pu (.binOp .geq 3 (.tmp 37) (.const (.int .i64 20160)) 3) 4)⟩, 
 ⟨(some 39), none, .pick (.t 34) (.k (.sc (.bool true))) (.t 38)⟩, 
 ⟨(some 2), none, .mv (.t 39)⟩])
 .ret)))))
def k14 : List Nat := [0, 2, 3, 4, 7, 29]
theorem ic14 : factsI Try.prog 14 = some (40, [.tmp 2], c14) := by kernel_rfl

-- chargenet/usage.Minutes (79 slots)
def c15 : IC :=
 (.seq (.reg [⟨(some 3), none, .bx (.t 1)⟩, 
 ⟨(some 4), none, .al (.sc (.slice none 0 0)) 1⟩, 
 ⟨(some 5), none, .al (.sc (.int .i64 0)) 1⟩])
 (.seq (.seq (.reg [⟨(some 15), none, .mv (.t 0)⟩, 
 ⟨(some 16), none, .ld none (.t 3)⟩, 
 ⟨(some 17), none, .call 10 [(.t 15), (.t 16)]⟩, 
 ⟨(some 6), none, .mv (.t 17)⟩])
 (.seq (.reg [⟨(some 18), none, .mv (.t 6)⟩, 
 ⟨(some 19), none, .bin .neq false (.t 18) (.k (.sc (.int .i64 0))) (pu (.binOp .neq 24 (.tmp 18) (.const (.int .i64 0)) 24) 4)⟩])
 (.cond (.t 19) (.seq (.reg [⟨(some 20), none, .mv (.t 6)⟩, 
  ⟨none, none, .st 1 (.t 4) (.k (.sc (.slice none 0 0)))⟩, 
  ⟨none, none, .st 1 (.t 5) (.t 20)⟩])
  .ret)
 .skip)))
 (.seq (.drw [0, 0, 2, 6, 15, 31, 63, 0, 128, 384, 896, 2047, 4095] [⟨(some 21), none, .mv (.t 0)⟩, 
 ⟨(some 22), none, .mv (.t 0)⟩, 
 ⟨(some 23), none, .len (.t 22) (pu (.call ⟨.builtin .len, #[(.tmp 22)], #[22]⟩) 3)⟩, 
 ⟨(some 24), none, .bin .sub false (.t 23) (.k (.sc (.int .i64 1))) (pu (.binOp .sub 3 (.tmp 23) (.const (.int .i64 1)) 3) 3)⟩, 
 ⟨(some 25), none, .ixs 2 (.t 21) (.t 24)⟩, 
 ⟨(some 26), none, .sh 0 (.t 25)⟩, 
 ⟨(some 27), none, .ld none (.t 26)⟩, 
 ⟨(some 28), none, .mv (.t 0)⟩, 
 ⟨(some 29), none, .ixs 2 (.t 28) (.k (.sc (.int .i64 0)))⟩, 
 ⟨(some 30), none, .sh 0 (.t 29)⟩, 
 ⟨(some 31), none, .ld none (.t 30)⟩, 
 ⟨(some 32), none, .bin .sub false (.t 27) (.t 31) (pu (.binOp .sub 3 (.tmp 27) (.tmp 31) 3) 3)⟩, 
 ⟨(some 7), none, .mv (.t 32)⟩])
 (.seq (.seq (.reg [⟨(some 33), none, .mv (.t 7)⟩, 
 ⟨(some 34), none, .bin .gtr false (.t 33) (.k (.sc (.int .i64 20160))) (pu (.binOp .gtr 3 (.tmp 33) (.const (.int .i64 20160)) 3) 4)⟩])
 (.cond (.t 34) (.seq (.reg [⟨none, none, .st 1 (.t 4) (.k (.sc (.slice none 0 0)))⟩, 
  ⟨none, none, .st 1 (.t 5) (.k (.sc (.int .i64 3)))⟩])
  .ret)
 .skip))
 (.seq (.reg [⟨(some 35), none, .mv (.t 7)⟩, 
 ⟨(some 36), none, .mks 1 8 (.sc (.int .i64 0)) (.k (.sc (.int .i64 0))) (.t 35)⟩, 
 ⟨(some 8), none, .al (.sc (.slice none 0 0)) 1⟩, 
 ⟨none, none, .st 1 (.t 8) (.t 36)⟩])
 (.seq (.seq (.reg [⟨(some 37), none, .mv (.t 0)⟩, 
 ⟨(some 38), none, .call 26 [(.t 37)]⟩])
 (.block 0 (.rfn (.t 38) [39, 40] (.seq (.reg [⟨(some 9), none, .al (.agg [(.sc (.int .i64 0)), (.sc (.int .i64 0))]) 2⟩, 
  ⟨none, none, .st 2 (.t 9) (.t 39)⟩])
  (.reg [⟨(some 10), none, .al (.agg [(.sc (.int .i64 0)), (.sc (.int .i64 0))]) 2⟩, 
  ⟨none, none, .st 2 (.t 10) (.t 40)⟩]))
 (.block 1 (.seq (.reg [⟨(some 42), none, .sh 1 (.t 9)⟩, 
  ⟨(some 43), none, .ld none (.t 42)⟩, 
  ⟨(some 44), none, .sh 1 (.t 10)⟩, 
  ⟨(some 45), none, .ld none (.t 44)⟩, 
  ⟨(some 46), none, .ld none (.t 3)⟩, 
  ⟨(some 47), none, .call 27 [(.t 43), (.t 45), (.t 46)]⟩, 
  ⟨(some 41), none, .mv (.t 47)⟩, 
  ⟨(some 48), none, .ext (.t 41) 0⟩, 
  ⟨(some 49), none, .ext (.t 41) 1⟩, 
  ⟨(some 11), none, .mv (.t 48)⟩, 
  ⟨(some 12), none, .mv (.t 49)⟩])
  (.seq (.seq (.reg [⟨(some 50), none, .mv (.t 12)⟩, 
  ⟨(some 51), none, .bin .neq false (.t 50) (.k (.sc (.int .i64 0))) (pu (.binOp .neq 24 (.tmp 50) (.const (.int .i64 0)) 24) 4)⟩])
  (.cond (.t 51) (.seq (.reg [⟨(some 52), none, .mv (.t 12)⟩, 
   ⟨none, none, .st 1 (.t 4) (.k (.sc (.slice none 0 0)))⟩, 
   ⟨none, none, .st 1 (.t 5) (.t 52)⟩])
   .ret)
  .skip))
  (.seq (.reg [⟨(some 53), none, .sh 0 (.t 10)⟩, 
  ⟨(some 54), none, .ld none (.t 53)⟩, 
  ⟨(some 55), none, .sh 0 (.t 9)⟩, 
  ⟨(some 56), none, .ld none (.t 55)⟩, 
  ⟨(some 57), none, .bin .sub false (.t 54) (.t 56) (pu (.binOp .sub 3 (.tmp 54) (.tmp 56) 3) 3)⟩, 
  ⟨(some 13), none, .mv (.t 57)⟩])
  (.seq (.reg [⟨(some 58), none, .mv (.t 13)⟩, 
  ⟨(some 59), none, .mv (.k (.sc (.int .i64 0)))⟩])
  (.block 2 (.loop (.seq (.reg [⟨(some 60), none, .bin .lss false (.t 59) (.t 58) (pu (.binOp .lss 3 (.tmp 59) (.tmp 58) 3) 4)⟩])
   (.seq (.cond (.t 60) .skip
   (.exit 2))
   (.seq (.block 3 (.seq (.reg [⟨(some 61), none, .mv (.t 59)⟩, 
   ⟨(some 14), none, .mv (.t 61)⟩])
   (.drw [0, 0, 0, 4, 14, 0, 62, 0, 0, 384, 0, 1920, 4094, 8190, 16383, 32767] [⟨(some 62), none, .ld none (.t 8)⟩, 
   ⟨(some 63), none, .mv (.t 11)⟩, 
   ⟨(some 64), none, .mv (.t 14)⟩, 
   ⟨(some 65), none, .bin .add false (.t 64) (.k (.sc (.int .i64 1))) (pu (.binOp .add 3 (.tmp 64) (.const (.int .i64 1)) 3) 3)⟩, 
   ⟨(some 66), none, .bin .mul false (.t 63) (.t 65) (pu (.binOp .mul 3 (.tmp 63) (.tmp 65) 3) 3)⟩, 
   ⟨(some 67), none, .mv (.t 13)⟩, 
   ⟨(some 68), none, .bin .quo false (.t 66) (.t 67) (pu (.binOp .quo 3 (.tmp 66) (.tmp 67) 3) 3)⟩, 
   ⟨(some 69), none, .mv (.t 11)⟩, 
   ⟨(some 70), none, .mv (.t 14)⟩, 
   ⟨(some 71), none, .bin .mul false (.t 69) (.t 70) (pu (.binOp .mul 3 (.tmp 69) (.tmp 70) 3) 3)⟩, 
   ⟨(some 72), none, .mv (.t 13)⟩, 
   ⟨(some 73), none, .bin .quo false (.t 71) (.t 72) (pu (.binOp .quo 3 (.tmp 71) (.tmp 72) 3) 3)⟩, 
   ⟨(some 74), none, .bin .sub false (.t 68) (.t 73) (pu (.binOp .sub 3 (.tmp 68) (.tmp 73) 3) 3)⟩, 
   ⟨(some 75), none, .bsl 1 1 false [(.sc (.int .i64 0))] [(0, 1, (.t 74))]⟩, 
   ⟨(some 76), none, .app 1 8 (.t 62) (.t 75)⟩, 
   ⟨none, none, .st 1 (.t 8) (.t 76)⟩])))
   (.reg [⟨(some 77), none, .bin .add false (.t 59) (.k (.sc (.int .i64 1))) (pu (.binOp .add 3 (.tmp 59) (.const (.int .i64 1)) 3) 3)⟩, 
   ⟨(some 59), none, .mv (.t 77)⟩]))))))))))))))
 (.seq (.reg [⟨(some 78), none, .ld none (.t 8)⟩, 
 ⟨none, none, .st 1 (.t 4) (.t 78)⟩, 
 ⟨none, none, .st 1 (.t 5) (.k (.sc (.int .i64 0)))⟩])
 .ret)))))))
def k15 : List Nat := [0, 1, 3, 4, 5, 6, 7, 8, 9, 10, 11, 12, 13, 14, 19, 34, 38, 39, 40, 51, 58, 59, 60]
theorem ic15 : factsI Try.prog 15 = some (79, [.cell 4 30, .cell 5 24], c15) := by kernel_rfl

-- chargenet/chargenetref20.Minutes (81 slots)
def c16 : IC :=
 (.seq (.reg [⟨(some 4), none, .mv (.k (.sc (.slice none 0 0)))⟩, 
 ⟨(some 5), none, .mv (.k (.sc (.int .i64 0)))⟩])
 (.seq (.seq (.reg [⟨(some 12), none, .mv (.t 0)⟩, 
 ⟨(some 13), none, .mv (.t 1)⟩, 
 ⟨(some 14), none, .call 11 [(.t 12), (.t 13)]⟩, 
 ⟨(some 6), none, .mv (.t 14)⟩])
 (.seq (.reg [⟨(some 15), none, .mv (.t 6)⟩, 
 ⟨(some 16), none, .bin .neq false (.t 15) (.k (.sc (.int .i64 0))) (pu (.binOp .neq 24 (.tmp 15) (.const (.int .i64 0)) 24) 4)⟩])
 (.cond (.t 16) (.seq (.reg [⟨(some 17), none, .mv (.t 6)⟩, 
  ⟨(some 4), none, .mv (.k (.sc (.slice none 0 0)))⟩, 
  ⟨(some 5), none, .mv (.t 17)⟩])
  .ret)
 .skip)))
 (.seq (.seq (.drw [0, 0, 2, 6, 15, 31, 63, 0, 128, 384, 896, 2047, 4095] [⟨(some 18), none, .mv (.t 0)⟩, 
 ⟨(some 19), none, .mv (.t 0)⟩, 
 ⟨(some 20), none, .len (.t 19) (pu (.call ⟨.builtin .len, #[(.tmp 19)], #[22]⟩) 3)⟩, 
 ⟨(some 21), none, .bin .sub false (.t 20) (.k (.sc (.int .i64 1))) (pu (.binOp .sub 3 (.tmp 20) (.const (.int .i64 1)) 3) 3)⟩, 
 ⟨(some 22), none, .ixs 2 (.t 18) (.t 21)⟩, 
 ⟨(some 23), none, .sh 0 (.t 22)⟩, 
 ⟨(some 24), none, .ld none (.t 23)⟩, 
 ⟨(some 25), none, .mv (.t 0)⟩, 
 ⟨(some 26), none, .ixs 2 (.t 25) (.k (.sc (.int .i64 0)))⟩, 
 ⟨(some 27), none, .sh 0 (.t 26)⟩, 
 ⟨(some 28), none, .ld none (.t 27)⟩, 
 ⟨(some 29), none, .bin .sub false (.t 24) (.t 28) (pu (.binOp .sub 3 (.tmp 24) (.tmp 28) 3) 3)⟩, 
 ⟨(some 30), none, .bin .gtr false (.t 29) (.k (.sc (.int .i64 20160))) (pu (.binOp .gtr 3 (.tmp 29) (.const (.int .i64 20160)) 3) 4)⟩])
 (.cond (.t 30) (.seq (.reg [⟨(some 4), none, .mv (.k (.sc (.slice none 0 0)))⟩, 
  ⟨(some 5), none, .mv (.k (.sc (.int .i64 3)))⟩])
  .ret)
 .skip))
 (.seq (.reg [⟨(some 7), none, .mv (.k (.sc (.slice none 0 0)))⟩])
 (.seq (.seq (.reg [⟨(some 8), none, .mv (.k (.sc (.int .i64 1)))⟩])
 (.block 0 (.loop (.seq (.seq (.reg [⟨(some 31), none, .mv (.t 8)⟩, 
  ⟨(some 32), none, .mv (.t 0)⟩, 
  ⟨(some 33), none, .len (.t 32) (pu (.call ⟨.builtin .len, #[(.tmp 32)], #[22]⟩) 3)⟩, 
  ⟨(some 34), none, .bin .lss false (.t 31) (.t 33) (pu (.binOp .lss 3 (.tmp 31) (.tmp 33) 3) 4)⟩])
  (.cond (.t 34) .skip
  (.exit 0)))
  (.seq (.block 1 (.seq (.drw [0, 0, 3, 7, 15, 0, 0, 64, 224, 480, 992, 2047, 4095] [⟨(some 37), none, .mv (.t 0)⟩, 
  ⟨(some 38), none, .mv (.t 8)⟩, 
  ⟨(some 39), none, .ixs 2 (.t 37) (.t 38)⟩, 
  ⟨(some 40), none, .sh 0 (.t 39)⟩, 
  ⟨(some 41), none, .ld none (.t 40)⟩, 
  ⟨(some 42), none, .mv (.t 0)⟩, 
  ⟨(some 43), none, .mv (.t 8)⟩, 
  ⟨(some 44), none, .bin .sub false (.t 43) (.k (.sc (.int .i64 1))) (pu (.binOp .sub 3 (.tmp 43) (.const (.int .i64 1)) 3) 3)⟩, 
  ⟨(some 45), none, .ixs 2 (.t 42) (.t 44)⟩, 
  ⟨(some 46), none, .sh 0 (.t 45)⟩, 
  ⟨(some 47), none, .ld none (.t 46)⟩, 
  ⟨(some 48), none, .bin .sub false (.t 41) (.t 47) (pu (.binOp .sub 3 (.tmp 41) (.tmp 47) 3) 3)⟩, 
  ⟨(some 9), none, .mv (.t 48)⟩])
  (.seq (.drw [0, 0, 2, 7, 15, 0, 0, 96, 224, 0, 1023, 2047] [⟨(some 49), none, .mv (.t 0)⟩, 
  ⟨(some 50), none, .mv (.t 8)⟩, 
  ⟨(some 51), none, .bin .sub false (.t 50) (.k (.sc (.int .i64 1))) (pu (.binOp .sub 3 (.tmp 50) (.const (.int .i64 1)) 3) 3)⟩, 
  ⟨(some 52), none, .ixs 2 (.t 49) (.t 51)⟩, 
  ⟨(some 53), none, .ld (some 2) (.t 52)⟩, 
  ⟨(some 54), none, .mv (.t 0)⟩, 
  ⟨(some 55), none, .mv (.t 8)⟩, 
  ⟨(some 56), none, .ixs 2 (.t 54) (.t 55)⟩, 
  ⟨(some 57), none, .ld (some 2) (.t 56)⟩, 
  ⟨(some 58), none, .mv (.t 1)⟩, 
  ⟨(some 59), none, .call 21 [(.t 53), (.t 57), (.t 58)]⟩, 
  ⟨(some 10), none, .mv (.t 59)⟩])
  (.seq (.reg [⟨(some 11), none, .mv (.k (.sc (.int .i64 0)))⟩])
  (.block 2 (.loop (.seq (.seq (.reg [⟨(some 60), none, .mv (.t 11)⟩, 
   ⟨(some 61), none, .mv (.t 9)⟩, 
   ⟨(some 62), none, .bin .lss false (.t 60) (.t 61) (pu (.binOp .lss 3 (.tmp 60) (.tmp 61) 3) 4)⟩])
   (.cond (.t 62) .skip
   (.exit 2)))
   (.seq (.block 3 (.drw [0, 0, 0, 4, 14, 0, 62, 0, 0, 384, 0, 1920, 4094, 8190, 16383, 32767] [⟨(some 65), none, .mv (.t 7)⟩, 
   ⟨(some 66), none, .mv (.t 10)⟩, 
   ⟨(some 67), none, .mv (.t 11)⟩, 
   ⟨(some 68), none, .bin .add false (.t 67) (.k (.sc (.int .i64 1))) (pu (.binOp .add 3 (.tmp 67) (.const (.int .i64 1)) 3) 3)⟩, 
   ⟨(some 69), none, .bin .mul false (.t 66) (.t 68) (pu (.binOp .mul 3 (.tmp 66) (.tmp 68) 3) 3)⟩, 
   ⟨(some 70), none, .mv (.t 9)⟩, 
   ⟨(some 71), none, .bin .quo false (.t 69) (.t 70) (pu (.binOp .quo 3 (.tmp 69) (.tmp 70) 3) 3)⟩, 
   ⟨(some 72), none, .mv (.t 10)⟩, 
   ⟨(some 73), none, .mv (.t 11)⟩, 
   ⟨(some 74), none, .bin .mul false (.t 72) (.t 73) (pu (.binOp .mul 3 (.tmp 72) (.tmp 73) 3) 3)⟩, 
   ⟨(some 75), none, .mv (.t 9)⟩, 
   ⟨(some 76), none, .bin .quo false (.t 74) (.t 75) (pu (.binOp .quo 3 (.tmp 74) (.tmp 75) 3) 3)⟩, 
   ⟨(some 77), none, .bin .sub false (.t 71) (.t 76) (pu (.binOp .sub 3 (.tmp 71) (.tmp 76) 3) 3)⟩, 
   ⟨(some 78), none, .bsl 1 1 false [(.sc (.int .i64 0))] [(0, 1, (.t 77))]⟩, 
   ⟨(some 79), none, .app 1 8 (.t 65) (.t 78)⟩, 
   ⟨(some 7), none, .mv (.t 79)⟩]))
   (.reg [⟨(some 63), none, .mv (.t 11)⟩, 
   ⟨(some 64), none, .bin .add false (.t 63) (.k (.sc (.int .i64 1))) (pu (.binOp .add 3 (.tmp 63) (.const (.int .i64 1)) 3) 3)⟩, 
   ⟨(some 11), none, .mv (.t 64)⟩])))))))))
  (.reg [⟨(some 35), none, .mv (.t 8)⟩, 
  ⟨(some 36), none, .bin .add false (.t 35) (.k (.sc (.int .i64 1))) (pu (.binOp .add 3 (.tmp 35) (.const (.int .i64 1)) 3) 3)⟩, 
  ⟨(some 8), none, .mv (.t 36)⟩]))))))
 (.seq (.reg [⟨(some 80), none, .mv (.t 7)⟩, 
 ⟨(some 4), none, .mv (.t 80)⟩, 
 ⟨(some 5), none, .mv (.k (.sc (.int .i64 0)))⟩])
 .ret))))))
def k16 : List Nat := [0, 1, 4, 5, 6, 7, 8, 9, 10, 11, 16, 30, 34, 62]
theorem ic16 : factsI Try.prog 16 = some (81, [.tmp 4, .tmp 5], c16) := by kernel_rfl

-- chargenet/usage.Uses (38 slots)
def c17 : IC :=
 (.seq (.reg [⟨(some 4), none, .mv (.k (.sc (.slice none 0 0)))⟩, 
 ⟨(some 5), none, .mv (.k (.sc (.int .i64 0)))⟩])
 (.seq (.reg [⟨(some 12), none, .mv (.t 0)⟩, 
 ⟨(some 13), none, .mv (.t 1)⟩, 
 ⟨(some 14), none, .call 15 [(.t 12), (.t 13)]⟩, 
 ⟨(some 11), none, .mv (.t 14)⟩, 
 ⟨(some 15), none, .ext (.t 11) 0⟩, 
 ⟨(some 16), none, .ext (.t 11) 1⟩, 
 ⟨(some 6), none, .mv (.t 15)⟩, 
 ⟨(some 7), none, .mv (.t 16)⟩])
 (.seq (.seq (.reg [⟨(some 17), none, .mv (.t 7)⟩, 
 ⟨(some 18), none, .bin .neq false (.t 17) (.k (.sc (.int .i64 0))) (pu (.binOp .neq 24 (.tmp 17) (.const (.int .i64 0)) 24) 4)⟩])
 (.cond (.t 18) (.seq (.reg [⟨(some 19), none, .mv (.t 7)⟩, 
  ⟨(some 4), none, .mv (.k (.sc (.slice none 0 0)))⟩, 
  ⟨(some 5), none, .mv (.t 19)⟩])
  .ret)
 .skip))
 (.seq (.reg [⟨(some 20), none, .mv (.t 6)⟩, 
 ⟨(some 21), none, .len (.t 20) (pu (.call ⟨.builtin .len, #[(.tmp 20)], #[30]⟩) 3)⟩, 
 ⟨(some 22), none, .mks 2 16 (.agg [(.sc (.int .i64 0)), (.sc (.bool false))]) (.k (.sc (.int .i64 0))) (.t 21)⟩, 
 ⟨(some 8), none, .mv (.t 22)⟩])
 (.seq (.seq (.reg [⟨(some 23), none, .mv (.t 6)⟩, 
 ⟨(some 24), none, .len (.t 23) (pu (.call ⟨.builtin .len, #[(.tmp 23)], #[30]⟩) 3)⟩, 
 ⟨(some 25), none, .mv (.k (.sc (.int .i64 0)))⟩])
 (.block 0 (.loop (.seq (.reg [⟨(some 26), none, .bin .lss false (.t 25) (.t 24) (pu (.binOp .lss 3 (.tmp 25) (.tmp 24) 3) 0)⟩])
  (.seq (.cond (.t 26) .skip
  (.exit 0))
  (.seq (.block 1 (.seq (.reg [⟨(some 27), none, .ixs 1 (.t 23) (.t 25)⟩, 
  ⟨(some 28), none, .ld none (.t 27)⟩, 
  ⟨(some 10), none, .mv (.t 28)⟩])
  (.reg [⟨(some 29), none, .mv (.t 8)⟩, 
  ⟨(some 30), none, .mv (.t 10)⟩, 
  ⟨(some 31), none, .mv (.t 10)⟩, 
  ⟨(some 32), none, .bin .eql false (.t 31) (.k (.sc (.int .i64 0))) (pu (.binOp .eql 3 (.tmp 31) (.const (.int .i64 0)) 3) 4)⟩, 
  ⟨(some 33), none, .bld [(.sc (.int .i64 0)), (.sc (.bool false))] [(0, 1, (.t 30)), (1, 1, (.t 32))]⟩, 
  ⟨(some 34), none, .bsl 2 1 true [(.sc (.int .i64 0)), (.sc (.bool false))] [(0, 2, (.t 33))]⟩, 
  ⟨(some 35), none, .app 2 16 (.t 29) (.t 34)⟩, 
  ⟨(some 8), none, .mv (.t 35)⟩])))
  (.reg [⟨(some 36), none, .bin .add false (.t 25) (.k (.sc (.int .i64 1))) (pu (.binOp .add 3 (.tmp 25) (.const (.int .i64 1)) 3) 3)⟩, 
  ⟨(some 25), none, .mv (.t 36)⟩])))))))
 (.seq (.reg [⟨(some 37), none, .mv (.t 8)⟩, 
 ⟨(some 4), none, .mv (.t 37)⟩, 
 ⟨(some 5), none, .mv (.k (.sc (.int .i64 0)))⟩])
 .ret))))))
def k17 : List Nat := [0, 1, 4, 5, 6, 7, 8, 10, 18, 23, 24, 25, 26]
theorem ic17 : factsI Try.prog 17 = some (38, [.tmp 4, .tmp 5], c17) := by kernel_rfl

-- chargenet/chargenetref20.Uses (39 slots)
def c18 : IC :=
 (.seq (.reg [⟨(some 4), none, .mv (.k (.sc (.slice none 0 0)))⟩, 
 ⟨(some 5), none, .mv (.k (.sc (.int .i64 0)))⟩])
 (.seq (.reg [⟨(some 11), none, .mv (.t 0)⟩, 
 ⟨(some 12), none, .mv (.t 1)⟩, 
 ⟨(some 13), none, .call 16 [(.t 11), (.t 12)]⟩, 
 ⟨(some 10), none, .mv (.t 13)⟩, 
 ⟨(some 14), none, .ext (.t 10) 0⟩, 
 ⟨(some 15), none, .ext (.t 10) 1⟩, 
 ⟨(some 6), none, .mv (.t 14)⟩, 
 ⟨(some 7), none, .mv (.t 15)⟩])
 (.seq (.seq (.reg [⟨(some 16), none, .mv (.t 7)⟩, 
 ⟨(some 17), none, .bin .neq false (.t 16) (.k (.sc (.int .i64 0))) (pu (.binOp .neq 24 (.tmp 16) (.const (.int .i64 0)) 24) 4)⟩])
 (.cond (.t 17) (.seq (.reg [⟨(some 18), none, .mv (.t 7)⟩, 
  ⟨(some 4), none, .mv (.k (.sc (.slice none 0 0)))⟩, 
  ⟨(some 5), none, .mv (.t 18)⟩])
  .ret)
 .skip))
 (.seq (.reg [⟨(some 8), none, .mv (.k (.sc (.slice none 0 0)))⟩])
 (.seq (.seq (.reg [⟨(some 9), none, .mv (.k (.sc (.int .i64 0)))⟩])
 (.block 0 (.loop (.seq (.seq (.reg [⟨(some 19), none, .mv (.t 9)⟩, 
  ⟨(some 20), none, .mv (.t 6)⟩, 
  ⟨(some 21), none, .len (.t 20) (pu (.call ⟨.builtin .len, #[(.tmp 20)], #[30]⟩) 3)⟩, 
  ⟨(some 22), none, .bin .lss false (.t 19) (.t 21) (pu (.binOp .lss 3 (.tmp 19) (.tmp 21) 3) 4)⟩])
  (.cond (.t 22) .skip
  (.exit 0)))
  (.seq (.block 1 (.drw [0, 0, 0, 6, 14, 0, 0, 96, 224, 480, 1022, 2046, 4095, 8191] [⟨(some 25), none, .mv (.t 8)⟩, 
  ⟨(some 26), none, .mv (.t 6)⟩, 
  ⟨(some 27), none, .mv (.t 9)⟩, 
  ⟨(some 28), none, .ixs 1 (.t 26) (.t 27)⟩, 
  ⟨(some 29), none, .ld none (.t 28)⟩, 
  ⟨(some 30), none, .mv (.t 6)⟩, 
  ⟨(some 31), none, .mv (.t 9)⟩, 
  ⟨(some 32), none, .ixs 1 (.t 30) (.t 31)⟩, 
  ⟨(some 33), none, .ld none (.t 32)⟩, 
  ⟨(some 34), none, .bin .eql false (.t 33) (.k (.sc (.int .i64 0))) (pu (.binOp .eql 3 (.tmp 33) (.const (.int .i64 0)) 3) 4)⟩, 
  ⟨(some 35), none, .bld [(.sc (.int .i64 0)), (.sc (.bool false))] [(0, 1, (.t 29)), (1, 1, (.t 34))]⟩, 
  ⟨(some 36), none, .bsl 2 1 true [(.sc (.int .i64 0)), (.sc (.bool false))] [(0, 2, (.t 35))]⟩, 
  ⟨(some 37), none, .app 2 16 (.t 25) (.t 36)⟩, 
  ⟨(some 8), none, .mv (.t 37)⟩]))
  (.reg [⟨(some 23), none, .mv (.t 9)⟩, 
  ⟨(some 24), none, .bin .add false (.t 23) (.k (.sc (.int .i64 1))) (pu (.binOp .add 3 (.tmp 23) (.const (.int .i64 1)) 3) 3)⟩, 
  ⟨(some 9), none, .mv (.t 24)⟩]))))))
 (.seq (.reg [⟨(some 38), none, .mv (.t 8)⟩, 
 ⟨(some 4), none, .mv (.t 38)⟩, 
 ⟨(some 5), none, .mv (.k (.sc (.int .i64 0)))⟩])
 .ret))))))
def k18 : List Nat := [0, 1, 4, 5, 6, 7, 8, 9, 17, 22]
theorem ic18 : factsI Try.prog 18 = some (39, [.tmp 4, .tmp 5], c18) := by kernel_rfl

-- chargenet/chargenetref20.SameInts (26 slots)
def c19 : IC :=
 (.seq (.reg [⟨(some 4), none, .mv (.k (.sc (.bool false)))⟩])
 (.seq (.seq (.reg [⟨(some 6), none, .mv (.t 0)⟩, 
 ⟨(some 7), none, .len (.t 6) (pu (.call ⟨.builtin .len, #[(.tmp 6)], #[30]⟩) 3)⟩, 
 ⟨(some 8), none, .mv (.t 1)⟩, 
 ⟨(some 9), none, .len (.t 8) (pu (.call ⟨.builtin .len, #[(.tmp 8)], #[30]⟩) 3)⟩, 
 ⟨(some 10), none, .bin .neq false (.t 7) (.t 9) (pu (.binOp .neq 3 (.tmp 7) (.tmp 9) 3) 4)⟩])
 (.cond (.t 10) (.seq (.reg [⟨(some 4), none, .mv (.k (.sc (.bool false)))⟩])
  .ret)
 .skip))
 (.seq (.seq (.reg [⟨(some 5), none, .mv (.k (.sc (.int .i64 0)))⟩])
 (.block 0 (.loop (.seq (.seq (.reg [⟨(some 11), none, .mv (.t 5)⟩, 
  ⟨(some 12), none, .mv (.t 0)⟩, 
  ⟨(some 13), none, .len (.t 12) (pu (.call ⟨.builtin .len, #[(.tmp 12)], #[30]⟩) 3)⟩, 
  ⟨(some 14), none, .bin .lss false (.t 11) (.t 13) (pu (.binOp .lss 3 (.tmp 11) (.tmp 13) 3) 4)⟩])
  (.cond (.t 14) .skip
  (.exit 0)))
  (.seq (.block 1 (.seq (.drw [0, 0, 3, 7, 0, 0, 48, 112, 255] [⟨(some 17), none, .mv (.t 0)⟩, 
  ⟨(some 18), none, .mv (.t 5)⟩, 
  ⟨(some 19), none, .ixs 1 (.t 17) (.t 18)⟩, 
  ⟨(some 20), none, .ld none (.t 19)⟩, 
  ⟨(some 21), none, .mv (.t 1)⟩, 
  ⟨(some 22), none, .mv (.t 5)⟩, 
  ⟨(some 23), none, .ixs 1 (.t 21) (.t 22)⟩, 
  ⟨(some 24), none, .ld none (.t 23)⟩, 
  ⟨(some 25), none, .bin .neq false (.t 20) (.t 24) (pu (.binOp .neq 3 (.tmp 20) (.tmp 24) 3) 4)⟩])
  (.cond (.t 25) (.seq (.reg [⟨(some 4), none, .mv (.k (.sc (.bool false)))⟩])
   .ret)
  .skip)))
  (.reg [⟨(some 15), none, .mv (.t 5)⟩, 
  ⟨(some 16), none, .bin .add false (.t 15) (.k (.sc (.int .i64 1))) (pu (.binOp .add 3 (.tmp 15) (.const (.int .i64 1)) 3) 3)⟩, 
  ⟨(some 5), none, .mv (.t 16)⟩]))))))
 (.seq (.reg [⟨(some 4), none, .mv (.k (.sc (.bool true)))⟩])
 .ret))))
def k19 : List Nat := [0, 1, 4, 5, 10, 14, 25]
theorem ic19 : factsI Try.prog 19 = some (26, [.tmp 4], c19) := by kernel_rfl

-- chargenet/chargenetref20.SameUses (26 slots)
def c20 : IC :=
 (.seq (.reg [⟨(some 4), none, .mv (.k (.sc (.bool false)))⟩])
 (.seq (.seq (.reg [⟨(some 6), none, .mv (.t 0)⟩, 
 ⟨(some 7), none, .len (.t 6) (pu (.call ⟨.builtin .len, #[(.tmp 6)], #[33]⟩) 3)⟩, 
 ⟨(some 8), none, .mv (.t 1)⟩, 
 ⟨(some 9), none, .len (.t 8) (pu (.call ⟨.builtin .len, #[(.tmp 8)], #[33]⟩) 3)⟩, 
 ⟨(some 10), none, .bin .neq false (.t 7) (.t 9) (pu (.binOp .neq 3 (.tmp 7) (.tmp 9) 3) 4)⟩])
 (.cond (.t 10) (.seq (.reg [⟨(some 4), none, .mv (.k (.sc (.bool false)))⟩])
  .ret)
 .skip))
 (.seq (.seq (.reg [⟨(some 5), none, .mv (.k (.sc (.int .i64 0)))⟩])
 (.block 0 (.loop (.seq (.seq (.reg [⟨(some 11), none, .mv (.t 5)⟩, 
  ⟨(some 12), none, .mv (.t 0)⟩, 
  ⟨(some 13), none, .len (.t 12) (pu (.call ⟨.builtin .len, #[(.tmp 12)], #[33]⟩) 3)⟩, 
  ⟨(some 14), none, .bin .lss false (.t 11) (.t 13) (pu (.binOp .lss 3 (.tmp 11) (.tmp 13) 3) 4)⟩])
  (.cond (.t 14) .skip
  (.exit 0)))
  (.seq (.block 1 (.seq (.drw [0, 0, 3, 7, 0, 0, 48, 112, 255] [⟨(some 17), none, .mv (.t 0)⟩, 
  ⟨(some 18), none, .mv (.t 5)⟩, 
  ⟨(some 19), none, .ixs 2 (.t 17) (.t 18)⟩, 
  ⟨(some 20), none, .ld (some 2) (.t 19)⟩, 
  ⟨(some 21), none, .mv (.t 1)⟩, 
  ⟨(some 22), none, .mv (.t 5)⟩, 
  ⟨(some 23), none, .ixs 2 (.t 21) (.t 22)⟩, 
  ⟨(some 24), none, .ld (some 2) (.t 23)⟩, 
  ⟨(some 25), none, .bin .neq false (.t 20) (.t 24) (pu (.binOp .neq 51 (.tmp 20) (.tmp 24) 51) 4)⟩])
  (.cond (.t 25) (.seq (.reg [⟨(some 4), none, .mv (.k (.sc (.bool false)))⟩])
   .ret)
  .skip)))
  (.reg [⟨(some 15), none, .mv (.t 5)⟩, 
  ⟨(some 16), none, .bin .add false (.t 15) (.k (.sc (.int .i64 1))) (pu (.binOp .add 3 (.tmp 15) (.const (.int .i64 1)) 3) 3)⟩, 
  ⟨(some 5), none, .mv (.t 16)⟩]))))))
 (.seq (.reg [⟨(some 4), none, .mv (.k (.sc (.bool true)))⟩])
 .ret))))
def k20 : List Nat := [0, 1, 4, 5, 10, 14, 25]
theorem ic20 : factsI Try.prog 20 = some (26, [.tmp 4], c20) := by kernel_rfl

-- chargenet/chargenetref20.Between (18 slots)
def c21 : IC :=
 (.seq (.reg [⟨(some 3), none, .bx (.t 0)⟩, 
 ⟨(some 4), none, .bx (.t 1)⟩, 
 ⟨(some 6), none, .mv (.k (.sc (.int .i64 0)))⟩])
 (.seq (.reg [⟨(some 7), none, .sh 1 (.t 4)⟩, 
 ⟨(some 8), none, .ld none (.t 7)⟩, 
 ⟨(some 9), none, .sh 1 (.t 3)⟩, 
 ⟨(some 10), none, .ld none (.t 9)⟩, 
 ⟨(some 11), none, .bin .sub false (.t 8) (.t 10) (pu (.binOp .sub 3 (.tmp 8) (.tmp 10) 3) 3)⟩, 
 ⟨(some 12), none, .mv (.t 2)⟩, 
 ⟨(some 13), none, .bin .rem false (.t 11) (.t 12) (pu (.binOp .rem 3 (.tmp 11) (.tmp 12) 3) 3)⟩, 
 ⟨(some 14), none, .mv (.t 2)⟩, 
 ⟨(some 15), none, .bin .add false (.t 13) (.t 14) (pu (.binOp .add 3 (.tmp 13) (.tmp 14) 3) 3)⟩, 
 ⟨(some 16), none, .mv (.t 2)⟩, 
 ⟨(some 17), none, .bin .rem false (.t 15) (.t 16) (pu (.binOp .rem 3 (.tmp 15) (.tmp 16) 3) 3)⟩, 
 ⟨(some 6), none, .mv (.t 17)⟩])
 .ret))
def k21 : List Nat := [0, 1, 2, 3, 4, 6]
theorem ic21 : factsI Try.prog 21 = some (18, [.tmp 6], c21) := by kernel_rfl

-- chargenet/chargenetref20.Ascending (22 slots)
def c22 : IC :=
 (.seq (.reg [⟨(some 2), none, .mv (.k (.sc (.bool false)))⟩])
 (.seq (.seq (.reg [⟨(some 3), none, .mv (.k (.sc (.int .i64 1)))⟩])
 (.block 0 (.loop (.seq (.seq (.reg [⟨(some 4), none, .mv (.t 3)⟩, 
  ⟨(some 5), none, .mv (.t 0)⟩, 
  ⟨(some 6), none, .len (.t 5) (pu (.call ⟨.builtin .len, #[(.tmp 5)], #[22]⟩) 3)⟩, 
  ⟨(some 7), none, .bin .lss false (.t 4) (.t 6) (pu (.binOp .lss 3 (.tmp 4) (.tmp 6) 3) 4)⟩])
  (.cond (.t 7) .skip
  (.exit 0)))
  (.seq (.block 1 (.seq (.drw [0, 0, 3, 7, 15, 0, 0, 64, 224, 480, 992, 2047] [⟨(some 10), none, .mv (.t 0)⟩, 
  ⟨(some 11), none, .mv (.t 3)⟩, 
  ⟨(some 12), none, .ixs 2 (.t 10) (.t 11)⟩, 
  ⟨(some 13), none, .sh 0 (.t 12)⟩, 
  ⟨(some 14), none, .ld none (.t 13)⟩, 
  ⟨(some 15), none, .mv (.t 0)⟩, 
  ⟨(some 16), none, .mv (.t 3)⟩, 
  ⟨(some 17), none, .bin .sub false (.t 16) (.k (.sc (.int .i64 1))) (pu (.binOp .sub 3 (.tmp 16) (.const (.int .i64 1)) 3) 3)⟩, 
  ⟨(some 18), none, .ixs 2 (.t 15) (.t 17)⟩, 
  ⟨(some 19), none, .sh 0 (.t 18)⟩, 
  ⟨(some 20), none, .ld none (.t 19)⟩, 
  ⟨(some 21), none, .bin .leq false (.t 14) (.t 20) (pu (.binOp .leq 3 (.tmp 14) (.tmp 20) 3) 4)⟩])
  (.cond (.t 21) (.seq (.reg [⟨(some 2), none, .mv (.k (.sc (.bool false)))⟩])
   .ret)
  .skip)))
  (.reg [⟨(some 8), none, .mv (.t 3)⟩, 
  ⟨(some 9), none, .bin .add false (.t 8) (.k (.sc (.int .i64 1))) (pu (.binOp .add 3 (.tmp 8) (.const (.int .i64 1)) 3) 3)⟩, 
  ⟨(some 3), none, .mv (.t 9)⟩]))))))
 (.seq (.reg [⟨(some 2), none, .mv (.k (.sc (.bool true)))⟩])
 .ret)))
def k22 : List Nat := [0, 2, 3, 7, 21]
theorem ic22 : factsI Try.prog 22 = some (22, [.tmp 2], c22) := by kernel_rfl

-- chargenet/usage.Merge (106 slots)
def c23 : IC :=
 (.seq (.reg [⟨(some 4), none, .mv (.k (.sc (.slice none 0 0)))⟩, 
 ⟨(some 5), none, .mv (.k (.sc (.int .i64 0)))⟩])
 (.seq (.seq (.reg [⟨(some 9), none, .mv (.t 0)⟩, 
 ⟨(some 10), none, .call 28 [(.t 9)]⟩, 
 ⟨(some 11), none, .un .not (.t 10) (pu (.unOp .not 4 (.tmp 10)) 4)⟩, 
 ⟨(some 12), none, .mv (.t 11)⟩, 
 ⟨(some 13), (some ((some 12), false)), .mv (.t 1)⟩, 
 ⟨(some 14), (some ((some 12), false)), .call 28 [(.t 13)]⟩, 
 ⟨(some 15), (some ((some 12), false)), .un .not (.t 14) (pu (.unOp .not 4 (.tmp 14)) 4)⟩, 
 ⟨(some 16), none, .pick (.t 12) (.k (.sc (.bool true))) (.t 15)⟩])
 (.cond (.t 16) (.seq (.reg [⟨(some 4), none, .mv (.k (.sc (.slice none 0 0)))⟩, 
  ⟨(some 5), none, .mv (.k (.sc (.int .i64 1)))⟩])
  .ret)
 .skip))
 (.seq (.reg [⟨(some 6), none, .mv (.k (.sc (.slice none 0 0)))⟩])
 (.seq (.reg [⟨(some 7), none, .mv (.k (.sc (.int .i64 0)))⟩, 
 ⟨(some 8), none, .mv (.k (.sc (.int .i64 0)))⟩])
 (.seq (.block 0 (.loop (.seq (.seq (.reg [⟨(some 17), none, .mv (.t 7)⟩, 
  ⟨(some 18), none, .mv (.t 0)⟩, 
  ⟨(some 19), none, .len (.t 18) (pu (.call ⟨.builtin .len, #[(.tmp 18)], #[22]⟩) 3)⟩, 
  ⟨(some 20), none, .bin .lss false (.t 17) (.t 19) (pu (.binOp .lss 3 (.tmp 17) (.tmp 19) 3) 4)⟩, 
  ⟨(some 21), none, .mv (.t 20)⟩, 
  ⟨(some 22), (some ((some 21), true)), .mv (.t 8)⟩, 
  ⟨(some 23), (some ((some 21), true)), .mv (.t 1)⟩, 
  ⟨(some 24), (some ((some 21), true)), .len (.t 23) (pu (.call ⟨.builtin .len, #[(.tmp 23)], #[22]⟩) 3)⟩, 
  ⟨(some 25), (some ((some 21), true)), .bin .lss false (.t 22) (.t 24) (pu (.binOp .lss 3 (.tmp 22) (.tmp 24) 3) 4)⟩, 
  ⟨(some 26), none, .pick (.t 21) (.t 25) (.k (.sc (.bool false)))⟩])
  (.cond (.t 26) .skip
  (.exit 0)))
  (.block 1 (.block 2 (.seq (.drw [0, 0, 3, 7, 15, 0, 0, 96, 224, 480, 1023, 2047] [⟨(some 39), none, .mv (.t 0)⟩, 
  ⟨(some 40), none, .mv (.t 7)⟩, 
  ⟨(some 41), none, .ixs 2 (.t 39) (.t 40)⟩, 
  ⟨(some 42), none, .sh 0 (.t 41)⟩, 
  ⟨(some 43), none, .ld none (.t 42)⟩, 
  ⟨(some 44), none, .mv (.t 1)⟩, 
  ⟨(some 45), none, .mv (.t 8)⟩, 
  ⟨(some 46), none, .ixs 2 (.t 44) (.t 45)⟩, 
  ⟨(some 47), none, .sh 0 (.t 46)⟩, 
  ⟨(some 48), none, .ld none (.t 47)⟩, 
  ⟨(some 49), none, .bin .lss false (.t 43) (.t 48) (pu (.binOp .lss 3 (.tmp 43) (.tmp 48) 3) 4)⟩, 
  ⟨(some 38), none, .mv (.t 49)⟩])
  (.cond (.t 38) (.seq (.reg [⟨(some 50), none, .mv (.t 6)⟩, 
   ⟨(some 51), none, .mv (.t 0)⟩, 
   ⟨(some 52), none, .mv (.t 7)⟩, 
   ⟨(some 53), none, .ixs 2 (.t 51) (.t 52)⟩, 
   ⟨(some 54), none, .ld (some 2) (.t 53)⟩, 
   ⟨(some 55), none, .bsl 2 1 true [(.sc (.int .i64 0)), (.sc (.int .i64 0))] [(0, 2, (.t 54))]⟩, 
   ⟨(some 56), none, .app 2 16 (.t 50) (.t 55)⟩, 
   ⟨(some 6), none, .mv (.t 56)⟩])
   (.reg [⟨(some 57), none, .mv (.t 7)⟩, 
   ⟨(some 58), none, .bin .add false (.t 57) (.k (.sc (.int .i64 1))) (pu (.binOp .add 3 (.tmp 57) (.const (.int .i64 1)) 3) 3)⟩, 
   ⟨(some 7), none, .mv (.t 58)⟩]))
  (.seq (.drw [0, 0, 3, 7, 15, 0, 0, 96, 224, 480, 1023, 2047] [⟨(some 60), none, .mv (.t 0)⟩, 
   ⟨(some 61), none, .mv (.t 7)⟩, 
   ⟨(some 62), none, .ixs 2 (.t 60) (.t 61)⟩, 
   ⟨(some 63), none, .sh 0 (.t 62)⟩, 
   ⟨(some 64), none, .ld none (.t 63)⟩, 
   ⟨(some 65), none, .mv (.t 1)⟩, 
   ⟨(some 66), none, .mv (.t 8)⟩, 
   ⟨(some 67), none, .ixs 2 (.t 65) (.t 66)⟩, 
   ⟨(some 68), none, .sh 0 (.t 67)⟩, 
   ⟨(some 69), none, .ld none (.t 68)⟩, 
   ⟨(some 70), none, .bin .gtr false (.t 64) (.t 69) (pu (.binOp .gtr 3 (.tmp 64) (.tmp 69) 3) 4)⟩, 
   ⟨(some 59), none, .mv (.t 70)⟩])
   (.cond (.t 59) (.seq (.reg [⟨(some 71), none, .mv (.t 6)⟩, 
    ⟨(some 72), none, .mv (.t 1)⟩, 
    ⟨(some 73), none, .mv (.t 8)⟩, 
    ⟨(some 74), none, .ixs 2 (.t 72) (.t 73)⟩, 
    ⟨(some 75), none, .ld (some 2) (.t 74)⟩, 
    ⟨(some 76), none, .bsl 2 1 true [(.sc (.int .i64 0)), (.sc (.int .i64 0))] [(0, 2, (.t 75))]⟩, 
    ⟨(some 77), none, .app 2 16 (.t 71) (.t 76)⟩, 
    ⟨(some 6), none, .mv (.t 77)⟩])
    (.reg [⟨(some 78), none, .mv (.t 8)⟩, 
    ⟨(some 79), none, .bin .add false (.t 78) (.k (.sc (.int .i64 1))) (pu (.binOp .add 3 (.tmp 78) (.const (.int .i64 1)) 3) 3)⟩, 
    ⟨(some 8), none, .mv (.t 79)⟩]))
   (.seq (.drw [0, 0, 3, 7, 15, 0, 0, 96, 224, 480, 1023, 2047] [⟨(some 81), none, .mv (.t 0)⟩, 
    ⟨(some 82), none, .mv (.t 7)⟩, 
    ⟨(some 83), none, .ixs 2 (.t 81) (.t 82)⟩, 
    ⟨(some 84), none, .sh 1 (.t 83)⟩, 
    ⟨(some 85), none, .ld none (.t 84)⟩, 
    ⟨(some 86), none, .mv (.t 1)⟩, 
    ⟨(some 87), none, .mv (.t 8)⟩, 
    ⟨(some 88), none, .ixs 2 (.t 86) (.t 87)⟩, 
    ⟨(some 89), none, .sh 1 (.t 88)⟩, 
    ⟨(some 90), none, .ld none (.t 89)⟩, 
    ⟨(some 91), none, .bin .neq false (.t 85) (.t 90) (pu (.binOp .neq 3 (.tmp 85) (.tmp 90) 3) 4)⟩, 
    ⟨(some 80), none, .mv (.t 91)⟩])
    (.cond (.t 80) (.seq (.reg [⟨(some 4), none, .mv (.k (.sc (.slice none 0 0)))⟩, 
     ⟨(some 5), none, .mv (.k (.sc (.int .i64 23)))⟩])
     .ret)
    (.seq (.reg [⟨(some 27), none, .mv (.t 6)⟩, 
     ⟨(some 28), none, .mv (.t 0)⟩, 
     ⟨(some 29), none, .mv (.t 7)⟩, 
     ⟨(some 30), none, .ixs 2 (.t 28) (.t 29)⟩, 
     ⟨(some 31), none, .ld (some 2) (.t 30)⟩, 
     ⟨(some 32), none, .bsl 2 1 true [(.sc (.int .i64 0)), (.sc (.int .i64 0))] [(0, 2, (.t 31))]⟩, 
     ⟨(some 33), none, .app 2 16 (.t 27) (.t 32)⟩, 
     ⟨(some 6), none, .mv (.t 33)⟩])
     (.seq (.reg [⟨(some 34), none, .mv (.t 7)⟩, 
     ⟨(some 35), none, .bin .add false (.t 34) (.k (.sc (.int .i64 1))) (pu (.binOp .add 3 (.tmp 34) (.const (.int .i64 1)) 3) 3)⟩, 
     ⟨(some 7), none, .mv (.t 35)⟩])
     (.reg [⟨(some 36), none, .mv (.t 8)⟩, 
     ⟨(some 37), none, .bin .add false (.t 36) (.k (.sc (.int .i64 1))) (pu (.binOp .add 3 (.tmp 36) (.const (.int .i64 1)) 3) 3)⟩, 
     ⟨(some 8), none, .mv (.t 37)⟩]))))))))))))))
 (.seq (.reg [⟨(some 92), none, .mv (.t 6)⟩, 
 ⟨(some 93), none, .mv (.t 0)⟩, 
 ⟨(some 94), none, .mv (.t 7)⟩, 
 ⟨(some 95), none, .sl 2 (.t 93) (some (.t 94)) none none (pu (.slice 22 (.tmp 93) (some (.tmp 94)) none none) 22)⟩, 
 ⟨(some 96), none, .app 2 16 (.t 92) (.t 95)⟩, 
 ⟨(some 6), none, .mv (.t 96)⟩])
 (.seq (.reg [⟨(some 97), none, .mv (.t 6)⟩, 
 ⟨(some 98), none, .mv (.t 1)⟩, 
 ⟨(some 99), none, .mv (.t 8)⟩, 
 ⟨(some 100), none, .sl 2 (.t 98) (some (.t 99)) none none (pu (.slice 22 (.tmp 98) (some (.tmp 99)) none none) 22)⟩, 
 ⟨(some 101), none, .app 2 16 (.t 97) (.t 100)⟩, 
 ⟨(some 6), none, .mv (.t 101)⟩])
 (.seq (.seq (.reg [⟨(some 102), none, .mv (.t 6)⟩, 
 ⟨(some 103), none, .len (.t 102) (pu (.call ⟨.builtin .len, #[(.tmp 102)], #[22]⟩) 3)⟩, 
 ⟨(some 104), none, .bin .gtr false (.t 103) (.k (.sc (.int .i64 1024))) (pu (.binOp .gtr 3 (.tmp 103) (.const (.int .i64 1024)) 3) 4)⟩])
 (.cond (.t 104) (.seq (.reg [⟨(some 4), none, .mv (.k (.sc (.slice none 0 0)))⟩, 
  ⟨(some 5), none, .mv (.k (.sc (.int .i64 3)))⟩])
  .ret)
 .skip))
 (.seq (.reg [⟨(some 105), none, .mv (.t 6)⟩, 
 ⟨(some 4), none, .mv (.t 105)⟩, 
 ⟨(some 5), none, .mv (.k (.sc (.int .i64 0)))⟩])
 .ret)))))))))
def k23 : List Nat := [0, 1, 4, 5, 6, 7, 8, 16, 26, 38, 59, 80, 104]
theorem ic23 : factsI Try.prog 23 = some (106, [.tmp 4, .tmp 5], c23) := by kernel_rfl

-- chargenet/chargenetref20.Same (26 slots)
def c24 : IC :=
 (.seq (.reg [⟨(some 4), none, .mv (.k (.sc (.bool false)))⟩])
 (.seq (.seq (.reg [⟨(some 6), none, .mv (.t 0)⟩, 
 ⟨(some 7), none, .len (.t 6) (pu (.call ⟨.builtin .len, #[(.tmp 6)], #[22]⟩) 3)⟩, 
 ⟨(some 8), none, .mv (.t 1)⟩, 
 ⟨(some 9), none, .len (.t 8) (pu (.call ⟨.builtin .len, #[(.tmp 8)], #[22]⟩) 3)⟩, 
 ⟨(some 10), none, .bin .neq false (.t 7) (.t 9) (pu (.binOp .neq 3 (.tmp 7) (.tmp 9) 3) 4)⟩])
 (.cond (.t 10) (.seq (.reg [⟨(some 4), none, .mv (.k (.sc (.bool false)))⟩])
  .ret)
 .skip))
 (.seq (.seq (.reg [⟨(some 5), none, .mv (.k (.sc (.int .i64 0)))⟩])
 (.block 0 (.loop (.seq (.seq (.reg [⟨(some 11), none, .mv (.t 5)⟩, 
  ⟨(some 12), none, .mv (.t 0)⟩, 
  ⟨(some 13), none, .len (.t 12) (pu (.call ⟨.builtin .len, #[(.tmp 12)], #[22]⟩) 3)⟩, 
  ⟨(some 14), none, .bin .lss false (.t 11) (.t 13) (pu (.binOp .lss 3 (.tmp 11) (.tmp 13) 3) 4)⟩])
  (.cond (.t 14) .skip
  (.exit 0)))
  (.seq (.block 1 (.seq (.drw [0, 0, 3, 7, 0, 0, 48, 112, 255] [⟨(some 17), none, .mv (.t 0)⟩, 
  ⟨(some 18), none, .mv (.t 5)⟩, 
  ⟨(some 19), none, .ixs 2 (.t 17) (.t 18)⟩, 
  ⟨(some 20), none, .ld (some 2) (.t 19)⟩, 
  ⟨(some 21), none, .mv (.t 1)⟩, 
  ⟨(some 22), none, .mv (.t 5)⟩, 
  ⟨(some 23), none, .ixs 2 (.t 21) (.t 22)⟩, 
  ⟨(some 24), none, .ld (some 2) (.t 23)⟩, 
  ⟨(some 25), none, .bin .neq false (.t 20) (.t 24) (pu (.binOp .neq 39 (.tmp 20) (.tmp 24) 39) 4)⟩])
  (.cond (.t 25) (.seq (.reg [⟨(some 4), none, .mv (.k (.sc (.bool false)))⟩])
   .ret)
  .skip)))
  (.reg [⟨(some 15), none, .mv (.t 5)⟩, 
  ⟨(some 16), none, .bin .add false (.t 15) (.k (.sc (.int .i64 1))) (pu (.binOp .add 3 (.tmp 15) (.const (.int .i64 1)) 3) 3)⟩, 
  ⟨(some 5), none, .mv (.t 16)⟩]))))))
 (.seq (.reg [⟨(some 4), none, .mv (.k (.sc (.bool true)))⟩])
 .ret))))
def k24 : List Nat := [0, 1, 4, 5, 10, 14, 25]
theorem ic24 : factsI Try.prog 24 = some (26, [.tmp 4], c24) := by kernel_rfl

-- chargenet/chargenetlaw20.example (4 slots)
def c25 : IC :=
 (.seq (.reg [⟨(some 0), none, .mv (.k (.sc (.slice none 0 0)))⟩])
 (.seq (.reg [⟨(some 1), none, .bld [(.sc (.int .i64 0)), (.sc (.int .i64 0))] [(0, 1, (.k (.sc (.int .i64 10)))), (1, 1, (.k (.sc (.int .i64 99990))))]⟩, 
 ⟨(some 2), none, .bld [(.sc (.int .i64 0)), (.sc (.int .i64 0))] [(0, 1, (.k (.sc (.int .i64 14)))), (1, 1, (.k (.sc (.int .i64 15))))]⟩, 
 ⟨(some 3), none, .bsl 2 2 true [(.sc (.int .i64 0)), (.sc (.int .i64 0)), (.sc (.int .i64 0)), (.sc (.int .i64 0))] [(0, 2, (.t 1)), (2, 2, (.t 2))]⟩, 
 ⟨(some 0), none, .mv (.t 3)⟩])
 .ret))
def k25 : List Nat := [0]
theorem ic25 : factsI Try.prog 25 = some (4, [.tmp 0], c25) := by kernel_rfl

-- chargenet/usage.neighbours (4 slots)
def c26 : IC :=
 (.seq (.reg [⟨(some 1), none, .bx (.t 0)⟩, 
 ⟨(some 2), none, .mv (.k (.sc .nilFunc))⟩])
 (.seq (.reg [⟨(some 3), none, .mkf (.func 29) [] [(.t 1)]⟩, 
 ⟨(some 2), none, .mv (.t 3)⟩])
 .ret))
def k26 : List Nat := [0, 1, 2]
theorem ic26 : factsI Try.prog 26 = some (4, [.tmp 2], c26) := by kernel_rfl

-- chargenet/meter.Delta (37 slots)
def c27 : IC :=
 (.seq (.reg [⟨(some 6), none, .mv (.k (.sc (.int .i64 0)))⟩, 
 ⟨(some 7), none, .mv (.k (.sc (.int .i64 0)))⟩])
 (.seq (.seq (.reg [⟨(some 8), none, .mv (.t 2)⟩, 
 ⟨(some 9), none, .bin .lss false (.t 8) (.k (.sc (.int .i64 1000))) (pu (.binOp .lss 3 (.tmp 8) (.const (.int .i64 1000)) 3) 4)⟩, 
 ⟨(some 10), none, .mv (.t 9)⟩, 
 ⟨(some 11), (some ((some 10), false)), .mv (.t 2)⟩, 
 ⟨(some 12), (some ((some 10), false)), .bin .gtr false (.t 11) (.k (.sc (.int .i64 1099511627776))) (pu (.binOp .gtr 3 (.tmp 11) (.const (.int .i64 1099511627776)) 3) 4)⟩, 
 ⟨(some 13), none, .pick (.t 10) (.k (.sc (.bool true))) (.t 12)⟩])
 (.cond (.t 13) (.seq (.reg [⟨(some 6), none, .mv (.k (.sc (.int .i64 0)))⟩, 
  ⟨(some 7), none, .mv (.k (.sc (.int .i64 1)))⟩])
  .ret)
 .skip))
 (.seq (.seq (.reg [⟨(some 14), none, .mv (.t 0)⟩, 
 ⟨(some 15), none, .bin .lss false (.t 14) (.k (.sc (.int .i64 0))) (pu (.binOp .lss 3 (.tmp 14) (.const (.int .i64 0)) 3) 4)⟩, 
 ⟨(some 16), none, .mv (.t 15)⟩, 
 ⟨(some 17), (some ((some 16), false)), .mv (.t 0)⟩, 
 ⟨(some 18), (some ((some 16), false)), .mv (.t 2)⟩, 
 ⟨(some 19), (some ((some 16), false)), .bin .geq false (.t 17) (.t 18) (pu (.binOp .geq 3 (.tmp 17) (.tmp 18) 3) 4)⟩, 
 ⟨(some 20), none, .pick (.t 16) (.k (.sc (.bool true))) (.t 19)⟩, 
 ⟨(some 21), none, .mv (.t 20)⟩, 
 ⟨(some 22), (some ((some 21), false)), .mv (.t 1)⟩, 
 ⟨(some 23), (some ((some 21), false)), .bin .lss false (.t 22) (.k (.sc (.int .i64 0))) (pu (.binOp .lss 3 (.tmp 22) (.const (.int .i64 0)) 3) 4)⟩, 
 ⟨(some 24), none, .pick (.t 21) (.k (.sc (.bool true))) (.t 23)⟩, 
 ⟨(some 25), none, .mv (.t 24)⟩, 
 ⟨(some 26), (some ((some 25), false)), .mv (.t 1)⟩, 
 ⟨(some 27), (some ((some 25), false)), .mv (.t 2)⟩, 
 ⟨(some 28), (some ((some 25), false)), .bin .geq false (.t 26) (.t 27) (pu (.binOp .geq 3 (.tmp 26) (.tmp 27) 3) 4)⟩, 
 ⟨(some 29), none, .pick (.t 25) (.k (.sc (.bool true))) (.t 28)⟩])
 (.cond (.t 29) (.seq (.reg [⟨(some 6), none, .mv (.k (.sc (.int .i64 0)))⟩, 
  ⟨(some 7), none, .mv (.k (.sc (.int .i64 2)))⟩])
  .ret)
 .skip))
 (.seq (.reg [⟨(some 30), none, .mv (.t 1)⟩, 
 ⟨(some 31), none, .mv (.t 0)⟩, 
 ⟨(some 32), none, .bin .sub false (.t 30) (.t 31) (pu (.binOp .sub 3 (.tmp 30) (.tmp 31) 3) 3)⟩, 
 ⟨(some 33), none, .mv (.t 2)⟩, 
 ⟨(some 34), none, .bin .add false (.t 32) (.t 33) (pu (.binOp .add 3 (.tmp 32) (.tmp 33) 3) 3)⟩, 
 ⟨(some 35), none, .mv (.t 2)⟩, 
 ⟨(some 36), none, .bin .rem false (.t 34) (.t 35) (pu (.binOp .rem 3 (.tmp 34) (.tmp 35) 3) 3)⟩, 
 ⟨(some 6), none, .mv (.t 36)⟩, 
 ⟨(some 7), none, .mv (.k (.sc (.int .i64 0)))⟩])
 .ret))))
def k27 : List Nat := [0, 1, 2, 6, 7, 13, 29]
theorem ic27 : factsI Try.prog 27 = some (37, [.tmp 6, .tmp 7], c27) := by kernel_rfl

-- chargenet/usage.ascending (14 slots)
def c28 : IC :=
 (.seq (.reg [⟨(some 2), none, .al (.sc (.bool false)) 1⟩])
 (.seq (.seq (.reg [⟨(some 5), none, .mv (.t 0)⟩, 
 ⟨(some 6), none, .call 26 [(.t 5)]⟩])
 (.block 0 (.rfn (.t 6) [7, 8] (.seq (.reg [⟨(some 3), none, .al (.agg [(.sc (.int .i64 0)), (.sc (.int .i64 0))]) 2⟩, 
  ⟨none, none, .st 2 (.t 3) (.t 7)⟩])
  (.reg [⟨(some 4), none, .al (.agg [(.sc (.int .i64 0)), (.sc (.int .i64 0))]) 2⟩, 
  ⟨none, none, .st 2 (.t 4) (.t 8)⟩]))
 (.block 1 (.seq (.reg [⟨(some 9), none, .sh 0 (.t 4)⟩, 
  ⟨(some 10), none, .ld none (.t 9)⟩, 
  ⟨(some 11), none, .sh 0 (.t 3)⟩, 
  ⟨(some 12), none, .ld none (.t 11)⟩, 
  ⟨(some 13), none, .bin .leq false (.t 10) (.t 12) (pu (.binOp .leq 3 (.tmp 10) (.tmp 12) 3) 4)⟩])
  (.cond (.t 13) (.seq (.reg [⟨none, none, .st 1 (.t 2) (.k (.sc (.bool false)))⟩])
   .ret)
  .skip))))))
 (.seq (.reg [⟨none, none, .st 1 (.t 2) (.k (.sc (.bool true)))⟩])
 .ret)))
def k28 : List Nat := [0, 2, 3, 4, 6, 7, 8, 13]
theorem ic28 : factsI Try.prog 28 = some (14, [.cell 2 4], c28) := by kernel_rfl

-- chargenet/usage.neighbours$1 (22 slots)
def c29 : IC :=
 (.seq (.reg [⟨(some 3), none, .mv (.k (.sc (.int .i64 1)))⟩])
 (.block 0 (.loop (.seq (.seq (.reg [⟨(some 4), none, .mv (.t 3)⟩, 
  ⟨(some 5), none, .ld none (.t 1)⟩, 
  ⟨(some 6), none, .len (.t 5) (pu (.call ⟨.builtin .len, #[(.tmp 5)], #[22]⟩) 3)⟩, 
  ⟨(some 7), none, .bin .lss false (.t 4) (.t 6) (pu (.binOp .lss 3 (.tmp 4) (.tmp 6) 3) 4)⟩])
  (.cond (.t 7) .skip
  (.exit 0)))
  (.seq (.block 1 (.seq (.drw [0, 0, 0, 4, 14, 30, 0, 0, 192, 448, 1023, 2047] [⟨(some 10), none, .mv (.t 0)⟩, 
  ⟨(some 11), none, .ld none (.t 1)⟩, 
  ⟨(some 12), none, .mv (.t 3)⟩, 
  ⟨(some 13), none, .bin .sub false (.t 12) (.k (.sc (.int .i64 1))) (pu (.binOp .sub 3 (.tmp 12) (.const (.int .i64 1)) 3) 3)⟩, 
  ⟨(some 14), none, .ixs 2 (.t 11) (.t 13)⟩, 
  ⟨(some 15), none, .ld (some 2) (.t 14)⟩, 
  ⟨(some 16), none, .ld none (.t 1)⟩, 
  ⟨(some 17), none, .mv (.t 3)⟩, 
  ⟨(some 18), none, .ixs 2 (.t 16) (.t 17)⟩, 
  ⟨(some 19), none, .ld (some 2) (.t 18)⟩, 
  ⟨(some 20), none, .callv (.t 10) [(.t 15), (.t 19)]⟩, 
  ⟨(some 21), none, .un .not (.t 20) (pu (.unOp .not 4 (.tmp 20)) 4)⟩])
  (.cond (.t 21) .ret
  .skip)))
  (.reg [⟨(some 8), none, .mv (.t 3)⟩, 
  ⟨(some 9), none, .bin .add false (.t 8) (.k (.sc (.int .i64 1))) (pu (.binOp .add 3 (.tmp 8) (.const (.int .i64 1)) 3) 3)⟩, 
  ⟨(some 3), none, .mv (.t 9)⟩]))))))
def k29 : List Nat := [0, 1, 3, 7, 21]
theorem ic29 : factsI Try.prog 29 = some (22, [], c29) := by kernel_rfl

end Go.Proofs.Ytdidgmhkgcblhaa
