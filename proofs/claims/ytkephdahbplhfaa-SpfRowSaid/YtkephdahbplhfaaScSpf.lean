import Derived.Test.YtkephdahbplhfaaProg
import Derived.Test.YtkephdahbplhfaaAbsG
set_option maxRecDepth 100000
namespace Go.Proofs.Ytkephdahbplhfaa
open Go Abs

/- loop of waymark/spf.From, wants [1, 3, 7, 9, 10, 64, 65, 66] [] -/
def sc_spf_From_L0 : SCode :=
 (.seq (.reg [1, 3, 7, 9, 10, 64, 65, 66] [⟨(some 67), none, .bin .lss 3 (.tmp 66) (.tmp 65)⟩])
 (.seq (.cond (.tmp 67) .skip (.exit 4))
 (.seq (.block 5 (.seq (.reg [1, 3, 7, 9, 10, 64, 65, 66] [⟨(some 68), none, .ia none 1 (.tmp 64) (.tmp 66)⟩, ⟨(some 69), none, .load 1 false (.tmp 68)⟩, ⟨(some 14), none, .mv (.tmp 69)⟩])
 (.seq (.reg [1, 3, 7, 9, 10, 14, 64, 65, 66] [⟨(some 71), none, .load 2 true (.tmp 3)⟩, ⟨(some 72), none, .mv (.tmp 14)⟩, ⟨(some 73), none, .call 22 [(.tmp 71), (.tmp 72)]⟩, ⟨(some 70), none, .mv (.tmp 73)⟩, ⟨(some 74), none, .ext (.tmp 70) 0⟩, ⟨(some 75), none, .ext (.tmp 70) 1⟩, ⟨(some 76), none, .ext (.tmp 70) 2⟩, ⟨(some 15), none, .mv (.tmp 74)⟩, ⟨(some 16), none, .mv (.tmp 75)⟩, ⟨(some 17), none, .mv (.tmp 76)⟩])
 (.seq (.reg [1, 3, 7, 9, 10, 14, 16, 64, 65, 66] [⟨(some 77), none, .mv (.tmp 1)⟩, ⟨(some 78), none, .mv (.tmp 14)⟩, ⟨(some 79), none, .call 76 [(.tmp 77), (.tmp 78)]⟩, ⟨(some 80), none, .mv (.tmp 79)⟩, ⟨(some 81), (some (80, true)), .mv (.tmp 7)⟩, ⟨(some 82), (some (80, true)), .mv (.tmp 16)⟩, ⟨(some 83), (some (80, true)), .ia none 1 (.tmp 81) (.tmp 82)⟩, ⟨(some 84), (some (80, true)), .load 1 false (.tmp 83)⟩, ⟨(some 85), (some (80, true)), .bin .eql 3 (.tmp 84) (.const (.int .i64 (-1)))⟩, ⟨(some 86), none, .pick (.tmp 80) (.tmp 85) (.const (.bool false))⟩])
 (.cond (.tmp 86) (.reg [1, 3, 7, 9, 10, 14, 16, 64, 65, 66] [⟨(some 87), none, .mv (.tmp 9)⟩, ⟨(some 88), none, .mv (.tmp 10)⟩, ⟨(some 89), none, .fld 1 (.tmp 3)⟩, ⟨(some 90), none, .load 1 false (.tmp 89)⟩, ⟨(some 91), none, .mv (.tmp 14)⟩, ⟨(some 92), none, .bin .quo 3 (.tmp 91) (.const (.int .i64 2))⟩, ⟨(some 93), none, .ia none 4 (.tmp 90) (.tmp 92)⟩, ⟨(some 94), none, .fld 2 (.tmp 93)⟩, ⟨(some 95), none, .load 1 false (.tmp 94)⟩, ⟨(some 96), none, .bin .add 3 (.tmp 88) (.tmp 95)⟩, ⟨(some 97), none, .mv (.tmp 16)⟩, ⟨(some 98), none, .call 74 [(.tmp 87), (.tmp 96), (.tmp 97)]⟩]) .skip)))))
 (.reg [1, 3, 7, 9, 10, 64, 65, 66] [⟨(some 99), none, .bin .add 3 (.tmp 66) (.const (.int .i64 1))⟩, ⟨(some 66), none, .mv (.tmp 99)⟩]))))
/- loop of waymark/spf.From, wants [1, 3, 7, 9] [] -/
def sc_spf_From_L1 : SCode :=
 (.block 3 (.seq (.reg [1, 3, 7, 9] [⟨(some 45), none, .mv (.tmp 9)⟩, ⟨(some 46), none, .call 75 [(.tmp 45)]⟩, ⟨(some 44), none, .mv (.tmp 46)⟩, ⟨(some 47), none, .ext (.tmp 44) 0⟩, ⟨(some 48), none, .ext (.tmp 44) 1⟩, ⟨(some 49), none, .ext (.tmp 44) 2⟩, ⟨(some 10), none, .mv (.tmp 47)⟩, ⟨(some 11), none, .mv (.tmp 48)⟩, ⟨(some 12), none, .mv (.tmp 49)⟩])
 (.seq (.seq (.reg [1, 3, 7, 9, 10, 11, 12] [⟨(some 50), none, .mv (.tmp 12)⟩, ⟨(some 51), none, .un .not (.tmp 50)⟩])
 (.cond (.tmp 51) (.seq (.reg [7] [⟨(some 52), none, .mv (.tmp 7)⟩, ⟨(some 6), none, .mv (.tmp 52)⟩])
 .ret) .skip))
 (.seq (.seq (.reg [1, 3, 7, 9, 10, 11] [⟨(some 53), none, .mv (.tmp 7)⟩, ⟨(some 54), none, .mv (.tmp 11)⟩, ⟨(some 55), none, .ia none 1 (.tmp 53) (.tmp 54)⟩, ⟨(some 56), none, .load 1 false (.tmp 55)⟩, ⟨(some 57), none, .bin .neq 3 (.tmp 56) (.const (.int .i64 (-1)))⟩])
 (.cond (.tmp 57) (.exit 3) .skip))
 (.seq (.reg [1, 3, 7, 9, 10, 11] [⟨(some 58), none, .mv (.tmp 7)⟩, ⟨(some 59), none, .mv (.tmp 11)⟩, ⟨(some 60), none, .mv (.tmp 10)⟩, ⟨(some 61), none, .ia none 1 (.tmp 58) (.tmp 59)⟩, ⟨none, none, .store 1 (.tmp 61) (.tmp 60)⟩])
 (.seq (.reg [1, 3, 7, 9, 10, 11] [⟨(some 62), none, .load 2 true (.tmp 3)⟩, ⟨(some 63), none, .mv (.tmp 11)⟩, ⟨(some 64), none, .call 26 [(.tmp 62), (.tmp 63)]⟩, ⟨(some 65), none, .len false (.tmp 64)⟩, ⟨(some 66), none, .mv (.const (.int .i64 0))⟩])
 (.block 4 (.loop [1, 3, 7, 9, 10, 64, 65, 66] [] sc_spf_From_L0))))))))
/- loop of waymark/spf.From, wants [1, 2, 3, 7, 31, 32] [] -/
def sc_spf_From_L2 : SCode :=
 (.seq (.reg [1, 2, 3, 7, 31, 32] [⟨(some 33), none, .bin .lss 3 (.tmp 32) (.tmp 31)⟩])
 (.seq (.cond (.tmp 33) .skip (.exit 0))
 (.seq (.block 1 (.seq (.reg [1, 2, 3, 7, 31, 32] [⟨(some 34), none, .mv (.tmp 32)⟩, ⟨(some 8), none, .mv (.tmp 34)⟩])
 (.reg [1, 2, 3, 7, 8, 31, 32] [⟨(some 35), none, .mv (.tmp 7)⟩, ⟨(some 36), none, .mv (.tmp 8)⟩, ⟨(some 37), none, .ia none 1 (.tmp 35) (.tmp 36)⟩, ⟨none, none, .store 1 (.tmp 37) (.const (.int .i64 (-1)))⟩])))
 (.reg [1, 2, 3, 7, 31, 32] [⟨(some 38), none, .bin .add 3 (.tmp 32) (.const (.int .i64 1))⟩, ⟨(some 32), none, .mv (.tmp 38)⟩]))))
/- 43 waymark/spf.From: slots 0 g, 1 down, 2 node, 3 g, 4 down, 5 node, 7 out, 8 i, 9 h, 10 far, 11 at, 12 ok, 13 _, 14 edge, 15 _, 16 to, 17 _ -/
def sc_spf_From : SCode :=
 (.seq (.reg [0, 1, 2] [⟨(some 3), none, .box 24 (.tmp 0)⟩, ⟨(some 6), none, .mv (.const (.slice none 0 0))⟩])
 (.seq (.seq (.reg [1, 2, 3] [⟨(some 18), none, .load 2 true (.tmp 3)⟩, ⟨(some 19), none, .call 73 [(.tmp 18)]⟩, ⟨(some 20), none, .un .not (.tmp 19)⟩, ⟨(some 21), none, .mv (.tmp 20)⟩, ⟨(some 22), (some (21, false)), .load 2 true (.tmp 3)⟩, ⟨(some 23), (some (21, false)), .mv (.tmp 2)⟩, ⟨(some 24), (some (21, false)), .call 66 [(.tmp 22), (.tmp 23)]⟩, ⟨(some 25), (some (21, false)), .un .not (.tmp 24)⟩, ⟨(some 26), none, .pick (.tmp 21) (.const (.bool true)) (.tmp 25)⟩])
 (.cond (.tmp 26) (.seq (.reg [] [⟨(some 6), none, .mv (.const (.slice none 0 0))⟩])
 .ret) .skip))
 (.seq (.reg [1, 2, 3] [⟨(some 27), none, .fld 0 (.tmp 3)⟩, ⟨(some 28), none, .load 1 false (.tmp 27)⟩, ⟨(some 29), none, .mksl 3 1 8 [(.int .i64 0)] (.tmp 28) (.tmp 28)⟩, ⟨(some 7), none, .mv (.tmp 29)⟩])
 (.seq (.seq (.reg [1, 2, 3, 7] [⟨(some 30), none, .mv (.tmp 7)⟩, ⟨(some 31), none, .len false (.tmp 30)⟩, ⟨(some 32), none, .mv (.const (.int .i64 0))⟩])
 (.block 0 (.loop [1, 2, 3, 7, 31, 32] [] sc_spf_From_L2)))
 (.seq (.reg [1, 2, 3, 7] [⟨(some 39), none, .build [(.slice none 0 0)] []⟩, ⟨(some 40), none, .hp (.box 90 (.tmp 39))⟩, ⟨(some 9), none, .mv (.tmp 40)⟩])
 (.seq (.reg [1, 2, 3, 7, 9] [⟨(some 41), none, .mv (.tmp 9)⟩, ⟨(some 42), none, .mv (.tmp 2)⟩, ⟨(some 43), none, .call 74 [(.tmp 41), (.const (.int .i64 0)), (.tmp 42)]⟩])
 (.block 2 (.loop [1, 3, 7, 9] [] sc_spf_From_L1))))))))
theorem fn_spf_From : FnOk Try.prog 43 Try.f43 sc_spf_From [.tmp 6] 3 := ⟨Try.func43, by kernel_rfl, by kernel_rfl, by kernel_rfl, by kernel_rfl, by kernel_rfl, by kernel_rfl⟩

/- 45 waymark/spf.To: slots 0 g, 1 down, 2 node, 3 g, 4 down, 5 node -/
def sc_spf_To : SCode :=
 (.seq (.reg [0, 1, 2] [⟨(some 3), none, .box 24 (.tmp 0)⟩, ⟨(some 6), none, .mv (.const (.slice none 0 0))⟩])
 (.seq (.reg [1, 2, 3] [⟨(some 7), none, .load 2 true (.tmp 3)⟩, ⟨(some 8), none, .mv (.tmp 1)⟩, ⟨(some 9), none, .mv (.tmp 2)⟩, ⟨(some 10), none, .call 43 [(.tmp 7), (.tmp 8), (.tmp 9)]⟩, ⟨(some 6), none, .mv (.tmp 10)⟩])
 .ret))
theorem fn_spf_To : FnOk Try.prog 45 Try.f45 sc_spf_To [.tmp 6] 3 := ⟨Try.func45, by kernel_rfl, by kernel_rfl, by kernel_rfl, by kernel_rfl, by kernel_rfl, by kernel_rfl⟩

/- loop of waymark/spf.Next, wants [1, 2, 3, 4, 9, 40, 41, 42] [(9, 85, 3, 1)] -/
def sc_spf_Next_L0 : SCode :=
 (.seq (.reg [1, 2, 3, 4, 9, 40, 41, 42] [⟨(some 43), none, .bin .lss 3 (.tmp 42) (.tmp 41)⟩])
 (.seq (.cond (.tmp 43) .skip (.exit 0))
 (.seq (.block 1 (.seq (.reg [1, 2, 3, 4, 9, 40, 41, 42] [⟨(some 44), none, .ia none 1 (.tmp 40) (.tmp 42)⟩, ⟨(some 45), none, .load 1 false (.tmp 44)⟩, ⟨(some 11), none, .mv (.tmp 45)⟩])
 (.seq (.reg [1, 2, 3, 4, 9, 11, 40, 41, 42] [⟨(some 47), none, .load 2 true (.tmp 4)⟩, ⟨(some 48), none, .mv (.tmp 11)⟩, ⟨(some 49), none, .call 22 [(.tmp 47), (.tmp 48)]⟩, ⟨(some 46), none, .mv (.tmp 49)⟩, ⟨(some 50), none, .ext (.tmp 46) 0⟩, ⟨(some 51), none, .ext (.tmp 46) 1⟩, ⟨(some 52), none, .ext (.tmp 46) 2⟩, ⟨(some 12), none, .mv (.tmp 50)⟩, ⟨(some 13), none, .mv (.tmp 51)⟩, ⟨(some 14), none, .mv (.tmp 52)⟩])
 (.seq (.draw [1, 2, 3, 4, 9, 11, 13, 40, 41, 42] [⟨(some 53), none, .mv (.tmp 1)⟩, ⟨(some 54), none, .mv (.tmp 11)⟩, ⟨(some 55), none, .call 76 [(.tmp 53), (.tmp 54)]⟩, ⟨(some 56), none, .mv (.tmp 55)⟩, ⟨(some 57), (some (56, true)), .mv (.tmp 2)⟩, ⟨(some 58), (some (56, true)), .mv (.tmp 13)⟩, ⟨(some 59), (some (56, true)), .ia none 1 (.tmp 57) (.tmp 58)⟩, ⟨(some 60), (some (56, true)), .load 1 false (.tmp 59)⟩, ⟨(some 61), (some (56, true)), .bin .geq 3 (.tmp 60) (.const (.int .i64 0))⟩, ⟨(some 62), none, .pick (.tmp 56) (.tmp 61) (.const (.bool false))⟩, ⟨(some 63), none, .mv (.tmp 62)⟩, ⟨(some 64), (some (63, true)), .mv (.tmp 2)⟩, ⟨(some 65), (some (63, true)), .mv (.tmp 3)⟩, ⟨(some 66), (some (63, true)), .ia none 1 (.tmp 64) (.tmp 65)⟩, ⟨(some 67), (some (63, true)), .load 1 false (.tmp 66)⟩, ⟨(some 68), (some (63, true)), .fld 1 (.tmp 4)⟩, ⟨(some 69), (some (63, true)), .load 1 false (.tmp 68)⟩, ⟨(some 70), (some (63, true)), .mv (.tmp 11)⟩, ⟨(some 71), (some (63, true)), .bin .quo 3 (.tmp 70) (.const (.int .i64 2))⟩, ⟨(some 72), (some (63, true)), .ia none 4 (.tmp 69) (.tmp 71)⟩, ⟨(some 73), (some (63, true)), .fld 2 (.tmp 72)⟩, ⟨(some 74), (some (63, true)), .load 1 false (.tmp 73)⟩, ⟨(some 75), (some (63, true)), .bin .sub 3 (.tmp 67) (.tmp 74)⟩, ⟨(some 76), (some (63, true)), .mv (.tmp 2)⟩, ⟨(some 77), (some (63, true)), .mv (.tmp 13)⟩, ⟨(some 78), (some (63, true)), .ia none 1 (.tmp 76) (.tmp 77)⟩, ⟨(some 79), (some (63, true)), .load 1 false (.tmp 78)⟩, ⟨(some 80), (some (63, true)), .bin .eql 3 (.tmp 75) (.tmp 79)⟩, ⟨(some 81), none, .pick (.tmp 63) (.tmp 80) (.const (.bool false))⟩])
 (.cond (.tmp 81) (.reg [1, 2, 3, 4, 9, 11, 40, 41, 42] [⟨(some 82), none, .mv (.tmp 9)⟩, ⟨(some 83), none, .mv (.tmp 11)⟩, ⟨(some 84), none, .bsl 3 1 [(.int .i64 0)] 1 [(0, 1, (.tmp 83))]⟩, ⟨(some 85), none, .app 35 3 1 8 (.int .i64 0) (.tmp 82) (.tmp 84)⟩, ⟨(some 9), none, .mv (.tmp 85)⟩]) .skip)))))
 (.reg [1, 2, 3, 4, 9, 40, 41, 42] [⟨(some 86), none, .bin .add 3 (.tmp 42) (.const (.int .i64 1))⟩, ⟨(some 42), none, .mv (.tmp 86)⟩]))))
/- 46 waymark/spf.Next: slots 0 g, 1 down, 2 to, 3 node, 4 g, 5 down, 6 to, 7 node, 9 out, 10 _, 11 edge, 12 _, 13 end, 14 _ -/
def sc_spf_Next : SCode :=
 (.seq (.reg [0, 1, 2, 3] [⟨(some 4), none, .box 24 (.tmp 0)⟩, ⟨(some 8), none, .mv (.const (.slice none 0 0))⟩])
 (.seq (.seq (.reg [1, 2, 3, 4] [⟨(some 15), none, .load 2 true (.tmp 4)⟩, ⟨(some 16), none, .call 73 [(.tmp 15)]⟩, ⟨(some 17), none, .un .not (.tmp 16)⟩, ⟨(some 18), none, .mv (.tmp 17)⟩, ⟨(some 19), (some (18, false)), .mv (.tmp 2)⟩, ⟨(some 20), (some (18, false)), .len false (.tmp 19)⟩, ⟨(some 21), (some (18, false)), .fld 0 (.tmp 4)⟩, ⟨(some 22), (some (18, false)), .load 1 false (.tmp 21)⟩, ⟨(some 23), (some (18, false)), .bin .neq 3 (.tmp 20) (.tmp 22)⟩, ⟨(some 24), none, .pick (.tmp 18) (.const (.bool true)) (.tmp 23)⟩, ⟨(some 25), none, .mv (.tmp 24)⟩, ⟨(some 26), (some (25, false)), .load 2 true (.tmp 4)⟩, ⟨(some 27), (some (25, false)), .mv (.tmp 3)⟩, ⟨(some 28), (some (25, false)), .call 66 [(.tmp 26), (.tmp 27)]⟩, ⟨(some 29), (some (25, false)), .un .not (.tmp 28)⟩, ⟨(some 30), none, .pick (.tmp 25) (.const (.bool true)) (.tmp 29)⟩, ⟨(some 31), none, .mv (.tmp 30)⟩, ⟨(some 32), (some (31, false)), .mv (.tmp 2)⟩, ⟨(some 33), (some (31, false)), .mv (.tmp 3)⟩, ⟨(some 34), (some (31, false)), .ia none 1 (.tmp 32) (.tmp 33)⟩, ⟨(some 35), (some (31, false)), .load 1 false (.tmp 34)⟩, ⟨(some 36), (some (31, false)), .bin .leq 3 (.tmp 35) (.const (.int .i64 0))⟩, ⟨(some 37), none, .pick (.tmp 31) (.const (.bool true)) (.tmp 36)⟩])
 (.cond (.tmp 37) (.seq (.reg [] [⟨(some 8), none, .mv (.const (.slice none 0 0))⟩])
 .ret) .skip))
 (.seq (.reg [1, 2, 3, 4] [⟨(some 9), none, .mv (.const (.slice none 0 0))⟩])
 (.seq (.seq (.reg [1, 2, 3, 4, 9] [⟨(some 38), none, .load 2 true (.tmp 4)⟩, ⟨(some 39), none, .mv (.tmp 3)⟩, ⟨(some 40), none, .call 26 [(.tmp 38), (.tmp 39)]⟩, ⟨(some 41), none, .len false (.tmp 40)⟩, ⟨(some 42), none, .mv (.const (.int .i64 0))⟩])
 (.block 0 (.loop [1, 2, 3, 4, 9, 40, 41, 42] [(9, 85, 3, 1)] sc_spf_Next_L0)))
 (.seq (.reg [9] [⟨(some 87), none, .mv (.tmp 9)⟩, ⟨(some 8), none, .mv (.tmp 87)⟩])
 .ret)))))
theorem fn_spf_Next : FnOk Try.prog 46 Try.f46 sc_spf_Next [.tmp 8] 4 := ⟨Try.func46, by kernel_rfl, by kernel_rfl, by kernel_rfl, by kernel_rfl, by kernel_rfl, by kernel_rfl⟩

/- 76 waymark/spf.Up: slots 0 down, 1 edge, 2 down, 3 edge -/
def sc_spf_Up : SCode :=
 (.seq (.reg [0, 1] [⟨(some 4), none, .mv (.const (.bool false))⟩])
 (.seq (.reg [0, 1] [⟨(some 5), none, .mv (.tmp 1)⟩, ⟨(some 6), none, .bin .quo 3 (.tmp 5) (.const (.int .i64 2))⟩, ⟨(some 7), none, .mv (.tmp 0)⟩, ⟨(some 8), none, .len false (.tmp 7)⟩, ⟨(some 9), none, .bin .geq 3 (.tmp 6) (.tmp 8)⟩, ⟨(some 10), none, .mv (.tmp 9)⟩, ⟨(some 11), (some (10, false)), .mv (.tmp 0)⟩, ⟨(some 12), (some (10, false)), .mv (.tmp 1)⟩, ⟨(some 13), (some (10, false)), .bin .quo 3 (.tmp 12) (.const (.int .i64 2))⟩, ⟨(some 14), (some (10, false)), .ia none 1 (.tmp 11) (.tmp 13)⟩, ⟨(some 15), (some (10, false)), .load 1 false (.tmp 14)⟩, ⟨(some 16), (some (10, false)), .un .not (.tmp 15)⟩, ⟨(some 17), none, .pick (.tmp 10) (.const (.bool true)) (.tmp 16)⟩, ⟨(some 4), none, .mv (.tmp 17)⟩])
 .ret))
theorem fn_spf_Up : FnOk Try.prog 76 Try.f76 sc_spf_Up [.tmp 4] 2 := ⟨Try.func76, by kernel_rfl, by kernel_rfl, by kernel_rfl, by kernel_rfl, by kernel_rfl, by kernel_rfl⟩

end Go.Proofs.Ytkephdahbplhfaa
