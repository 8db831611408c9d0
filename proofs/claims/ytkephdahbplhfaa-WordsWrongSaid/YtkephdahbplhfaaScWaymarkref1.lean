import Derived.Test.YtkephdahbplhfaaProg
import Derived.Test.YtkephdahbplhfaaAbsG
set_option maxRecDepth 100000
namespace Go.Proofs.Ytkephdahbplhfaa
open Go Abs

/- loop of waymark/waymarkref1.Check, wants [1, 4] [] -/
def sc_waymarkref1_Check_L0 : SCode :=
 (.seq (.seq (.reg [1, 4] [⟨(some 18), none, .mv (.tmp 4)⟩, ⟨(some 19), none, .fld 1 (.tmp 1)⟩, ⟨(some 20), none, .load 1 false (.tmp 19)⟩, ⟨(some 21), none, .len false (.tmp 20)⟩, ⟨(some 22), none, .bin .lss 3 (.tmp 18) (.tmp 21)⟩])
 (.cond (.tmp 22) .skip (.exit 0)))
 (.seq (.block 1 (.seq (.reg [1, 4] [⟨(some 25), none, .fld 1 (.tmp 1)⟩, ⟨(some 26), none, .load 1 false (.tmp 25)⟩, ⟨(some 27), none, .mv (.tmp 4)⟩, ⟨(some 28), none, .ia none 4 (.tmp 26) (.tmp 27)⟩, ⟨(some 29), none, .load 4 true (.tmp 28)⟩, ⟨(some 5), none, .alloc 41 [(.int .i64 0), (.int .i64 0), (.int .i64 0), (.int .i64 0)]⟩, ⟨none, none, .store 4 (.tmp 5) (.tmp 29)⟩])
 (.seq (.seq (.reg [1, 4, 5] [⟨(some 30), none, .fld 0 (.tmp 5)⟩, ⟨(some 31), none, .load 1 false (.tmp 30)⟩, ⟨(some 32), none, .bin .lss 3 (.tmp 31) (.const (.int .i64 0))⟩, ⟨(some 33), none, .mv (.tmp 32)⟩, ⟨(some 34), (some (33, false)), .fld 0 (.tmp 5)⟩, ⟨(some 35), (some (33, false)), .load 1 false (.tmp 34)⟩, ⟨(some 36), (some (33, false)), .fld 0 (.tmp 1)⟩, ⟨(some 37), (some (33, false)), .load 1 false (.tmp 36)⟩, ⟨(some 38), (some (33, false)), .bin .geq 3 (.tmp 35) (.tmp 37)⟩, ⟨(some 39), none, .pick (.tmp 33) (.const (.bool true)) (.tmp 38)⟩, ⟨(some 40), none, .mv (.tmp 39)⟩, ⟨(some 41), (some (40, false)), .fld 1 (.tmp 5)⟩, ⟨(some 42), (some (40, false)), .load 1 false (.tmp 41)⟩, ⟨(some 43), (some (40, false)), .bin .lss 3 (.tmp 42) (.const (.int .i64 0))⟩, ⟨(some 44), none, .pick (.tmp 40) (.const (.bool true)) (.tmp 43)⟩, ⟨(some 45), none, .mv (.tmp 44)⟩, ⟨(some 46), (some (45, false)), .fld 1 (.tmp 5)⟩, ⟨(some 47), (some (45, false)), .load 1 false (.tmp 46)⟩, ⟨(some 48), (some (45, false)), .fld 0 (.tmp 1)⟩, ⟨(some 49), (some (45, false)), .load 1 false (.tmp 48)⟩, ⟨(some 50), (some (45, false)), .bin .geq 3 (.tmp 47) (.tmp 49)⟩, ⟨(some 51), none, .pick (.tmp 45) (.const (.bool true)) (.tmp 50)⟩, ⟨(some 52), none, .mv (.tmp 51)⟩, ⟨(some 53), (some (52, false)), .fld 0 (.tmp 5)⟩, ⟨(some 54), (some (52, false)), .load 1 false (.tmp 53)⟩, ⟨(some 55), (some (52, false)), .fld 1 (.tmp 5)⟩, ⟨(some 56), (some (52, false)), .load 1 false (.tmp 55)⟩, ⟨(some 57), (some (52, false)), .bin .eql 3 (.tmp 54) (.tmp 56)⟩, ⟨(some 58), none, .pick (.tmp 52) (.const (.bool true)) (.tmp 57)⟩])
 (.cond (.tmp 58) (.seq (.reg [4] [⟨(some 59), none, .mv (.tmp 4)⟩, ⟨(some 2), none, .mv (.tmp 59)⟩, ⟨(some 3), none, .mv (.const (.int .i64 4))⟩])
 .ret) .skip))
 (.seq (.reg [1, 4, 5] [⟨(some 60), none, .fld 2 (.tmp 5)⟩, ⟨(some 61), none, .load 1 false (.tmp 60)⟩, ⟨(some 62), none, .bin .lss 3 (.tmp 61) (.const (.int .i64 1))⟩, ⟨(some 63), none, .mv (.tmp 62)⟩, ⟨(some 64), (some (63, false)), .fld 2 (.tmp 5)⟩, ⟨(some 65), (some (63, false)), .load 1 false (.tmp 64)⟩, ⟨(some 66), (some (63, false)), .bin .gtr 3 (.tmp 65) (.const (.int .i64 16777216))⟩, ⟨(some 67), none, .pick (.tmp 63) (.const (.bool true)) (.tmp 66)⟩, ⟨(some 68), none, .mv (.tmp 67)⟩, ⟨(some 69), (some (68, false)), .fld 3 (.tmp 5)⟩, ⟨(some 70), (some (68, false)), .load 1 false (.tmp 69)⟩, ⟨(some 71), (some (68, false)), .bin .lss 3 (.tmp 70) (.const (.int .i64 0))⟩, ⟨(some 72), none, .pick (.tmp 68) (.const (.bool true)) (.tmp 71)⟩, ⟨(some 73), none, .mv (.tmp 72)⟩, ⟨(some 74), (some (73, false)), .fld 3 (.tmp 5)⟩, ⟨(some 75), (some (73, false)), .load 1 false (.tmp 74)⟩, ⟨(some 76), (some (73, false)), .bin .gtr 3 (.tmp 75) (.const (.int .i64 62))⟩, ⟨(some 77), none, .pick (.tmp 73) (.const (.bool true)) (.tmp 76)⟩])
 (.cond (.tmp 77) (.seq (.reg [4] [⟨(some 78), none, .mv (.tmp 4)⟩, ⟨(some 2), none, .mv (.tmp 78)⟩, ⟨(some 3), none, .mv (.const (.int .i64 1))⟩])
 .ret) .skip)))))
 (.reg [1, 4] [⟨(some 23), none, .mv (.tmp 4)⟩, ⟨(some 24), none, .bin .add 3 (.tmp 23) (.const (.int .i64 1))⟩, ⟨(some 4), none, .mv (.tmp 24)⟩])))
/- 21 waymark/waymarkref1.Check: slots 0 g, 1 g, 4 i, 5 l -/
def sc_waymarkref1_Check : SCode :=
 (.seq (.reg [0] [⟨(some 1), none, .box 24 (.tmp 0)⟩, ⟨(some 2), none, .mv (.const (.int .i64 0))⟩, ⟨(some 3), none, .mv (.const (.int .i64 0))⟩])
 (.seq (.seq (.reg [1] [⟨(some 6), none, .fld 1 (.tmp 1)⟩, ⟨(some 7), none, .load 1 false (.tmp 6)⟩, ⟨(some 8), none, .len false (.tmp 7)⟩, ⟨(some 9), none, .bin .gtr 3 (.tmp 8) (.const (.int .i64 120))⟩])
 (.cond (.tmp 9) (.seq (.reg [] [⟨(some 2), none, .mv (.const (.int .i64 (-1)))⟩, ⟨(some 3), none, .mv (.const (.int .i64 6))⟩])
 .ret) .skip))
 (.seq (.seq (.reg [1] [⟨(some 10), none, .fld 0 (.tmp 1)⟩, ⟨(some 11), none, .load 1 false (.tmp 10)⟩, ⟨(some 12), none, .bin .lss 3 (.tmp 11) (.const (.int .i64 1))⟩, ⟨(some 13), none, .mv (.tmp 12)⟩, ⟨(some 14), (some (13, false)), .fld 0 (.tmp 1)⟩, ⟨(some 15), (some (13, false)), .load 1 false (.tmp 14)⟩, ⟨(some 16), (some (13, false)), .bin .gtr 3 (.tmp 15) (.const (.int .i64 40))⟩, ⟨(some 17), none, .pick (.tmp 13) (.const (.bool true)) (.tmp 16)⟩])
 (.cond (.tmp 17) (.seq (.reg [] [⟨(some 2), none, .mv (.const (.int .i64 (-1)))⟩, ⟨(some 3), none, .mv (.const (.int .i64 1))⟩])
 .ret) .skip))
 (.seq (.seq (.reg [1] [⟨(some 4), none, .mv (.const (.int .i64 0))⟩])
 (.block 0 (.loop [1, 4] [] sc_waymarkref1_Check_L0)))
 (.seq (.reg [] [⟨(some 2), none, .mv (.const (.int .i64 (-1)))⟩, ⟨(some 3), none, .mv (.const (.int .i64 0))⟩])
 .ret)))))
theorem fn_waymarkref1_Check : FnOk Try.prog 21 Try.f21 sc_waymarkref1_Check [.tmp 2, .tmp 3] 1 := ⟨Try.func21, by kernel_rfl, by kernel_rfl, by kernel_rfl, by kernel_rfl, by kernel_rfl, by kernel_rfl⟩

/- 23 waymark/waymarkref1.Ends: slots 0 g, 1 edge, 2 g, 3 edge, 7 l -/
def sc_waymarkref1_Ends : SCode :=
 (.seq (.reg [0, 1] [⟨(some 2), none, .box 24 (.tmp 0)⟩, ⟨(some 4), none, .mv (.const (.int .i64 0))⟩, ⟨(some 5), none, .mv (.const (.int .i64 0))⟩, ⟨(some 6), none, .mv (.const (.bool false))⟩])
 (.seq (.seq (.reg [1, 2] [⟨(some 8), none, .mv (.tmp 1)⟩, ⟨(some 9), none, .bin .lss 3 (.tmp 8) (.const (.int .i64 0))⟩, ⟨(some 10), none, .mv (.tmp 9)⟩, ⟨(some 11), (some (10, false)), .mv (.tmp 1)⟩, ⟨(some 12), (some (10, false)), .bin .quo 3 (.tmp 11) (.const (.int .i64 2))⟩, ⟨(some 13), (some (10, false)), .fld 1 (.tmp 2)⟩, ⟨(some 14), (some (10, false)), .load 1 false (.tmp 13)⟩, ⟨(some 15), (some (10, false)), .len false (.tmp 14)⟩, ⟨(some 16), (some (10, false)), .bin .geq 3 (.tmp 12) (.tmp 15)⟩, ⟨(some 17), none, .pick (.tmp 10) (.const (.bool true)) (.tmp 16)⟩])
 (.cond (.tmp 17) (.seq (.reg [] [⟨(some 4), none, .mv (.const (.int .i64 0))⟩, ⟨(some 5), none, .mv (.const (.int .i64 0))⟩, ⟨(some 6), none, .mv (.const (.bool false))⟩])
 .ret) .skip))
 (.seq (.reg [1, 2] [⟨(some 18), none, .fld 1 (.tmp 2)⟩, ⟨(some 19), none, .load 1 false (.tmp 18)⟩, ⟨(some 20), none, .mv (.tmp 1)⟩, ⟨(some 21), none, .bin .quo 3 (.tmp 20) (.const (.int .i64 2))⟩, ⟨(some 22), none, .ia none 4 (.tmp 19) (.tmp 21)⟩, ⟨(some 23), none, .load 4 true (.tmp 22)⟩, ⟨(some 7), none, .alloc 41 [(.int .i64 0), (.int .i64 0), (.int .i64 0), (.int .i64 0)]⟩, ⟨none, none, .store 4 (.tmp 7) (.tmp 23)⟩])
 (.seq (.seq (.reg [1, 7] [⟨(some 24), none, .mv (.tmp 1)⟩, ⟨(some 25), none, .bin .rem 3 (.tmp 24) (.const (.int .i64 2))⟩, ⟨(some 26), none, .bin .eql 3 (.tmp 25) (.const (.int .i64 1))⟩])
 (.cond (.tmp 26) (.seq (.draw [7] [⟨(some 27), none, .fld 1 (.tmp 7)⟩, ⟨(some 28), none, .load 1 false (.tmp 27)⟩, ⟨(some 29), none, .fld 0 (.tmp 7)⟩, ⟨(some 30), none, .load 1 false (.tmp 29)⟩, ⟨(some 4), none, .mv (.tmp 28)⟩, ⟨(some 5), none, .mv (.tmp 30)⟩, ⟨(some 6), none, .mv (.const (.bool true))⟩])
 .ret) .skip))
 (.seq (.draw [7] [⟨(some 31), none, .fld 0 (.tmp 7)⟩, ⟨(some 32), none, .load 1 false (.tmp 31)⟩, ⟨(some 33), none, .fld 1 (.tmp 7)⟩, ⟨(some 34), none, .load 1 false (.tmp 33)⟩, ⟨(some 4), none, .mv (.tmp 32)⟩, ⟨(some 5), none, .mv (.tmp 34)⟩, ⟨(some 6), none, .mv (.const (.bool true))⟩])
 .ret)))))
theorem fn_waymarkref1_Ends : FnOk Try.prog 23 Try.f23 sc_waymarkref1_Ends [.tmp 4, .tmp 5, .tmp 6] 2 := ⟨Try.func23, by kernel_rfl, by kernel_rfl, by kernel_rfl, by kernel_rfl, by kernel_rfl, by kernel_rfl⟩

/- loop of waymark/waymarkref1.SameInts, wants [0, 1, 5] [] -/
def sc_waymarkref1_SameInts_L0 : SCode :=
 (.seq (.seq (.reg [0, 1, 5] [⟨(some 11), none, .mv (.tmp 5)⟩, ⟨(some 12), none, .mv (.tmp 0)⟩, ⟨(some 13), none, .len false (.tmp 12)⟩, ⟨(some 14), none, .bin .lss 3 (.tmp 11) (.tmp 13)⟩])
 (.cond (.tmp 14) .skip (.exit 0)))
 (.seq (.block 1 (.seq (.draw [0, 1, 5] [⟨(some 17), none, .mv (.tmp 0)⟩, ⟨(some 18), none, .mv (.tmp 5)⟩, ⟨(some 19), none, .ia none 1 (.tmp 17) (.tmp 18)⟩, ⟨(some 20), none, .load 1 false (.tmp 19)⟩, ⟨(some 21), none, .mv (.tmp 1)⟩, ⟨(some 22), none, .mv (.tmp 5)⟩, ⟨(some 23), none, .ia none 1 (.tmp 21) (.tmp 22)⟩, ⟨(some 24), none, .load 1 false (.tmp 23)⟩, ⟨(some 25), none, .bin .neq 3 (.tmp 20) (.tmp 24)⟩])
 (.cond (.tmp 25) (.seq (.reg [] [⟨(some 4), none, .mv (.const (.bool false))⟩])
 .ret) .skip)))
 (.reg [0, 1, 5] [⟨(some 15), none, .mv (.tmp 5)⟩, ⟨(some 16), none, .bin .add 3 (.tmp 15) (.const (.int .i64 1))⟩, ⟨(some 5), none, .mv (.tmp 16)⟩])))
/- 25 waymark/waymarkref1.SameInts: slots 0 a, 1 b, 2 a, 3 b, 5 i -/
def sc_waymarkref1_SameInts : SCode :=
 (.seq (.reg [0, 1] [⟨(some 4), none, .mv (.const (.bool false))⟩])
 (.seq (.seq (.reg [0, 1] [⟨(some 6), none, .mv (.tmp 0)⟩, ⟨(some 7), none, .len false (.tmp 6)⟩, ⟨(some 8), none, .mv (.tmp 1)⟩, ⟨(some 9), none, .len false (.tmp 8)⟩, ⟨(some 10), none, .bin .neq 3 (.tmp 7) (.tmp 9)⟩])
 (.cond (.tmp 10) (.seq (.reg [] [⟨(some 4), none, .mv (.const (.bool false))⟩])
 .ret) .skip))
 (.seq (.seq (.reg [0, 1] [⟨(some 5), none, .mv (.const (.int .i64 0))⟩])
 (.block 0 (.loop [0, 1, 5] [] sc_waymarkref1_SameInts_L0)))
 (.seq (.reg [] [⟨(some 4), none, .mv (.const (.bool true))⟩])
 .ret))))
theorem fn_waymarkref1_SameInts : FnOk Try.prog 25 Try.f25 sc_waymarkref1_SameInts [.tmp 4] 2 := ⟨Try.func25, by kernel_rfl, by kernel_rfl, by kernel_rfl, by kernel_rfl, by kernel_rfl, by kernel_rfl⟩

/- loop of waymark/waymarkref1.Out, wants [1, 2, 5, 6] [(5, 31, 3, 1)] -/
def sc_waymarkref1_Out_L0 : SCode :=
 (.seq (.seq (.reg [1, 2, 5, 6] [⟨(some 10), none, .mv (.tmp 6)⟩, ⟨(some 11), none, .fld 1 (.tmp 2)⟩, ⟨(some 12), none, .load 1 false (.tmp 11)⟩, ⟨(some 13), none, .len false (.tmp 12)⟩, ⟨(some 14), none, .bin .mul 3 (.const (.int .i64 2)) (.tmp 13)⟩, ⟨(some 15), none, .bin .lss 3 (.tmp 10) (.tmp 14)⟩])
 (.cond (.tmp 15) .skip (.exit 0)))
 (.seq (.block 1 (.seq (.reg [1, 2, 5, 6] [⟨(some 19), none, .load 2 true (.tmp 2)⟩, ⟨(some 20), none, .mv (.tmp 6)⟩, ⟨(some 21), none, .call 23 [(.tmp 19), (.tmp 20)]⟩, ⟨(some 18), none, .mv (.tmp 21)⟩, ⟨(some 22), none, .ext (.tmp 18) 0⟩, ⟨(some 23), none, .ext (.tmp 18) 1⟩, ⟨(some 24), none, .ext (.tmp 18) 2⟩, ⟨(some 7), none, .mv (.tmp 22)⟩, ⟨(some 8), none, .mv (.tmp 23)⟩, ⟨(some 9), none, .mv (.tmp 24)⟩])
 (.seq (.reg [1, 2, 5, 6, 7] [⟨(some 25), none, .mv (.tmp 7)⟩, ⟨(some 26), none, .mv (.tmp 1)⟩, ⟨(some 27), none, .bin .eql 3 (.tmp 25) (.tmp 26)⟩])
 (.cond (.tmp 27) (.reg [1, 2, 5, 6] [⟨(some 28), none, .mv (.tmp 5)⟩, ⟨(some 29), none, .mv (.tmp 6)⟩, ⟨(some 30), none, .bsl 3 1 [(.int .i64 0)] 1 [(0, 1, (.tmp 29))]⟩, ⟨(some 31), none, .app 35 3 1 8 (.int .i64 0) (.tmp 28) (.tmp 30)⟩, ⟨(some 5), none, .mv (.tmp 31)⟩]) .skip))))
 (.reg [1, 2, 5, 6] [⟨(some 16), none, .mv (.tmp 6)⟩, ⟨(some 17), none, .bin .add 3 (.tmp 16) (.const (.int .i64 1))⟩, ⟨(some 6), none, .mv (.tmp 17)⟩])))
/- 27 waymark/waymarkref1.Out: slots 0 g, 1 node, 2 g, 3 node, 5 out, 6 e, 7 a, 8 _, 9 _ -/
def sc_waymarkref1_Out : SCode :=
 (.seq (.reg [0, 1] [⟨(some 2), none, .box 24 (.tmp 0)⟩, ⟨(some 4), none, .mv (.const (.slice none 0 0))⟩])
 (.seq (.reg [1, 2] [⟨(some 5), none, .mv (.const (.slice none 0 0))⟩])
 (.seq (.seq (.reg [1, 2, 5] [⟨(some 6), none, .mv (.const (.int .i64 0))⟩])
 (.block 0 (.loop [1, 2, 5, 6] [(5, 31, 3, 1)] sc_waymarkref1_Out_L0)))
 (.seq (.reg [5] [⟨(some 32), none, .mv (.tmp 5)⟩, ⟨(some 4), none, .mv (.tmp 32)⟩])
 .ret))))
theorem fn_waymarkref1_Out : FnOk Try.prog 27 Try.f27 sc_waymarkref1_Out [.tmp 4] 2 := ⟨Try.func27, by kernel_rfl, by kernel_rfl, by kernel_rfl, by kernel_rfl, by kernel_rfl, by kernel_rfl⟩

/- 29 waymark/waymarkref1.Back: slots 0 edge, 1 edge -/
def sc_waymarkref1_Back : SCode :=
 (.seq (.reg [0] [⟨(some 2), none, .mv (.const (.int .i64 0))⟩])
 (.seq (.block 0 (.seq (.reg [0] [⟨(some 4), none, .mv (.tmp 0)⟩, ⟨(some 5), none, .bin .lss 3 (.tmp 4) (.const (.int .i64 0))⟩, ⟨(some 3), none, .mv (.tmp 5)⟩])
 (.cond (.tmp 3) (.seq (.reg [] [⟨(some 2), none, .mv (.const (.int .i64 (-1)))⟩])
 .ret) (.seq (.reg [0] [⟨(some 7), none, .mv (.tmp 0)⟩, ⟨(some 8), none, .bin .rem 3 (.tmp 7) (.const (.int .i64 2))⟩, ⟨(some 9), none, .bin .eql 3 (.tmp 8) (.const (.int .i64 1))⟩, ⟨(some 6), none, .mv (.tmp 9)⟩])
 (.cond (.tmp 6) (.seq (.reg [0] [⟨(some 10), none, .mv (.tmp 0)⟩, ⟨(some 11), none, .bin .sub 3 (.tmp 10) (.const (.int .i64 1))⟩, ⟨(some 2), none, .mv (.tmp 11)⟩])
 .ret) .skip)))))
 (.seq (.reg [0] [⟨(some 12), none, .mv (.tmp 0)⟩, ⟨(some 13), none, .bin .add 3 (.tmp 12) (.const (.int .i64 1))⟩, ⟨(some 2), none, .mv (.tmp 13)⟩])
 .ret)))
theorem fn_waymarkref1_Back : FnOk Try.prog 29 Try.f29 sc_waymarkref1_Back [.tmp 2] 1 := ⟨Try.func29, by kernel_rfl, by kernel_rfl, by kernel_rfl, by kernel_rfl, by kernel_rfl, by kernel_rfl⟩

/- loop of waymark/waymarkref1.RightWant, wants [3, 11] [] -/
def sc_waymarkref1_RightWant_L0 : SCode :=
 (.seq (.seq (.reg [3, 11] [⟨(some 93), none, .mv (.tmp 11)⟩, ⟨(some 94), none, .fld 6 (.tmp 3)⟩, ⟨(some 95), none, .load 1 false (.tmp 94)⟩, ⟨(some 96), none, .len false (.tmp 95)⟩, ⟨(some 97), none, .bin .lss 3 (.tmp 93) (.tmp 96)⟩])
 (.cond (.tmp 97) .skip (.exit 6)))
 (.seq (.block 7 (.seq (.reg [3, 11] [⟨(some 100), none, .fld 6 (.tmp 3)⟩, ⟨(some 101), none, .load 1 false (.tmp 100)⟩, ⟨(some 102), none, .mv (.tmp 11)⟩, ⟨(some 103), none, .ia none 1 (.tmp 101) (.tmp 102)⟩, ⟨(some 104), none, .load 1 false (.tmp 103)⟩, ⟨(some 105), none, .bin .lss 3 (.tmp 104) (.const (.int .i64 0))⟩, ⟨(some 106), none, .mv (.tmp 105)⟩, ⟨(some 107), (some (106, false)), .fld 6 (.tmp 3)⟩, ⟨(some 108), (some (106, false)), .load 1 false (.tmp 107)⟩, ⟨(some 109), (some (106, false)), .mv (.tmp 11)⟩, ⟨(some 110), (some (106, false)), .ia none 1 (.tmp 108) (.tmp 109)⟩, ⟨(some 111), (some (106, false)), .load 1 false (.tmp 110)⟩, ⟨(some 112), (some (106, false)), .bin .gtr 3 (.tmp 111) (.const (.int .i64 62))⟩, ⟨(some 113), none, .pick (.tmp 106) (.const (.bool true)) (.tmp 112)⟩])
 (.cond (.tmp 113) (.seq (.reg [] [⟨(some 4), none, .mv (.const (.int .i64 1))⟩])
 .ret) .skip)))
 (.reg [3, 11] [⟨(some 98), none, .mv (.tmp 11)⟩, ⟨(some 99), none, .bin .add 3 (.tmp 98) (.const (.int .i64 1))⟩, ⟨(some 11), none, .mv (.tmp 99)⟩])))
/- loop of waymark/waymarkref1.RightWant, wants [2, 3, 10] [] -/
def sc_waymarkref1_RightWant_L1 : SCode :=
 (.seq (.seq (.reg [2, 3, 10] [⟨(some 69), none, .mv (.tmp 10)⟩, ⟨(some 70), none, .fld 5 (.tmp 3)⟩, ⟨(some 71), none, .load 1 false (.tmp 70)⟩, ⟨(some 72), none, .len false (.tmp 71)⟩, ⟨(some 73), none, .bin .lss 3 (.tmp 69) (.tmp 72)⟩])
 (.cond (.tmp 73) .skip (.exit 4)))
 (.seq (.block 5 (.seq (.draw [2, 3, 10] [⟨(some 76), none, .fld 5 (.tmp 3)⟩, ⟨(some 77), none, .load 1 false (.tmp 76)⟩, ⟨(some 78), none, .mv (.tmp 10)⟩, ⟨(some 79), none, .ia none 1 (.tmp 77) (.tmp 78)⟩, ⟨(some 80), none, .load 1 false (.tmp 79)⟩, ⟨(some 81), none, .bin .lss 3 (.tmp 80) (.const (.int .i64 0))⟩, ⟨(some 82), none, .mv (.tmp 81)⟩, ⟨(some 83), (some (82, false)), .fld 5 (.tmp 3)⟩, ⟨(some 84), (some (82, false)), .load 1 false (.tmp 83)⟩, ⟨(some 85), (some (82, false)), .mv (.tmp 10)⟩, ⟨(some 86), (some (82, false)), .ia none 1 (.tmp 84) (.tmp 85)⟩, ⟨(some 87), (some (82, false)), .load 1 false (.tmp 86)⟩, ⟨(some 88), (some (82, false)), .fld 1 (.tmp 2)⟩, ⟨(some 89), (some (82, false)), .load 1 false (.tmp 88)⟩, ⟨(some 90), (some (82, false)), .len false (.tmp 89)⟩, ⟨(some 91), (some (82, false)), .bin .geq 3 (.tmp 87) (.tmp 90)⟩, ⟨(some 92), none, .pick (.tmp 82) (.const (.bool true)) (.tmp 91)⟩])
 (.cond (.tmp 92) (.seq (.reg [] [⟨(some 4), none, .mv (.const (.int .i64 5))⟩])
 .ret) .skip)))
 (.reg [2, 3, 10] [⟨(some 74), none, .mv (.tmp 10)⟩, ⟨(some 75), none, .bin .add 3 (.tmp 74) (.const (.int .i64 1))⟩, ⟨(some 10), none, .mv (.tmp 75)⟩])))
/- loop of waymark/waymarkref1.RightWant, wants [2, 3, 7, 9] [] -/
def sc_waymarkref1_RightWant_L2 : SCode :=
 (.seq (.seq (.reg [2, 3, 7, 9] [⟨(some 50), none, .mv (.tmp 9)⟩, ⟨(some 51), none, .fld 4 (.tmp 3)⟩, ⟨(some 52), none, .load 1 false (.tmp 51)⟩, ⟨(some 53), none, .len false (.tmp 52)⟩, ⟨(some 54), none, .bin .lss 3 (.tmp 50) (.tmp 53)⟩])
 (.cond (.tmp 54) .skip (.exit 2)))
 (.seq (.block 3 (.draw [2, 3, 7, 9] [⟨(some 57), none, .mv (.tmp 7)⟩, ⟨(some 58), none, .mv (.tmp 57)⟩, ⟨(some 59), (some (58, false)), .load 2 true (.tmp 2)⟩, ⟨(some 60), (some (58, false)), .fld 4 (.tmp 3)⟩, ⟨(some 61), (some (58, false)), .load 1 false (.tmp 60)⟩, ⟨(some 62), (some (58, false)), .mv (.tmp 9)⟩, ⟨(some 63), (some (58, false)), .ia none 1 (.tmp 61) (.tmp 62)⟩, ⟨(some 64), (some (58, false)), .load 1 false (.tmp 63)⟩, ⟨(some 65), (some (58, false)), .call 70 [(.tmp 59), (.tmp 64)]⟩, ⟨(some 66), (some (58, false)), .un .not (.tmp 65)⟩, ⟨(some 67), none, .pick (.tmp 58) (.const (.bool true)) (.tmp 66)⟩, ⟨(some 7), none, .mv (.tmp 67)⟩]))
 (.reg [2, 3, 7, 9] [⟨(some 55), none, .mv (.tmp 9)⟩, ⟨(some 56), none, .bin .add 3 (.tmp 55) (.const (.int .i64 1))⟩, ⟨(some 9), none, .mv (.tmp 56)⟩])))
/- loop of waymark/waymarkref1.RightWant, wants [2, 3, 7, 8] [] -/
def sc_waymarkref1_RightWant_L3 : SCode :=
 (.seq (.seq (.reg [2, 3, 7, 8] [⟨(some 32), none, .mv (.tmp 8)⟩, ⟨(some 33), none, .fld 3 (.tmp 3)⟩, ⟨(some 34), none, .load 1 false (.tmp 33)⟩, ⟨(some 35), none, .len false (.tmp 34)⟩, ⟨(some 36), none, .bin .lss 3 (.tmp 32) (.tmp 35)⟩])
 (.cond (.tmp 36) .skip (.exit 0)))
 (.seq (.block 1 (.draw [2, 3, 7, 8] [⟨(some 39), none, .mv (.tmp 7)⟩, ⟨(some 40), none, .mv (.tmp 39)⟩, ⟨(some 41), (some (40, false)), .load 2 true (.tmp 2)⟩, ⟨(some 42), (some (40, false)), .fld 3 (.tmp 3)⟩, ⟨(some 43), (some (40, false)), .load 1 false (.tmp 42)⟩, ⟨(some 44), (some (40, false)), .mv (.tmp 8)⟩, ⟨(some 45), (some (40, false)), .ia none 1 (.tmp 43) (.tmp 44)⟩, ⟨(some 46), (some (40, false)), .load 1 false (.tmp 45)⟩, ⟨(some 47), (some (40, false)), .call 70 [(.tmp 41), (.tmp 46)]⟩, ⟨(some 48), (some (40, false)), .un .not (.tmp 47)⟩, ⟨(some 49), none, .pick (.tmp 40) (.const (.bool true)) (.tmp 48)⟩, ⟨(some 7), none, .mv (.tmp 49)⟩]))
 (.reg [2, 3, 7, 8] [⟨(some 37), none, .mv (.tmp 8)⟩, ⟨(some 38), none, .bin .add 3 (.tmp 37) (.const (.int .i64 1))⟩, ⟨(some 8), none, .mv (.tmp 38)⟩])))
/- 38 waymark/waymarkref1.RightWant: slots 0 g, 1 w, 2 g, 3 w, 5 _, 6 e, 7 bad, 8 i, 9 i, 10 i, 11 i -/
def sc_waymarkref1_RightWant : SCode :=
 (.seq (.reg [0, 1] [⟨(some 2), none, .box 24 (.tmp 0)⟩, ⟨(some 3), none, .box 57 (.tmp 1)⟩, ⟨(some 4), none, .mv (.const (.int .i64 0))⟩])
 (.seq (.reg [2, 3] [⟨(some 13), none, .load 2 true (.tmp 2)⟩, ⟨(some 14), none, .call 21 [(.tmp 13)]⟩, ⟨(some 12), none, .mv (.tmp 14)⟩, ⟨(some 15), none, .ext (.tmp 12) 0⟩, ⟨(some 16), none, .ext (.tmp 12) 1⟩, ⟨(some 5), none, .mv (.tmp 15)⟩, ⟨(some 6), none, .mv (.tmp 16)⟩])
 (.seq (.seq (.reg [2, 3, 6] [⟨(some 17), none, .mv (.tmp 6)⟩, ⟨(some 18), none, .bin .neq 3 (.tmp 17) (.const (.int .i64 0))⟩])
 (.cond (.tmp 18) (.seq (.reg [6] [⟨(some 19), none, .mv (.tmp 6)⟩, ⟨(some 4), none, .mv (.tmp 19)⟩])
 .ret) .skip))
 (.seq (.reg [2, 3] [⟨(some 20), none, .load 2 true (.tmp 2)⟩, ⟨(some 21), none, .fld 0 (.tmp 3)⟩, ⟨(some 22), none, .load 1 false (.tmp 21)⟩, ⟨(some 23), none, .call 70 [(.tmp 20), (.tmp 22)]⟩, ⟨(some 24), none, .un .not (.tmp 23)⟩, ⟨(some 25), none, .mv (.tmp 24)⟩, ⟨(some 26), (some (25, false)), .load 2 true (.tmp 2)⟩, ⟨(some 27), (some (25, false)), .fld 1 (.tmp 3)⟩, ⟨(some 28), (some (25, false)), .load 1 false (.tmp 27)⟩, ⟨(some 29), (some (25, false)), .call 70 [(.tmp 26), (.tmp 28)]⟩, ⟨(some 30), (some (25, false)), .un .not (.tmp 29)⟩, ⟨(some 31), none, .pick (.tmp 25) (.const (.bool true)) (.tmp 30)⟩, ⟨(some 7), none, .mv (.tmp 31)⟩])
 (.seq (.seq (.reg [2, 3, 7] [⟨(some 8), none, .mv (.const (.int .i64 0))⟩])
 (.block 0 (.loop [2, 3, 7, 8] [] sc_waymarkref1_RightWant_L3)))
 (.seq (.seq (.reg [2, 3, 7] [⟨(some 9), none, .mv (.const (.int .i64 0))⟩])
 (.block 2 (.loop [2, 3, 7, 9] [] sc_waymarkref1_RightWant_L2)))
 (.seq (.seq (.reg [2, 3, 7] [⟨(some 68), none, .mv (.tmp 7)⟩])
 (.cond (.tmp 68) (.seq (.reg [] [⟨(some 4), none, .mv (.const (.int .i64 4))⟩])
 .ret) .skip))
 (.seq (.seq (.reg [2, 3] [⟨(some 10), none, .mv (.const (.int .i64 0))⟩])
 (.block 4 (.loop [2, 3, 10] [] sc_waymarkref1_RightWant_L1)))
 (.seq (.seq (.reg [3] [⟨(some 11), none, .mv (.const (.int .i64 0))⟩])
 (.block 6 (.loop [3, 11] [] sc_waymarkref1_RightWant_L0)))
 (.seq (.block 8 (.seq (.reg [3] [⟨(some 115), none, .fld 2 (.tmp 3)⟩, ⟨(some 116), none, .load 1 false (.tmp 115)⟩, ⟨(some 117), none, .bin .lss 3 (.tmp 116) (.const (.int .i64 0))⟩, ⟨(some 114), none, .mv (.tmp 117)⟩])
 (.cond (.tmp 114) (.seq (.reg [] [⟨(some 4), none, .mv (.const (.int .i64 1))⟩])
 .ret) (.seq (.reg [3] [⟨(some 119), none, .fld 3 (.tmp 3)⟩, ⟨(some 120), none, .load 1 false (.tmp 119)⟩, ⟨(some 121), none, .len false (.tmp 120)⟩, ⟨(some 122), none, .bin .gtr 3 (.tmp 121) (.const (.int .i64 4))⟩, ⟨(some 118), none, .mv (.tmp 122)⟩])
 (.cond (.tmp 118) (.seq (.reg [] [⟨(some 4), none, .mv (.const (.int .i64 6))⟩])
 .ret) .skip)))))
 (.seq (.reg [] [⟨(some 4), none, .mv (.const (.int .i64 0))⟩])
 .ret)))))))))))
theorem fn_waymarkref1_RightWant : FnOk Try.prog 38 Try.f38 sc_waymarkref1_RightWant [.tmp 4] 2 := ⟨Try.func38, by kernel_rfl, by kernel_rfl, by kernel_rfl, by kernel_rfl, by kernel_rfl, by kernel_rfl⟩

/- loop of waymark/waymarkref1.SameBools, wants [0, 1, 5] [] -/
def sc_waymarkref1_SameBools_L0 : SCode :=
 (.seq (.seq (.reg [0, 1, 5] [⟨(some 11), none, .mv (.tmp 5)⟩, ⟨(some 12), none, .mv (.tmp 0)⟩, ⟨(some 13), none, .len false (.tmp 12)⟩, ⟨(some 14), none, .bin .lss 3 (.tmp 11) (.tmp 13)⟩])
 (.cond (.tmp 14) .skip (.exit 0)))
 (.seq (.block 1 (.seq (.draw [0, 1, 5] [⟨(some 17), none, .mv (.tmp 0)⟩, ⟨(some 18), none, .mv (.tmp 5)⟩, ⟨(some 19), none, .ia none 1 (.tmp 17) (.tmp 18)⟩, ⟨(some 20), none, .load 1 false (.tmp 19)⟩, ⟨(some 21), none, .mv (.tmp 1)⟩, ⟨(some 22), none, .mv (.tmp 5)⟩, ⟨(some 23), none, .ia none 1 (.tmp 21) (.tmp 22)⟩, ⟨(some 24), none, .load 1 false (.tmp 23)⟩, ⟨(some 25), none, .beq true (.tmp 20) (.tmp 24)⟩])
 (.cond (.tmp 25) (.seq (.reg [] [⟨(some 4), none, .mv (.const (.bool false))⟩])
 .ret) .skip)))
 (.reg [0, 1, 5] [⟨(some 15), none, .mv (.tmp 5)⟩, ⟨(some 16), none, .bin .add 3 (.tmp 15) (.const (.int .i64 1))⟩, ⟨(some 5), none, .mv (.tmp 16)⟩])))
/- 39 waymark/waymarkref1.SameBools: slots 0 a, 1 b, 2 a, 3 b, 5 i -/
def sc_waymarkref1_SameBools : SCode :=
 (.seq (.reg [0, 1] [⟨(some 4), none, .mv (.const (.bool false))⟩])
 (.seq (.seq (.reg [0, 1] [⟨(some 6), none, .mv (.tmp 0)⟩, ⟨(some 7), none, .len false (.tmp 6)⟩, ⟨(some 8), none, .mv (.tmp 1)⟩, ⟨(some 9), none, .len false (.tmp 8)⟩, ⟨(some 10), none, .bin .neq 3 (.tmp 7) (.tmp 9)⟩])
 (.cond (.tmp 10) (.seq (.reg [] [⟨(some 4), none, .mv (.const (.bool false))⟩])
 .ret) .skip))
 (.seq (.seq (.reg [0, 1] [⟨(some 5), none, .mv (.const (.int .i64 0))⟩])
 (.block 0 (.loop [0, 1, 5] [] sc_waymarkref1_SameBools_L0)))
 (.seq (.reg [] [⟨(some 4), none, .mv (.const (.bool true))⟩])
 .ret))))
theorem fn_waymarkref1_SameBools : FnOk Try.prog 39 Try.f39 sc_waymarkref1_SameBools [.tmp 4] 2 := ⟨Try.func39, by kernel_rfl, by kernel_rfl, by kernel_rfl, by kernel_rfl, by kernel_rfl, by kernel_rfl⟩

/- loop of waymark/waymarkref1.Pruned, wants [2, 3, 4, 7, 8] [] -/
def sc_waymarkref1_Pruned_L0 : SCode :=
 (.seq (.seq (.reg [2, 3, 4, 7, 8] [⟨(some 18), none, .mv (.tmp 8)⟩, ⟨(some 19), none, .fld 1 (.tmp 3)⟩, ⟨(some 20), none, .load 1 false (.tmp 19)⟩, ⟨(some 21), none, .len false (.tmp 20)⟩, ⟨(some 22), none, .bin .lss 3 (.tmp 18) (.tmp 21)⟩])
 (.cond (.tmp 22) .skip (.exit 0)))
 (.seq (.block 1 (.seq (.reg [2, 3, 4, 7, 8] [⟨(some 25), none, .fld 1 (.tmp 3)⟩, ⟨(some 26), none, .load 1 false (.tmp 25)⟩, ⟨(some 27), none, .mv (.tmp 8)⟩, ⟨(some 28), none, .ia none 4 (.tmp 26) (.tmp 27)⟩, ⟨(some 29), none, .load 4 true (.tmp 28)⟩, ⟨(some 9), none, .alloc 41 [(.int .i64 0), (.int .i64 0), (.int .i64 0), (.int .i64 0)]⟩, ⟨none, none, .store 4 (.tmp 9) (.tmp 29)⟩])
 (.reg [2, 3, 4, 7, 8, 9] [⟨(some 30), none, .mv (.tmp 7)⟩, ⟨(some 31), none, .mv (.tmp 8)⟩, ⟨(some 32), none, .mv (.tmp 2)⟩, ⟨(some 33), none, .mv (.tmp 8)⟩, ⟨(some 34), none, .call 44 [(.tmp 32), (.tmp 33)]⟩, ⟨(some 35), none, .mv (.tmp 34)⟩, ⟨(some 36), (some (35, false)), .fld 5 (.tmp 4)⟩, ⟨(some 37), (some (35, false)), .load 1 false (.tmp 36)⟩, ⟨(some 38), (some (35, false)), .mv (.tmp 8)⟩, ⟨(some 39), (some (35, false)), .call 72 [(.tmp 37), (.tmp 38)]⟩, ⟨(some 40), none, .pick (.tmp 35) (.const (.bool true)) (.tmp 39)⟩, ⟨(some 41), none, .mv (.tmp 40)⟩, ⟨(some 42), (some (41, false)), .fld 6 (.tmp 4)⟩, ⟨(some 43), (some (41, false)), .load 1 false (.tmp 42)⟩, ⟨(some 44), (some (41, false)), .fld 3 (.tmp 9)⟩, ⟨(some 45), (some (41, false)), .load 1 false (.tmp 44)⟩, ⟨(some 46), (some (41, false)), .call 72 [(.tmp 43), (.tmp 45)]⟩, ⟨(some 47), none, .pick (.tmp 41) (.const (.bool true)) (.tmp 46)⟩, ⟨(some 48), none, .mv (.tmp 47)⟩, ⟨(some 49), (some (48, false)), .fld 4 (.tmp 4)⟩, ⟨(some 50), (some (48, false)), .load 1 false (.tmp 49)⟩, ⟨(some 51), (some (48, false)), .fld 0 (.tmp 9)⟩, ⟨(some 52), (some (48, false)), .load 1 false (.tmp 51)⟩, ⟨(some 53), (some (48, false)), .call 72 [(.tmp 50), (.tmp 52)]⟩, ⟨(some 54), none, .pick (.tmp 48) (.const (.bool true)) (.tmp 53)⟩, ⟨(some 55), none, .mv (.tmp 54)⟩, ⟨(some 56), (some (55, false)), .fld 4 (.tmp 4)⟩, ⟨(some 57), (some (55, false)), .load 1 false (.tmp 56)⟩, ⟨(some 58), (some (55, false)), .fld 1 (.tmp 9)⟩, ⟨(some 59), (some (55, false)), .load 1 false (.tmp 58)⟩, ⟨(some 60), (some (55, false)), .call 72 [(.tmp 57), (.tmp 59)]⟩, ⟨(some 61), none, .pick (.tmp 55) (.const (.bool true)) (.tmp 60)⟩, ⟨(some 62), none, .ia none 1 (.tmp 30) (.tmp 31)⟩, ⟨none, none, .store 1 (.tmp 62) (.tmp 61)⟩])))
 (.reg [2, 3, 4, 7, 8] [⟨(some 23), none, .mv (.tmp 8)⟩, ⟨(some 24), none, .bin .add 3 (.tmp 23) (.const (.int .i64 1))⟩, ⟨(some 8), none, .mv (.tmp 24)⟩])))
/- 41 waymark/waymarkref1.Pruned: slots 0 g, 1 w, 2 down, 3 g, 4 w, 5 down, 7 out, 8 i, 9 l -/
def sc_waymarkref1_Pruned : SCode :=
 (.seq (.reg [0, 1, 2] [⟨(some 3), none, .box 24 (.tmp 0)⟩, ⟨(some 4), none, .box 57 (.tmp 1)⟩, ⟨(some 6), none, .mv (.const (.slice none 0 0))⟩])
 (.seq (.seq (.reg [2, 3, 4] [⟨(some 10), none, .load 2 true (.tmp 3)⟩, ⟨(some 11), none, .load 7 true (.tmp 4)⟩, ⟨(some 12), none, .call 38 [(.tmp 10), (.tmp 11)]⟩, ⟨(some 13), none, .bin .neq 3 (.tmp 12) (.const (.int .i64 0))⟩])
 (.cond (.tmp 13) (.seq (.reg [] [⟨(some 6), none, .mv (.const (.slice none 0 0))⟩])
 .ret) .skip))
 (.seq (.reg [2, 3, 4] [⟨(some 14), none, .fld 1 (.tmp 3)⟩, ⟨(some 15), none, .load 1 false (.tmp 14)⟩, ⟨(some 16), none, .len false (.tmp 15)⟩, ⟨(some 17), none, .mksl 4 1 1 [(.bool false)] (.tmp 16) (.tmp 16)⟩, ⟨(some 7), none, .mv (.tmp 17)⟩])
 (.seq (.seq (.reg [2, 3, 4, 7] [⟨(some 8), none, .mv (.const (.int .i64 0))⟩])
 (.block 0 (.loop [2, 3, 4, 7, 8] [] sc_waymarkref1_Pruned_L0)))
 (.seq (.reg [7] [⟨(some 63), none, .mv (.tmp 7)⟩, ⟨(some 6), none, .mv (.tmp 63)⟩])
 .ret)))))
theorem fn_waymarkref1_Pruned : FnOk Try.prog 41 Try.f41 sc_waymarkref1_Pruned [.tmp 6] 3 := ⟨Try.func41, by kernel_rfl, by kernel_rfl, by kernel_rfl, by kernel_rfl, by kernel_rfl, by kernel_rfl⟩

/- 44 waymark/waymarkref1.IsDown: slots 0 down, 1 i, 2 down, 3 i -/
def sc_waymarkref1_IsDown : SCode :=
 (.seq (.reg [0, 1] [⟨(some 4), none, .mv (.const (.bool false))⟩])
 (.seq (.reg [0, 1] [⟨(some 5), none, .mv (.tmp 1)⟩, ⟨(some 6), none, .bin .geq 3 (.tmp 5) (.const (.int .i64 0))⟩, ⟨(some 7), none, .mv (.tmp 6)⟩, ⟨(some 8), (some (7, true)), .mv (.tmp 1)⟩, ⟨(some 9), (some (7, true)), .mv (.tmp 0)⟩, ⟨(some 10), (some (7, true)), .len false (.tmp 9)⟩, ⟨(some 11), (some (7, true)), .bin .lss 3 (.tmp 8) (.tmp 10)⟩, ⟨(some 12), none, .pick (.tmp 7) (.tmp 11) (.const (.bool false))⟩, ⟨(some 13), none, .mv (.tmp 12)⟩, ⟨(some 14), (some (13, true)), .mv (.tmp 0)⟩, ⟨(some 15), (some (13, true)), .mv (.tmp 1)⟩, ⟨(some 16), (some (13, true)), .ia none 1 (.tmp 14) (.tmp 15)⟩, ⟨(some 17), (some (13, true)), .load 1 false (.tmp 16)⟩, ⟨(some 18), none, .pick (.tmp 13) (.tmp 17) (.const (.bool false))⟩, ⟨(some 4), none, .mv (.tmp 18)⟩])
 .ret))
theorem fn_waymarkref1_IsDown : FnOk Try.prog 44 Try.f44 sc_waymarkref1_IsDown [.tmp 4] 2 := ⟨Try.func44, by kernel_rfl, by kernel_rfl, by kernel_rfl, by kernel_rfl, by kernel_rfl, by kernel_rfl⟩

/- loop of waymark/waymarkref1.Next, wants [1, 2, 3, 4, 11, 12, 13] [(11, 106, 3, 1)] -/
def sc_waymarkref1_Next_L0 : SCode :=
 (.seq (.seq (.reg [1, 2, 3, 4, 11, 12, 13] [⟨(some 47), none, .mv (.tmp 13)⟩, ⟨(some 48), none, .mv (.tmp 12)⟩, ⟨(some 49), none, .len false (.tmp 48)⟩, ⟨(some 50), none, .bin .lss 3 (.tmp 47) (.tmp 49)⟩])
 (.cond (.tmp 50) .skip (.exit 0)))
 (.seq (.block 1 (.seq (.draw [1, 2, 3, 4, 11, 12, 13] [⟨(some 54), none, .load 2 true (.tmp 4)⟩, ⟨(some 55), none, .mv (.tmp 12)⟩, ⟨(some 56), none, .mv (.tmp 13)⟩, ⟨(some 57), none, .ia none 1 (.tmp 55) (.tmp 56)⟩, ⟨(some 58), none, .load 1 false (.tmp 57)⟩, ⟨(some 59), none, .call 23 [(.tmp 54), (.tmp 58)]⟩, ⟨(some 53), none, .mv (.tmp 59)⟩, ⟨(some 60), none, .ext (.tmp 53) 0⟩, ⟨(some 61), none, .ext (.tmp 53) 1⟩, ⟨(some 62), none, .ext (.tmp 53) 2⟩, ⟨(some 14), none, .mv (.tmp 60)⟩, ⟨(some 15), none, .mv (.tmp 61)⟩, ⟨(some 16), none, .mv (.tmp 62)⟩])
 (.seq (.draw [1, 2, 3, 4, 11, 12, 13, 15] [⟨(some 63), none, .mv (.tmp 1)⟩, ⟨(some 64), none, .mv (.tmp 12)⟩, ⟨(some 65), none, .mv (.tmp 13)⟩, ⟨(some 66), none, .ia none 1 (.tmp 64) (.tmp 65)⟩, ⟨(some 67), none, .load 1 false (.tmp 66)⟩, ⟨(some 68), none, .bin .quo 3 (.tmp 67) (.const (.int .i64 2))⟩, ⟨(some 69), none, .call 44 [(.tmp 63), (.tmp 68)]⟩, ⟨(some 70), none, .un .not (.tmp 69)⟩, ⟨(some 71), none, .mv (.tmp 70)⟩, ⟨(some 72), (some (71, true)), .mv (.tmp 2)⟩, ⟨(some 73), (some (71, true)), .mv (.tmp 15)⟩, ⟨(some 74), (some (71, true)), .ia none 1 (.tmp 72) (.tmp 73)⟩, ⟨(some 75), (some (71, true)), .load 1 false (.tmp 74)⟩, ⟨(some 76), (some (71, true)), .bin .geq 3 (.tmp 75) (.const (.int .i64 0))⟩, ⟨(some 77), none, .pick (.tmp 71) (.tmp 76) (.const (.bool false))⟩, ⟨(some 78), none, .mv (.tmp 77)⟩, ⟨(some 79), (some (78, true)), .mv (.tmp 2)⟩, ⟨(some 80), (some (78, true)), .mv (.tmp 3)⟩, ⟨(some 81), (some (78, true)), .ia none 1 (.tmp 79) (.tmp 80)⟩, ⟨(some 82), (some (78, true)), .load 1 false (.tmp 81)⟩, ⟨(some 83), (some (78, true)), .mv (.tmp 2)⟩, ⟨(some 84), (some (78, true)), .mv (.tmp 15)⟩, ⟨(some 85), (some (78, true)), .ia none 1 (.tmp 83) (.tmp 84)⟩, ⟨(some 86), (some (78, true)), .load 1 false (.tmp 85)⟩, ⟨(some 87), (some (78, true)), .bin .sub 3 (.tmp 82) (.tmp 86)⟩, ⟨(some 88), (some (78, true)), .fld 1 (.tmp 4)⟩, ⟨(some 89), (some (78, true)), .load 1 false (.tmp 88)⟩, ⟨(some 90), (some (78, true)), .mv (.tmp 12)⟩, ⟨(some 91), (some (78, true)), .mv (.tmp 13)⟩, ⟨(some 92), (some (78, true)), .ia none 1 (.tmp 90) (.tmp 91)⟩, ⟨(some 93), (some (78, true)), .load 1 false (.tmp 92)⟩, ⟨(some 94), (some (78, true)), .bin .quo 3 (.tmp 93) (.const (.int .i64 2))⟩, ⟨(some 95), (some (78, true)), .ia none 4 (.tmp 89) (.tmp 94)⟩, ⟨(some 96), (some (78, true)), .fld 2 (.tmp 95)⟩, ⟨(some 97), (some (78, true)), .load 1 false (.tmp 96)⟩, ⟨(some 98), (some (78, true)), .bin .eql 3 (.tmp 87) (.tmp 97)⟩, ⟨(some 99), none, .pick (.tmp 78) (.tmp 98) (.const (.bool false))⟩])
 (.cond (.tmp 99) (.reg [1, 2, 3, 4, 11, 12, 13] [⟨(some 100), none, .mv (.tmp 11)⟩, ⟨(some 101), none, .mv (.tmp 12)⟩, ⟨(some 102), none, .mv (.tmp 13)⟩, ⟨(some 103), none, .ia none 1 (.tmp 101) (.tmp 102)⟩, ⟨(some 104), none, .load 1 false (.tmp 103)⟩, ⟨(some 105), none, .bsl 3 1 [(.int .i64 0)] 1 [(0, 1, (.tmp 104))]⟩, ⟨(some 106), none, .app 35 3 1 8 (.int .i64 0) (.tmp 100) (.tmp 105)⟩, ⟨(some 11), none, .mv (.tmp 106)⟩]) .skip))))
 (.reg [1, 2, 3, 4, 11, 12, 13] [⟨(some 51), none, .mv (.tmp 13)⟩, ⟨(some 52), none, .bin .add 3 (.tmp 51) (.const (.int .i64 1))⟩, ⟨(some 13), none, .mv (.tmp 52)⟩])))
/- 47 waymark/waymarkref1.Next: slots 0 g, 1 down, 2 to, 3 node, 4 g, 5 down, 6 to, 7 node, 9 _, 10 e, 11 out, 12 l, 13 i, 14 _, 15 b, 16 _ -/
def sc_waymarkref1_Next : SCode :=
 (.seq (.reg [0, 1, 2, 3] [⟨(some 4), none, .box 24 (.tmp 0)⟩, ⟨(some 8), none, .mv (.const (.slice none 0 0))⟩])
 (.seq (.reg [1, 2, 3, 4] [⟨(some 18), none, .load 2 true (.tmp 4)⟩, ⟨(some 19), none, .call 21 [(.tmp 18)]⟩, ⟨(some 17), none, .mv (.tmp 19)⟩, ⟨(some 20), none, .ext (.tmp 17) 0⟩, ⟨(some 21), none, .ext (.tmp 17) 1⟩, ⟨(some 9), none, .mv (.tmp 20)⟩, ⟨(some 10), none, .mv (.tmp 21)⟩])
 (.seq (.seq (.reg [1, 2, 3, 4, 10] [⟨(some 22), none, .mv (.tmp 10)⟩, ⟨(some 23), none, .bin .neq 3 (.tmp 22) (.const (.int .i64 0))⟩, ⟨(some 24), none, .mv (.tmp 23)⟩, ⟨(some 25), (some (24, false)), .mv (.tmp 2)⟩, ⟨(some 26), (some (24, false)), .len false (.tmp 25)⟩, ⟨(some 27), (some (24, false)), .fld 0 (.tmp 4)⟩, ⟨(some 28), (some (24, false)), .load 1 false (.tmp 27)⟩, ⟨(some 29), (some (24, false)), .bin .neq 3 (.tmp 26) (.tmp 28)⟩, ⟨(some 30), none, .pick (.tmp 24) (.const (.bool true)) (.tmp 29)⟩, ⟨(some 31), none, .mv (.tmp 30)⟩, ⟨(some 32), (some (31, false)), .load 2 true (.tmp 4)⟩, ⟨(some 33), (some (31, false)), .mv (.tmp 3)⟩, ⟨(some 34), (some (31, false)), .call 70 [(.tmp 32), (.tmp 33)]⟩, ⟨(some 35), (some (31, false)), .un .not (.tmp 34)⟩, ⟨(some 36), none, .pick (.tmp 31) (.const (.bool true)) (.tmp 35)⟩, ⟨(some 37), none, .mv (.tmp 36)⟩, ⟨(some 38), (some (37, false)), .mv (.tmp 2)⟩, ⟨(some 39), (some (37, false)), .mv (.tmp 3)⟩, ⟨(some 40), (some (37, false)), .ia none 1 (.tmp 38) (.tmp 39)⟩, ⟨(some 41), (some (37, false)), .load 1 false (.tmp 40)⟩, ⟨(some 42), (some (37, false)), .bin .leq 3 (.tmp 41) (.const (.int .i64 0))⟩, ⟨(some 43), none, .pick (.tmp 37) (.const (.bool true)) (.tmp 42)⟩])
 (.cond (.tmp 43) (.seq (.reg [] [⟨(some 8), none, .mv (.const (.slice none 0 0))⟩])
 .ret) .skip))
 (.seq (.reg [1, 2, 3, 4] [⟨(some 11), none, .mv (.const (.slice none 0 0))⟩])
 (.seq (.reg [1, 2, 3, 4, 11] [⟨(some 44), none, .load 2 true (.tmp 4)⟩, ⟨(some 45), none, .mv (.tmp 3)⟩, ⟨(some 46), none, .call 27 [(.tmp 44), (.tmp 45)]⟩, ⟨(some 12), none, .mv (.tmp 46)⟩])
 (.seq (.seq (.reg [1, 2, 3, 4, 11, 12] [⟨(some 13), none, .mv (.const (.int .i64 0))⟩])
 (.block 0 (.loop [1, 2, 3, 4, 11, 12, 13] [(11, 106, 3, 1)] sc_waymarkref1_Next_L0)))
 (.seq (.reg [11] [⟨(some 107), none, .mv (.tmp 11)⟩, ⟨(some 8), none, .mv (.tmp 107)⟩])
 .ret)))))))
theorem fn_waymarkref1_Next : FnOk Try.prog 47 Try.f47 sc_waymarkref1_Next [.tmp 8] 4 := ⟨Try.func47, by kernel_rfl, by kernel_rfl, by kernel_rfl, by kernel_rfl, by kernel_rfl, by kernel_rfl⟩

/- loop of waymark/waymarkref1.From, wants [1, 3, 9, 11, 12] [] -/
def sc_waymarkref1_From_L0 : SCode :=
 (.seq (.seq (.reg [1, 3, 9, 11, 12] [⟨(some 46), none, .mv (.tmp 12)⟩, ⟨(some 47), none, .fld 1 (.tmp 3)⟩, ⟨(some 48), none, .load 1 false (.tmp 47)⟩, ⟨(some 49), none, .len false (.tmp 48)⟩, ⟨(some 50), none, .bin .mul 3 (.const (.int .i64 2)) (.tmp 49)⟩, ⟨(some 51), none, .bin .lss 3 (.tmp 46) (.tmp 50)⟩])
 (.cond (.tmp 51) .skip (.exit 4)))
 (.seq (.block 5 (.seq (.reg [1, 3, 9, 11, 12] [⟨(some 55), none, .load 2 true (.tmp 3)⟩, ⟨(some 56), none, .mv (.tmp 12)⟩, ⟨(some 57), none, .call 23 [(.tmp 55), (.tmp 56)]⟩, ⟨(some 54), none, .mv (.tmp 57)⟩, ⟨(some 58), none, .ext (.tmp 54) 0⟩, ⟨(some 59), none, .ext (.tmp 54) 1⟩, ⟨(some 60), none, .ext (.tmp 54) 2⟩, ⟨(some 13), none, .mv (.tmp 58)⟩, ⟨(some 14), none, .mv (.tmp 59)⟩, ⟨(some 15), none, .mv (.tmp 60)⟩])
 (.seq (.draw [1, 3, 9, 11, 12, 13, 14] [⟨(some 61), none, .mv (.tmp 9)⟩, ⟨(some 62), none, .mv (.tmp 13)⟩, ⟨(some 63), none, .ia none 1 (.tmp 61) (.tmp 62)⟩, ⟨(some 64), none, .load 1 false (.tmp 63)⟩, ⟨(some 65), none, .fld 1 (.tmp 3)⟩, ⟨(some 66), none, .load 1 false (.tmp 65)⟩, ⟨(some 67), none, .mv (.tmp 12)⟩, ⟨(some 68), none, .bin .quo 3 (.tmp 67) (.const (.int .i64 2))⟩, ⟨(some 69), none, .ia none 4 (.tmp 66) (.tmp 68)⟩, ⟨(some 70), none, .fld 2 (.tmp 69)⟩, ⟨(some 71), none, .load 1 false (.tmp 70)⟩, ⟨(some 72), none, .bin .add 3 (.tmp 64) (.tmp 71)⟩, ⟨(some 16), none, .mv (.tmp 72)⟩])
 (.seq (.reg [1, 3, 9, 11, 12, 13, 14, 16] [⟨(some 73), none, .mv (.tmp 9)⟩, ⟨(some 74), none, .mv (.tmp 13)⟩, ⟨(some 75), none, .ia none 1 (.tmp 73) (.tmp 74)⟩, ⟨(some 76), none, .load 1 false (.tmp 75)⟩, ⟨(some 77), none, .bin .geq 3 (.tmp 76) (.const (.int .i64 0))⟩, ⟨(some 78), none, .mv (.tmp 77)⟩, ⟨(some 79), (some (78, true)), .mv (.tmp 1)⟩, ⟨(some 80), (some (78, true)), .mv (.tmp 12)⟩, ⟨(some 81), (some (78, true)), .bin .quo 3 (.tmp 80) (.const (.int .i64 2))⟩, ⟨(some 82), (some (78, true)), .call 44 [(.tmp 79), (.tmp 81)]⟩, ⟨(some 83), (some (78, true)), .un .not (.tmp 82)⟩, ⟨(some 84), none, .pick (.tmp 78) (.tmp 83) (.const (.bool false))⟩, ⟨(some 85), none, .mv (.tmp 84)⟩, ⟨(some 86), (some (85, true)), .mv (.tmp 9)⟩, ⟨(some 87), (some (85, true)), .mv (.tmp 14)⟩, ⟨(some 88), (some (85, true)), .ia none 1 (.tmp 86) (.tmp 87)⟩, ⟨(some 89), (some (85, true)), .load 1 false (.tmp 88)⟩, ⟨(some 90), (some (85, true)), .bin .lss 3 (.tmp 89) (.const (.int .i64 0))⟩, ⟨(some 91), (some (85, true)), .mv (.tmp 90)⟩, ⟨(some 92), (some (91, false)), .mv (.tmp 16)⟩, ⟨(some 93), (some (91, false)), .mv (.tmp 9)⟩, ⟨(some 94), (some (91, false)), .mv (.tmp 14)⟩, ⟨(some 95), (some (91, false)), .ia none 1 (.tmp 93) (.tmp 94)⟩, ⟨(some 96), (some (91, false)), .load 1 false (.tmp 95)⟩, ⟨(some 97), (some (91, false)), .bin .lss 3 (.tmp 92) (.tmp 96)⟩, ⟨(some 98), (some (85, true)), .pick (.tmp 91) (.const (.bool true)) (.tmp 97)⟩, ⟨(some 99), none, .pick (.tmp 85) (.tmp 98) (.const (.bool false))⟩])
 (.cond (.tmp 99) (.seq (.reg [1, 3, 9, 12, 14, 16] [⟨(some 100), none, .mv (.tmp 9)⟩, ⟨(some 101), none, .mv (.tmp 14)⟩, ⟨(some 102), none, .mv (.tmp 16)⟩, ⟨(some 103), none, .ia none 1 (.tmp 100) (.tmp 101)⟩, ⟨none, none, .store 1 (.tmp 103) (.tmp 102)⟩])
 (.reg [1, 3, 9, 12] [⟨(some 11), none, .mv (.const (.bool true))⟩])) .skip)))))
 (.reg [1, 3, 9, 11, 12] [⟨(some 52), none, .mv (.tmp 12)⟩, ⟨(some 53), none, .bin .add 3 (.tmp 52) (.const (.int .i64 1))⟩, ⟨(some 12), none, .mv (.tmp 53)⟩])))
/- loop of waymark/waymarkref1.From, wants [1, 3, 9, 11] [] -/
def sc_waymarkref1_From_L1 : SCode :=
 (.seq (.seq (.reg [1, 3, 9, 11] [⟨(some 45), none, .mv (.tmp 11)⟩])
 (.cond (.tmp 45) .skip (.exit 2)))
 (.block 3 (.seq (.reg [1, 3, 9] [⟨(some 11), none, .mv (.const (.bool false))⟩])
 (.seq (.reg [1, 3, 9, 11] [⟨(some 12), none, .mv (.const (.int .i64 0))⟩])
 (.block 4 (.loop [1, 3, 9, 11, 12] [] sc_waymarkref1_From_L0))))))
/- loop of waymark/waymarkref1.From, wants [1, 2, 3, 9, 10] [] -/
def sc_waymarkref1_From_L2 : SCode :=
 (.seq (.seq (.reg [1, 2, 3, 9, 10] [⟨(some 33), none, .mv (.tmp 10)⟩, ⟨(some 34), none, .fld 0 (.tmp 3)⟩, ⟨(some 35), none, .load 1 false (.tmp 34)⟩, ⟨(some 36), none, .bin .lss 3 (.tmp 33) (.tmp 35)⟩])
 (.cond (.tmp 36) .skip (.exit 0)))
 (.seq (.block 1 (.reg [1, 2, 3, 9, 10] [⟨(some 39), none, .mv (.tmp 9)⟩, ⟨(some 40), none, .mv (.tmp 10)⟩, ⟨(some 41), none, .ia none 1 (.tmp 39) (.tmp 40)⟩, ⟨none, none, .store 1 (.tmp 41) (.const (.int .i64 (-1)))⟩]))
 (.reg [1, 2, 3, 9, 10] [⟨(some 37), none, .mv (.tmp 10)⟩, ⟨(some 38), none, .bin .add 3 (.tmp 37) (.const (.int .i64 1))⟩, ⟨(some 10), none, .mv (.tmp 38)⟩])))
/- 48 waymark/waymarkref1.From: slots 0 g, 1 down, 2 node, 3 g, 4 down, 5 node, 7 _, 8 e, 9 d, 10 i, 11 more, 12 k, 13 a, 14 b, 15 _, 16 n -/
def sc_waymarkref1_From : SCode :=
 (.seq (.reg [0, 1, 2] [⟨(some 3), none, .box 24 (.tmp 0)⟩, ⟨(some 6), none, .mv (.const (.slice none 0 0))⟩])
 (.seq (.reg [1, 2, 3] [⟨(some 18), none, .load 2 true (.tmp 3)⟩, ⟨(some 19), none, .call 21 [(.tmp 18)]⟩, ⟨(some 17), none, .mv (.tmp 19)⟩, ⟨(some 20), none, .ext (.tmp 17) 0⟩, ⟨(some 21), none, .ext (.tmp 17) 1⟩, ⟨(some 7), none, .mv (.tmp 20)⟩, ⟨(some 8), none, .mv (.tmp 21)⟩])
 (.seq (.seq (.reg [1, 2, 3, 8] [⟨(some 22), none, .mv (.tmp 8)⟩, ⟨(some 23), none, .bin .neq 3 (.tmp 22) (.const (.int .i64 0))⟩, ⟨(some 24), none, .mv (.tmp 23)⟩, ⟨(some 25), (some (24, false)), .load 2 true (.tmp 3)⟩, ⟨(some 26), (some (24, false)), .mv (.tmp 2)⟩, ⟨(some 27), (some (24, false)), .call 70 [(.tmp 25), (.tmp 26)]⟩, ⟨(some 28), (some (24, false)), .un .not (.tmp 27)⟩, ⟨(some 29), none, .pick (.tmp 24) (.const (.bool true)) (.tmp 28)⟩])
 (.cond (.tmp 29) (.seq (.reg [] [⟨(some 6), none, .mv (.const (.slice none 0 0))⟩])
 .ret) .skip))
 (.seq (.reg [1, 2, 3] [⟨(some 30), none, .fld 0 (.tmp 3)⟩, ⟨(some 31), none, .load 1 false (.tmp 30)⟩, ⟨(some 32), none, .mksl 3 1 8 [(.int .i64 0)] (.tmp 31) (.tmp 31)⟩, ⟨(some 9), none, .mv (.tmp 32)⟩])
 (.seq (.seq (.reg [1, 2, 3, 9] [⟨(some 10), none, .mv (.const (.int .i64 0))⟩])
 (.block 0 (.loop [1, 2, 3, 9, 10] [] sc_waymarkref1_From_L2)))
 (.seq (.reg [1, 2, 3, 9] [⟨(some 42), none, .mv (.tmp 9)⟩, ⟨(some 43), none, .mv (.tmp 2)⟩, ⟨(some 44), none, .ia none 1 (.tmp 42) (.tmp 43)⟩, ⟨none, none, .store 1 (.tmp 44) (.const (.int .i64 0))⟩])
 (.seq (.seq (.reg [1, 3, 9] [⟨(some 11), none, .mv (.const (.bool true))⟩])
 (.block 2 (.loop [1, 3, 9, 11] [] sc_waymarkref1_From_L1)))
 (.seq (.reg [9] [⟨(some 104), none, .mv (.tmp 9)⟩, ⟨(some 6), none, .mv (.tmp 104)⟩])
 .ret))))))))
theorem fn_waymarkref1_From : FnOk Try.prog 48 Try.f48 sc_waymarkref1_From [.tmp 6] 3 := ⟨Try.func48, by kernel_rfl, by kernel_rfl, by kernel_rfl, by kernel_rfl, by kernel_rfl, by kernel_rfl⟩

/- loop of waymark/waymarkref1.NewTables, wants [1, 6, 7] [] -/
def sc_waymarkref1_NewTables_L0 : SCode :=
 (.seq (.seq (.reg [1, 6, 7] [⟨(some 20), none, .mv (.tmp 7)⟩, ⟨(some 21), none, .fld 0 (.tmp 1)⟩, ⟨(some 22), none, .load 1 false (.tmp 21)⟩, ⟨(some 23), none, .bin .lss 3 (.tmp 20) (.tmp 22)⟩])
 (.cond (.tmp 23) .skip (.exit 0)))
 (.seq (.block 1 (.draw [1, 6, 7] [⟨(some 26), none, .mv (.tmp 6)⟩, ⟨(some 27), none, .mv (.tmp 6)⟩, ⟨(some 28), none, .nilc (.tmp 27)⟩, ⟨(some 29), none, .fld 2 (.tmp 28)⟩, ⟨(some 30), none, .hp (.load 1 false (.tmp 29))⟩, ⟨(some 31), none, .load 2 true (.tmp 1)⟩, ⟨(some 32), none, .mv (.tmp 7)⟩, ⟨(some 33), none, .call 48 [(.tmp 31), (.const (.slice none 0 0)), (.tmp 32)]⟩, ⟨(some 34), none, .bsl 35 1 [(.slice none 0 0)] 1 [(0, 1, (.tmp 33))]⟩, ⟨(some 35), none, .hp (.app 94 35 1 24 (.slice none 0 0) (.tmp 30) (.tmp 34))⟩, ⟨(some 36), none, .nilc (.tmp 26)⟩, ⟨(some 37), none, .fld 2 (.tmp 36)⟩, ⟨none, none, .store 1 (.tmp 37) (.tmp 35)⟩]))
 (.reg [1, 6, 7] [⟨(some 24), none, .mv (.tmp 7)⟩, ⟨(some 25), none, .bin .add 3 (.tmp 24) (.const (.int .i64 1))⟩, ⟨(some 7), none, .mv (.tmp 25)⟩])))
/- 54 waymark/waymarkref1.NewTables: slots 0 g, 1 g, 4 _, 5 e, 6 t, 7 i -/
def sc_waymarkref1_NewTables : SCode :=
 (.seq (.reg [0] [⟨(some 1), none, .box 24 (.tmp 0)⟩, ⟨(some 2), none, .mv (.const (.pointer none))⟩, ⟨(some 3), none, .mv (.const (.int .i64 0))⟩])
 (.seq (.reg [1] [⟨(some 9), none, .load 2 true (.tmp 1)⟩, ⟨(some 10), none, .call 21 [(.tmp 9)]⟩, ⟨(some 8), none, .mv (.tmp 10)⟩, ⟨(some 11), none, .ext (.tmp 8) 0⟩, ⟨(some 12), none, .ext (.tmp 8) 1⟩, ⟨(some 4), none, .mv (.tmp 11)⟩, ⟨(some 5), none, .mv (.tmp 12)⟩])
 (.seq (.seq (.reg [1, 5] [⟨(some 13), none, .mv (.tmp 5)⟩, ⟨(some 14), none, .bin .neq 3 (.tmp 13) (.const (.int .i64 0))⟩])
 (.cond (.tmp 14) (.seq (.reg [5] [⟨(some 15), none, .mv (.tmp 5)⟩, ⟨(some 2), none, .mv (.const (.pointer none))⟩, ⟨(some 3), none, .mv (.tmp 15)⟩])
 .ret) .skip))
 (.seq (.reg [1] [⟨(some 16), none, .load 2 true (.tmp 1)⟩, ⟨(some 17), none, .call 80 [(.tmp 16)]⟩, ⟨(some 18), none, .build [(.int .i64 0), (.slice none 0 0), (.slice none 0 0)] [(0, 2, (.tmp 17))]⟩, ⟨(some 19), none, .hp (.box 101 (.tmp 18))⟩, ⟨(some 6), none, .mv (.tmp 19)⟩])
 (.seq (.seq (.reg [1, 6] [⟨(some 7), none, .mv (.const (.int .i64 0))⟩])
 (.block 0 (.loop [1, 6, 7] [] sc_waymarkref1_NewTables_L0)))
 (.seq (.reg [6] [⟨(some 38), none, .mv (.tmp 6)⟩, ⟨(some 2), none, .mv (.tmp 38)⟩, ⟨(some 3), none, .mv (.const (.int .i64 0))⟩])
 .ret))))))
theorem fn_waymarkref1_NewTables : FnOk Try.prog 54 Try.f54 sc_waymarkref1_NewTables [.tmp 2, .tmp 3] 1 := ⟨Try.func54, by kernel_rfl, by kernel_rfl, by kernel_rfl, by kernel_rfl, by kernel_rfl, by kernel_rfl⟩

/- 56 (*waymark/waymarkref1.Tables).Dist: slots 0 t, 1 from, 2 to, 3 t, 4 from, 5 to -/
def sc_waymarkref1_Tables_Dist : SCode :=
 (.seq (.reg [0, 1, 2] [⟨(some 6), none, .mv (.const (.int .i64 0))⟩])
 (.seq (.seq (.reg [0, 1, 2] [⟨(some 7), none, .mv (.tmp 0)⟩, ⟨(some 8), none, .nilc (.tmp 7)⟩, ⟨(some 9), none, .fld 0 (.tmp 8)⟩, ⟨(some 10), none, .load 2 true (.tmp 9)⟩, ⟨(some 11), none, .mv (.tmp 1)⟩, ⟨(some 12), none, .call 70 [(.tmp 10), (.tmp 11)]⟩, ⟨(some 13), none, .un .not (.tmp 12)⟩, ⟨(some 14), none, .mv (.tmp 13)⟩, ⟨(some 15), (some (14, false)), .mv (.tmp 0)⟩, ⟨(some 16), (some (14, false)), .nilc (.tmp 15)⟩, ⟨(some 17), (some (14, false)), .fld 0 (.tmp 16)⟩, ⟨(some 18), (some (14, false)), .load 2 true (.tmp 17)⟩, ⟨(some 19), (some (14, false)), .mv (.tmp 2)⟩, ⟨(some 20), (some (14, false)), .call 70 [(.tmp 18), (.tmp 19)]⟩, ⟨(some 21), (some (14, false)), .un .not (.tmp 20)⟩, ⟨(some 22), none, .pick (.tmp 14) (.const (.bool true)) (.tmp 21)⟩])
 (.cond (.tmp 22) (.seq (.reg [] [⟨(some 6), none, .mv (.const (.int .i64 (-1)))⟩])
 .ret) .skip))
 (.seq (.reg [0, 1, 2] [⟨(some 23), none, .mv (.tmp 0)⟩, ⟨(some 24), none, .nilc (.tmp 23)⟩, ⟨(some 25), none, .fld 2 (.tmp 24)⟩, ⟨(some 26), none, .load 1 false (.tmp 25)⟩, ⟨(some 27), none, .mv (.tmp 1)⟩, ⟨(some 28), none, .ia none 1 (.tmp 26) (.tmp 27)⟩, ⟨(some 29), none, .load 1 false (.tmp 28)⟩, ⟨(some 30), none, .mv (.tmp 2)⟩, ⟨(some 31), none, .ia none 1 (.tmp 29) (.tmp 30)⟩, ⟨(some 32), none, .load 1 false (.tmp 31)⟩, ⟨(some 6), none, .mv (.tmp 32)⟩])
 .ret)))
theorem fn_waymarkref1_Tables_Dist : FnOk Try.prog 56 Try.f56 sc_waymarkref1_Tables_Dist [.tmp 6] 3 := ⟨Try.func56, by kernel_rfl, by kernel_rfl, by kernel_rfl, by kernel_rfl, by kernel_rfl, by kernel_rfl⟩

/- 57 (*waymark/waymarkref1.Tables).Next: slots 0 t, 1 from, 2 to, 3 t, 4 from, 5 to -/
def sc_waymarkref1_Tables_Next : SCode :=
 (.seq (.reg [0, 1, 2] [⟨(some 6), none, .mv (.const (.slice none 0 0))⟩])
 (.seq (.seq (.reg [0, 1, 2] [⟨(some 7), none, .mv (.tmp 0)⟩, ⟨(some 8), none, .nilc (.tmp 7)⟩, ⟨(some 9), none, .fld 0 (.tmp 8)⟩, ⟨(some 10), none, .load 2 true (.tmp 9)⟩, ⟨(some 11), none, .mv (.tmp 1)⟩, ⟨(some 12), none, .call 70 [(.tmp 10), (.tmp 11)]⟩, ⟨(some 13), none, .un .not (.tmp 12)⟩, ⟨(some 14), none, .mv (.tmp 13)⟩, ⟨(some 15), (some (14, false)), .mv (.tmp 0)⟩, ⟨(some 16), (some (14, false)), .nilc (.tmp 15)⟩, ⟨(some 17), (some (14, false)), .fld 0 (.tmp 16)⟩, ⟨(some 18), (some (14, false)), .load 2 true (.tmp 17)⟩, ⟨(some 19), (some (14, false)), .mv (.tmp 2)⟩, ⟨(some 20), (some (14, false)), .call 70 [(.tmp 18), (.tmp 19)]⟩, ⟨(some 21), (some (14, false)), .un .not (.tmp 20)⟩, ⟨(some 22), none, .pick (.tmp 14) (.const (.bool true)) (.tmp 21)⟩])
 (.cond (.tmp 22) (.seq (.reg [] [⟨(some 6), none, .mv (.const (.slice none 0 0))⟩])
 .ret) .skip))
 (.seq (.draw [0, 1, 2] [⟨(some 23), none, .mv (.tmp 0)⟩, ⟨(some 24), none, .nilc (.tmp 23)⟩, ⟨(some 25), none, .fld 0 (.tmp 24)⟩, ⟨(some 26), none, .load 2 true (.tmp 25)⟩, ⟨(some 27), none, .mv (.tmp 0)⟩, ⟨(some 28), none, .nilc (.tmp 27)⟩, ⟨(some 29), none, .fld 2 (.tmp 28)⟩, ⟨(some 30), none, .load 1 false (.tmp 29)⟩, ⟨(some 31), none, .mv (.tmp 2)⟩, ⟨(some 32), none, .ia none 1 (.tmp 30) (.tmp 31)⟩, ⟨(some 33), none, .load 1 false (.tmp 32)⟩, ⟨(some 34), none, .mv (.tmp 1)⟩, ⟨(some 35), none, .call 47 [(.tmp 26), (.const (.slice none 0 0)), (.tmp 33), (.tmp 34)]⟩, ⟨(some 6), none, .mv (.tmp 35)⟩])
 .ret)))
theorem fn_waymarkref1_Tables_Next : FnOk Try.prog 57 Try.f57 sc_waymarkref1_Tables_Next [.tmp 6] 3 := ⟨Try.func57, by kernel_rfl, by kernel_rfl, by kernel_rfl, by kernel_rfl, by kernel_rfl, by kernel_rfl⟩

/- 70 waymark/waymarkref1.Node: slots 0 g, 1 n, 2 g, 3 n -/
def sc_waymarkref1_Node : SCode :=
 (.seq (.reg [0, 1] [⟨(some 2), none, .box 24 (.tmp 0)⟩, ⟨(some 4), none, .mv (.const (.bool false))⟩])
 (.seq (.reg [1, 2] [⟨(some 5), none, .mv (.tmp 1)⟩, ⟨(some 6), none, .bin .geq 3 (.tmp 5) (.const (.int .i64 0))⟩, ⟨(some 7), none, .mv (.tmp 6)⟩, ⟨(some 8), (some (7, true)), .mv (.tmp 1)⟩, ⟨(some 9), (some (7, true)), .fld 0 (.tmp 2)⟩, ⟨(some 10), (some (7, true)), .load 1 false (.tmp 9)⟩, ⟨(some 11), (some (7, true)), .bin .lss 3 (.tmp 8) (.tmp 10)⟩, ⟨(some 12), none, .pick (.tmp 7) (.tmp 11) (.const (.bool false))⟩, ⟨(some 4), none, .mv (.tmp 12)⟩])
 .ret))
theorem fn_waymarkref1_Node : FnOk Try.prog 70 Try.f70 sc_waymarkref1_Node [.tmp 4] 2 := ⟨Try.func70, by kernel_rfl, by kernel_rfl, by kernel_rfl, by kernel_rfl, by kernel_rfl, by kernel_rfl⟩

/- loop of waymark/waymarkref1.has, wants [0, 1, 5] [] -/
def sc_waymarkref1_has_L0 : SCode :=
 (.seq (.seq (.reg [0, 1, 5] [⟨(some 6), none, .mv (.tmp 5)⟩, ⟨(some 7), none, .mv (.tmp 0)⟩, ⟨(some 8), none, .len false (.tmp 7)⟩, ⟨(some 9), none, .bin .lss 3 (.tmp 6) (.tmp 8)⟩])
 (.cond (.tmp 9) .skip (.exit 0)))
 (.seq (.block 1 (.seq (.reg [0, 1, 5] [⟨(some 12), none, .mv (.tmp 0)⟩, ⟨(some 13), none, .mv (.tmp 5)⟩, ⟨(some 14), none, .ia none 1 (.tmp 12) (.tmp 13)⟩, ⟨(some 15), none, .load 1 false (.tmp 14)⟩, ⟨(some 16), none, .mv (.tmp 1)⟩, ⟨(some 17), none, .bin .eql 3 (.tmp 15) (.tmp 16)⟩])
 (.cond (.tmp 17) (.seq (.reg [] [⟨(some 4), none, .mv (.const (.bool true))⟩])
 .ret) .skip)))
 (.reg [0, 1, 5] [⟨(some 10), none, .mv (.tmp 5)⟩, ⟨(some 11), none, .bin .add 3 (.tmp 10) (.const (.int .i64 1))⟩, ⟨(some 5), none, .mv (.tmp 11)⟩])))
/- 72 waymark/waymarkref1.has: slots 0 l, 1 n, 2 l, 3 n, 5 i -/
def sc_waymarkref1_has : SCode :=
 (.seq (.reg [0, 1] [⟨(some 4), none, .mv (.const (.bool false))⟩])
 (.seq (.seq (.reg [0, 1] [⟨(some 5), none, .mv (.const (.int .i64 0))⟩])
 (.block 0 (.loop [0, 1, 5] [] sc_waymarkref1_has_L0)))
 (.seq (.reg [] [⟨(some 4), none, .mv (.const (.bool false))⟩])
 .ret)))
theorem fn_waymarkref1_has : FnOk Try.prog 72 Try.f72 sc_waymarkref1_has [.tmp 4] 2 := ⟨Try.func72, by kernel_rfl, by kernel_rfl, by kernel_rfl, by kernel_rfl, by kernel_rfl, by kernel_rfl⟩

/- 80 waymark/waymarkref1.CopyGraph: slots 0 g, 1 g -/
def sc_waymarkref1_CopyGraph : SCode :=
 (.seq (.reg [0] [⟨(some 1), none, .box 24 (.tmp 0)⟩, ⟨(some 2), none, .alloc 24 [(.int .i64 0), (.slice none 0 0)]⟩])
 (.seq (.reg [1, 2] [⟨(some 3), none, .fld 1 (.tmp 1)⟩, ⟨(some 4), none, .load 1 false (.tmp 3)⟩, ⟨(some 5), none, .hp (.app 22 41 4 32 (.agg #[(.int .i64 0), (.int .i64 0), (.int .i64 0), (.int .i64 0)]) (.const (.slice none 0 0)) (.tmp 4))⟩, ⟨(some 6), none, .fld 1 (.tmp 1)⟩, ⟨none, none, .store 1 (.tmp 6) (.tmp 5)⟩])
 (.seq (.reg [1, 2] [⟨(some 7), none, .load 2 true (.tmp 1)⟩, ⟨none, none, .store 2 (.tmp 2) (.tmp 7)⟩])
 .ret)))
theorem fn_waymarkref1_CopyGraph : FnOk Try.prog 80 Try.f80 sc_waymarkref1_CopyGraph [.cell 2 2 true] 1 := ⟨Try.func80, by kernel_rfl, by kernel_rfl, by kernel_rfl, by kernel_rfl, by kernel_rfl, by kernel_rfl⟩

end Go.Proofs.Ytkephdahbplhfaa
