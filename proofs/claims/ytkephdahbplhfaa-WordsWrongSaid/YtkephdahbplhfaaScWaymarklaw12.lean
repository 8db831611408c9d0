import Derived.Test.YtkephdahbplhfaaProg
import Derived.Test.YtkephdahbplhfaaAbsG
set_option maxRecDepth 100000
namespace Go.Proofs.Ytkephdahbplhfaa
open Go Abs

/- loop of waymark/waymarklaw12.WordsBlank, wants [6, 13, 16] [] -/
def sc_waymarklaw12_WordsBlank_L0 : SCode :=
 (.seq (.seq (.reg [6, 13, 16] [⟨(some 112), none, .mv (.tmp 16)⟩, ⟨(some 113), none, .mv (.tmp 6)⟩, ⟨(some 114), none, .len false (.tmp 113)⟩, ⟨(some 115), none, .bin .lss 3 (.tmp 112) (.tmp 114)⟩])
 (.cond (.tmp 115) .skip (.exit 4)))
 (.seq (.block 5 (.seq (.draw [6, 13, 16] [⟨(some 118), none, .mv (.tmp 13)⟩, ⟨(some 119), none, .mv (.tmp 16)⟩, ⟨(some 120), none, .ia none 3 (.tmp 118) (.tmp 119)⟩, ⟨(some 121), none, .fld 0 (.tmp 120)⟩, ⟨(some 122), none, .load 1 false (.tmp 121)⟩, ⟨(some 123), none, .mv (.tmp 6)⟩, ⟨(some 124), none, .mv (.tmp 16)⟩, ⟨(some 125), none, .ia none 3 (.tmp 123) (.tmp 124)⟩, ⟨(some 126), none, .fld 0 (.tmp 125)⟩, ⟨(some 127), none, .load 1 false (.tmp 126)⟩, ⟨(some 128), none, .bin .neq 3 (.tmp 122) (.tmp 127)⟩, ⟨(some 129), none, .mv (.tmp 128)⟩, ⟨(some 130), (some (129, false)), .mv (.tmp 13)⟩, ⟨(some 131), (some (129, false)), .mv (.tmp 16)⟩, ⟨(some 132), (some (129, false)), .ia none 3 (.tmp 130) (.tmp 131)⟩, ⟨(some 133), (some (129, false)), .fld 2 (.tmp 132)⟩, ⟨(some 134), (some (129, false)), .load 1 false (.tmp 133)⟩, ⟨(some 135), (some (129, false)), .mv (.tmp 6)⟩, ⟨(some 136), (some (129, false)), .mv (.tmp 16)⟩, ⟨(some 137), (some (129, false)), .ia none 3 (.tmp 135) (.tmp 136)⟩, ⟨(some 138), (some (129, false)), .fld 2 (.tmp 137)⟩, ⟨(some 139), (some (129, false)), .load 1 false (.tmp 138)⟩, ⟨(some 140), (some (129, false)), .bin .neq 9 (.tmp 134) (.tmp 139)⟩, ⟨(some 141), none, .pick (.tmp 129) (.const (.bool true)) (.tmp 140)⟩])
 (.cond (.tmp 141) (.seq (.reg [] [⟨(some 4), none, .mv (.const (.bool false))⟩])
 .ret) .skip)))
 (.reg [6, 13, 16] [⟨(some 116), none, .mv (.tmp 16)⟩, ⟨(some 117), none, .bin .add 3 (.tmp 116) (.const (.int .i64 1))⟩, ⟨(some 16), none, .mv (.tmp 117)⟩])))
/- loop of waymark/waymarklaw12.WordsBlank, wants [1, 6, 9, 10, 11, 12] [] -/
def sc_waymarklaw12_WordsBlank_L1 : SCode :=
 (.seq (.seq (.reg [1, 6, 9, 10, 11, 12] [⟨(some 50), none, .mv (.tmp 12)⟩, ⟨(some 51), none, .mv (.tmp 1)⟩, ⟨(some 52), none, .mv (.tmp 10)⟩, ⟨(some 53), none, .ia none 1 (.tmp 51) (.tmp 52)⟩, ⟨(some 54), none, .load 1 false (.tmp 53)⟩, ⟨(some 55), none, .len true (.tmp 54)⟩, ⟨(some 56), none, .bin .lss 3 (.tmp 50) (.tmp 55)⟩, ⟨(some 57), none, .mv (.tmp 56)⟩, ⟨(some 58), (some (57, true)), .mv (.tmp 12)⟩, ⟨(some 59), (some (57, true)), .bin .lss 3 (.tmp 58) (.const (.int .i64 20))⟩, ⟨(some 60), none, .pick (.tmp 57) (.tmp 59) (.const (.bool false))⟩])
 (.cond (.tmp 60) .skip (.exit 2)))
 (.seq (.block 3 (.seq (.reg [1, 6, 9, 10, 11, 12] [⟨(some 63), none, .mv (.tmp 1)⟩, ⟨(some 64), none, .mv (.tmp 10)⟩, ⟨(some 65), none, .ia none 1 (.tmp 63) (.tmp 64)⟩, ⟨(some 66), none, .load 1 false (.tmp 65)⟩, ⟨(some 67), none, .mv (.tmp 12)⟩, ⟨(some 68), none, .ixs (.tmp 66) (.tmp 67)⟩, ⟨(some 69), none, .bin .and 5 (.tmp 68) (.const (.int .u8 1))⟩, ⟨(some 70), none, .bin .eql 5 (.tmp 69) (.const (.int .u8 1))⟩])
 (.cond (.tmp 70) (.reg [1, 6, 9, 10, 11, 12] [⟨(some 71), none, .mv (.tmp 11)⟩, ⟨(some 72), none, .bin .add 9 (.tmp 71) (.const (.string ⟨#[35, 32, 120, 59, 10]⟩))⟩, ⟨(some 11), none, .mv (.tmp 72)⟩]) (.reg [1, 6, 9, 10, 11, 12] [⟨(some 73), none, .mv (.tmp 11)⟩, ⟨(some 74), none, .bin .add 9 (.tmp 73) (.const (.string ⟨#[10, 32]⟩))⟩, ⟨(some 11), none, .mv (.tmp 74)⟩]))))
 (.reg [1, 6, 9, 10, 11, 12] [⟨(some 61), none, .mv (.tmp 12)⟩, ⟨(some 62), none, .bin .add 3 (.tmp 61) (.const (.int .i64 1))⟩, ⟨(some 12), none, .mv (.tmp 62)⟩])))
/- loop of waymark/waymarklaw12.WordsBlank, wants [1, 6, 9, 10] [] -/
def sc_waymarklaw12_WordsBlank_L2 : SCode :=
 (.seq (.seq (.reg [1, 6, 9, 10] [⟨(some 44), none, .mv (.tmp 10)⟩, ⟨(some 45), none, .mv (.tmp 6)⟩, ⟨(some 46), none, .len false (.tmp 45)⟩, ⟨(some 47), none, .bin .leq 3 (.tmp 44) (.tmp 46)⟩])
 (.cond (.tmp 47) .skip (.exit 0)))
 (.seq (.block 1 (.seq (.reg [1, 6, 9, 10] [⟨(some 11), none, .mv (.const (.string ⟨#[32]⟩))⟩])
 (.seq (.seq (.reg [1, 6, 9, 10, 11] [⟨(some 12), none, .mv (.const (.int .i64 0))⟩])
 (.block 2 (.loop [1, 6, 9, 10, 11, 12] [] sc_waymarklaw12_WordsBlank_L1)))
 (.seq (.reg [1, 6, 9, 10, 11] [⟨(some 75), none, .mv (.tmp 9)⟩, ⟨(some 76), none, .mv (.tmp 11)⟩, ⟨(some 77), none, .bin .add 9 (.tmp 75) (.tmp 76)⟩, ⟨(some 9), none, .mv (.tmp 77)⟩])
 (.seq (.reg [1, 6, 9, 10] [⟨(some 78), none, .mv (.tmp 10)⟩, ⟨(some 79), none, .mv (.tmp 6)⟩, ⟨(some 80), none, .len false (.tmp 79)⟩, ⟨(some 81), none, .bin .lss 3 (.tmp 78) (.tmp 80)⟩])
 (.cond (.tmp 81) (.reg [1, 6, 9, 10] [⟨(some 82), none, .mv (.tmp 9)⟩, ⟨(some 83), none, .mv (.tmp 6)⟩, ⟨(some 84), none, .mv (.tmp 10)⟩, ⟨(some 85), none, .ia none 3 (.tmp 83) (.tmp 84)⟩, ⟨(some 86), none, .fld 2 (.tmp 85)⟩, ⟨(some 87), none, .load 1 false (.tmp 86)⟩, ⟨(some 88), none, .bin .add 9 (.tmp 82) (.tmp 87)⟩, ⟨(some 9), none, .mv (.tmp 88)⟩]) .skip))))))
 (.reg [1, 6, 9, 10] [⟨(some 48), none, .mv (.tmp 10)⟩, ⟨(some 49), none, .bin .add 3 (.tmp 48) (.const (.int .i64 1))⟩, ⟨(some 10), none, .mv (.tmp 49)⟩])))
/- 7 waymark/waymarklaw12.WordsBlank: slots 0 s, 1 pad, 2 s, 3 pad, 5 live, 6 l, 7 _, 8 e, 9 t, 10 i, 11 p, 12 k, 13 m, 14 at, 15 f, 16 i -/
def sc_waymarklaw12_WordsBlank : SCode :=
 (.seq (.reg [0, 1] [⟨(some 4), none, .mv (.const (.bool false))⟩])
 (.seq (.reg [0, 1] [⟨(some 17), none, .call 30 []⟩, ⟨(some 5), none, .mv (.tmp 17)⟩])
 (.seq (.reg [0, 1, 5] [⟨(some 19), none, .mv (.tmp 0)⟩, ⟨(some 20), none, .call 31 [(.tmp 19)]⟩, ⟨(some 18), none, .mv (.tmp 20)⟩, ⟨(some 21), none, .ext (.tmp 18) 0⟩, ⟨(some 22), none, .ext (.tmp 18) 1⟩, ⟨(some 23), none, .ext (.tmp 18) 2⟩, ⟨(some 6), none, .mv (.tmp 21)⟩, ⟨(some 7), none, .mv (.tmp 22)⟩, ⟨(some 8), none, .mv (.tmp 23)⟩])
 (.seq (.seq (.reg [0, 1, 5, 6, 8] [⟨(some 24), none, .mv (.tmp 5)⟩, ⟨(some 25), none, .un .not (.tmp 24)⟩, ⟨(some 26), none, .mv (.tmp 25)⟩, ⟨(some 27), (some (26, false)), .mv (.tmp 8)⟩, ⟨(some 28), (some (26, false)), .bin .neq 3 (.tmp 27) (.const (.int .i64 0))⟩, ⟨(some 29), none, .pick (.tmp 26) (.const (.bool true)) (.tmp 28)⟩, ⟨(some 30), none, .mv (.tmp 29)⟩, ⟨(some 31), (some (30, false)), .mv (.tmp 0)⟩, ⟨(some 32), (some (30, false)), .len true (.tmp 31)⟩, ⟨(some 33), (some (30, false)), .bin .gtr 3 (.tmp 32) (.const (.int .i64 1000))⟩, ⟨(some 34), none, .pick (.tmp 30) (.const (.bool true)) (.tmp 33)⟩, ⟨(some 35), none, .mv (.tmp 34)⟩, ⟨(some 36), (some (35, false)), .mv (.tmp 1)⟩, ⟨(some 37), (some (35, false)), .len false (.tmp 36)⟩, ⟨(some 38), (some (35, false)), .mv (.tmp 6)⟩, ⟨(some 39), (some (35, false)), .len false (.tmp 38)⟩, ⟨(some 40), (some (35, false)), .bin .add 3 (.tmp 39) (.const (.int .i64 1))⟩, ⟨(some 41), (some (35, false)), .bin .lss 3 (.tmp 37) (.tmp 40)⟩, ⟨(some 42), none, .pick (.tmp 35) (.const (.bool true)) (.tmp 41)⟩])
 (.cond (.tmp 42) (.seq (.reg [5] [⟨(some 43), none, .mv (.tmp 5)⟩, ⟨(some 4), none, .mv (.tmp 43)⟩])
 .ret) .skip))
 (.seq (.reg [1, 6] [⟨(some 9), none, .mv (.const (.string ⟨#[]⟩))⟩])
 (.seq (.seq (.reg [1, 6, 9] [⟨(some 10), none, .mv (.const (.int .i64 0))⟩])
 (.block 0 (.loop [1, 6, 9, 10] [] sc_waymarklaw12_WordsBlank_L2)))
 (.seq (.seq (.reg [6, 9] [⟨(some 89), none, .mv (.tmp 9)⟩, ⟨(some 90), none, .len true (.tmp 89)⟩, ⟨(some 91), none, .bin .gtr 3 (.tmp 90) (.const (.int .i64 10000))⟩])
 (.cond (.tmp 91) (.seq (.reg [] [⟨(some 4), none, .mv (.const (.bool true))⟩])
 .ret) .skip))
 (.seq (.reg [6, 9] [⟨(some 93), none, .mv (.tmp 9)⟩, ⟨(some 94), none, .call 32 [(.tmp 93)]⟩, ⟨(some 92), none, .mv (.tmp 94)⟩, ⟨(some 95), none, .ext (.tmp 92) 0⟩, ⟨(some 96), none, .ext (.tmp 92) 1⟩, ⟨(some 97), none, .ext (.tmp 92) 2⟩, ⟨(some 13), none, .mv (.tmp 95)⟩, ⟨(some 14), none, .mv (.tmp 96)⟩, ⟨(some 15), none, .mv (.tmp 97)⟩])
 (.seq (.seq (.reg [6, 13, 14, 15] [⟨(some 98), none, .mv (.tmp 15)⟩, ⟨(some 99), none, .call 33 [(.tmp 98)]⟩, ⟨(some 100), none, .bin .neq 3 (.tmp 99) (.const (.int .i64 0))⟩, ⟨(some 101), none, .mv (.tmp 100)⟩, ⟨(some 102), (some (101, false)), .mv (.tmp 14)⟩, ⟨(some 103), (some (101, false)), .bin .neq 3 (.tmp 102) (.const (.int .i64 (-1)))⟩, ⟨(some 104), none, .pick (.tmp 101) (.const (.bool true)) (.tmp 103)⟩, ⟨(some 105), none, .mv (.tmp 104)⟩, ⟨(some 106), (some (105, false)), .mv (.tmp 13)⟩, ⟨(some 107), (some (105, false)), .len false (.tmp 106)⟩, ⟨(some 108), (some (105, false)), .mv (.tmp 6)⟩, ⟨(some 109), (some (105, false)), .len false (.tmp 108)⟩, ⟨(some 110), (some (105, false)), .bin .neq 3 (.tmp 107) (.tmp 109)⟩, ⟨(some 111), none, .pick (.tmp 105) (.const (.bool true)) (.tmp 110)⟩])
 (.cond (.tmp 111) (.seq (.reg [] [⟨(some 4), none, .mv (.const (.bool false))⟩])
 .ret) .skip))
 (.seq (.seq (.reg [6, 13] [⟨(some 16), none, .mv (.const (.int .i64 0))⟩])
 (.block 4 (.loop [6, 13, 16] [] sc_waymarklaw12_WordsBlank_L0)))
 (.seq (.reg [] [⟨(some 4), none, .mv (.const (.bool true))⟩])
 .ret)))))))))))
theorem fn_waymarklaw12_WordsBlank : FnOk Try.prog 7 Try.f7 sc_waymarklaw12_WordsBlank [.tmp 4] 2 := ⟨Try.func7, by kernel_rfl, by kernel_rfl, by kernel_rfl, by kernel_rfl, by kernel_rfl, by kernel_rfl⟩

/- loop of waymark/waymarklaw12.WordsWrong, wants [2, 14, 15] [] -/
def sc_waymarklaw12_WordsWrong_L0 : SCode :=
 (.seq (.seq (.reg [2, 14, 15] [⟨(some 107), none, .mv (.tmp 15)⟩, ⟨(some 108), none, .mv (.tmp 2)⟩, ⟨(some 109), none, .bin .lss 3 (.tmp 107) (.tmp 108)⟩])
 (.cond (.tmp 109) .skip (.exit 2)))
 (.seq (.block 3 (.reg [2, 14, 15] [⟨(some 112), none, .mv (.tmp 14)⟩, ⟨(some 113), none, .mv (.tmp 15)⟩, ⟨(some 114), none, .ia none 1 (.tmp 112) (.tmp 113)⟩, ⟨none, none, .store 1 (.tmp 114) (.const (.int .u8 32))⟩]))
 (.reg [2, 14, 15] [⟨(some 110), none, .mv (.tmp 15)⟩, ⟨(some 111), none, .bin .add 3 (.tmp 110) (.const (.int .i64 1))⟩, ⟨(some 15), none, .mv (.tmp 111)⟩])))
/- loop of waymark/waymarklaw12.WordsWrong, wants [0, 1, 2, 8, 9] [] -/
def sc_waymarklaw12_WordsWrong_L1 : SCode :=
 (.seq (.seq (.reg [0, 1, 2, 8, 9] [⟨(some 39), none, .mv (.tmp 9)⟩, ⟨(some 40), none, .mv (.tmp 1)⟩, ⟨(some 41), none, .bin .lss 3 (.tmp 39) (.tmp 40)⟩])
 (.cond (.tmp 41) .skip (.exit 0)))
 (.seq (.block 1 (.reg [0, 1, 2, 8, 9] [⟨(some 44), none, .mv (.tmp 8)⟩, ⟨(some 45), none, .bin .add 9 (.tmp 44) (.const (.string ⟨#[59]⟩))⟩, ⟨(some 8), none, .mv (.tmp 45)⟩]))
 (.reg [0, 1, 2, 8, 9] [⟨(some 42), none, .mv (.tmp 9)⟩, ⟨(some 43), none, .bin .add 3 (.tmp 42) (.const (.int .i64 1))⟩, ⟨(some 9), none, .mv (.tmp 43)⟩])))
/- 8 waymark/waymarklaw12.WordsWrong: slots 0 c, 1 at, 2 n, 3 c, 4 at, 5 n, 7 live, 8 s, 9 i, 10 _, 11 k, 12 e, 13 ok, 14 b, 15 i, 16 _, 17 j, 18 f -/
def sc_waymarklaw12_WordsWrong : SCode :=
 (.seq (.reg [0, 1, 2] [⟨(some 6), none, .mv (.const (.bool false))⟩])
 (.seq (.reg [0, 1, 2] [⟨(some 19), none, .call 30 []⟩, ⟨(some 7), none, .mv (.tmp 19)⟩])
 (.seq (.seq (.reg [0, 1, 2, 7] [⟨(some 20), none, .mv (.tmp 7)⟩, ⟨(some 21), none, .un .not (.tmp 20)⟩, ⟨(some 22), none, .mv (.tmp 21)⟩, ⟨(some 23), (some (22, false)), .mv (.tmp 1)⟩, ⟨(some 24), (some (22, false)), .bin .lss 3 (.tmp 23) (.const (.int .i64 0))⟩, ⟨(some 25), none, .pick (.tmp 22) (.const (.bool true)) (.tmp 24)⟩, ⟨(some 26), none, .mv (.tmp 25)⟩, ⟨(some 27), (some (26, false)), .mv (.tmp 1)⟩, ⟨(some 28), (some (26, false)), .bin .gtr 3 (.tmp 27) (.const (.int .i64 50))⟩, ⟨(some 29), none, .pick (.tmp 26) (.const (.bool true)) (.tmp 28)⟩, ⟨(some 30), none, .mv (.tmp 29)⟩, ⟨(some 31), (some (30, false)), .mv (.tmp 2)⟩, ⟨(some 32), (some (30, false)), .bin .lss 3 (.tmp 31) (.const (.int .i64 9990))⟩, ⟨(some 33), none, .pick (.tmp 30) (.const (.bool true)) (.tmp 32)⟩, ⟨(some 34), none, .mv (.tmp 33)⟩, ⟨(some 35), (some (34, false)), .mv (.tmp 2)⟩, ⟨(some 36), (some (34, false)), .bin .gtr 3 (.tmp 35) (.const (.int .i64 10010))⟩, ⟨(some 37), none, .pick (.tmp 34) (.const (.bool true)) (.tmp 36)⟩])
 (.cond (.tmp 37) (.seq (.reg [7] [⟨(some 38), none, .mv (.tmp 7)⟩, ⟨(some 6), none, .mv (.tmp 38)⟩])
 .ret) .skip))
 (.seq (.reg [0, 1, 2] [⟨(some 8), none, .mv (.const (.string ⟨#[]⟩))⟩])
 (.seq (.seq (.reg [0, 1, 2, 8] [⟨(some 9), none, .mv (.const (.int .i64 0))⟩])
 (.block 0 (.loop [0, 1, 2, 8, 9] [] sc_waymarklaw12_WordsWrong_L1)))
 (.seq (.reg [0, 1, 2, 8] [⟨(some 47), none, .mv (.tmp 8)⟩, ⟨(some 48), none, .mv (.tmp 0)⟩, ⟨(some 49), none, .bsl 5 1 [(.int .u8 0)] 1 [(0, 1, (.tmp 48))]⟩, ⟨(some 50), none, .b2s (.tmp 49)⟩, ⟨(some 51), none, .bin .add 9 (.tmp 47) (.tmp 50)⟩, ⟨(some 52), none, .call 32 [(.tmp 51)]⟩, ⟨(some 46), none, .mv (.tmp 52)⟩, ⟨(some 53), none, .ext (.tmp 46) 0⟩, ⟨(some 54), none, .ext (.tmp 46) 1⟩, ⟨(some 55), none, .ext (.tmp 46) 2⟩, ⟨(some 10), none, .mv (.tmp 53)⟩, ⟨(some 11), none, .mv (.tmp 54)⟩, ⟨(some 12), none, .mv (.tmp 55)⟩])
 (.seq (.reg [0, 1, 2, 11, 12] [⟨(some 56), none, .mv (.tmp 0)⟩, ⟨(some 57), none, .bin .geq 5 (.tmp 56) (.const (.int .u8 97))⟩, ⟨(some 58), none, .mv (.tmp 57)⟩, ⟨(some 59), (some (58, true)), .mv (.tmp 0)⟩, ⟨(some 60), (some (58, true)), .bin .leq 5 (.tmp 59) (.const (.int .u8 122))⟩, ⟨(some 61), none, .pick (.tmp 58) (.tmp 60) (.const (.bool false))⟩, ⟨(some 62), none, .mv (.tmp 61)⟩, ⟨(some 63), (some (62, false)), .mv (.tmp 0)⟩, ⟨(some 64), (some (62, false)), .bin .geq 5 (.tmp 63) (.const (.int .u8 48))⟩, ⟨(some 65), (some (62, false)), .mv (.tmp 64)⟩, ⟨(some 66), (some (65, true)), .mv (.tmp 0)⟩, ⟨(some 67), (some (65, true)), .bin .leq 5 (.tmp 66) (.const (.int .u8 57))⟩, ⟨(some 68), (some (62, false)), .pick (.tmp 65) (.tmp 67) (.const (.bool false))⟩, ⟨(some 69), none, .pick (.tmp 62) (.const (.bool true)) (.tmp 68)⟩, ⟨(some 70), none, .mv (.tmp 69)⟩, ⟨(some 71), (some (70, false)), .mv (.tmp 0)⟩, ⟨(some 72), (some (70, false)), .bin .eql 5 (.tmp 71) (.const (.int .u8 32))⟩, ⟨(some 73), none, .pick (.tmp 70) (.const (.bool true)) (.tmp 72)⟩, ⟨(some 74), none, .mv (.tmp 73)⟩, ⟨(some 75), (some (74, false)), .mv (.tmp 0)⟩, ⟨(some 76), (some (74, false)), .bin .eql 5 (.tmp 75) (.const (.int .u8 10))⟩, ⟨(some 77), none, .pick (.tmp 74) (.const (.bool true)) (.tmp 76)⟩, ⟨(some 78), none, .mv (.tmp 77)⟩, ⟨(some 79), (some (78, false)), .mv (.tmp 0)⟩, ⟨(some 80), (some (78, false)), .bin .eql 5 (.tmp 79) (.const (.int .u8 35))⟩, ⟨(some 81), none, .pick (.tmp 78) (.const (.bool true)) (.tmp 80)⟩, ⟨(some 82), none, .mv (.tmp 81)⟩, ⟨(some 83), (some (82, false)), .mv (.tmp 0)⟩, ⟨(some 84), (some (82, false)), .bin .eql 5 (.tmp 83) (.const (.int .u8 59))⟩, ⟨(some 85), none, .pick (.tmp 82) (.const (.bool true)) (.tmp 84)⟩, ⟨(some 13), none, .mv (.tmp 85)⟩])
 (.seq (.seq (.reg [1, 2, 11, 12, 13] [⟨(some 86), none, .mv (.tmp 12)⟩, ⟨(some 87), none, .call 33 [(.tmp 86)]⟩, ⟨(some 88), none, .bin .eql 3 (.tmp 87) (.const (.int .i64 0))⟩, ⟨(some 89), none, .mv (.tmp 13)⟩, ⟨(some 90), none, .beq true (.tmp 88) (.tmp 89)⟩, ⟨(some 91), none, .mv (.tmp 90)⟩, ⟨(some 92), (some (91, false)), .mv (.tmp 13)⟩, ⟨(some 93), (some (91, false)), .un .not (.tmp 92)⟩, ⟨(some 94), (some (91, false)), .mv (.tmp 93)⟩, ⟨(some 95), (some (94, true)), .mv (.tmp 12)⟩, ⟨(some 96), (some (94, true)), .call 33 [(.tmp 95)]⟩, ⟨(some 97), (some (94, true)), .bin .neq 3 (.tmp 96) (.const (.int .i64 3))⟩, ⟨(some 98), (some (94, true)), .mv (.tmp 97)⟩, ⟨(some 99), (some (98, false)), .mv (.tmp 11)⟩, ⟨(some 100), (some (98, false)), .mv (.tmp 1)⟩, ⟨(some 101), (some (98, false)), .bin .neq 3 (.tmp 99) (.tmp 100)⟩, ⟨(some 102), (some (94, true)), .pick (.tmp 98) (.const (.bool true)) (.tmp 101)⟩, ⟨(some 103), (some (91, false)), .pick (.tmp 94) (.tmp 102) (.const (.bool false))⟩, ⟨(some 104), none, .pick (.tmp 91) (.const (.bool true)) (.tmp 103)⟩])
 (.cond (.tmp 104) (.seq (.reg [] [⟨(some 6), none, .mv (.const (.bool false))⟩])
 .ret) .skip))
 (.seq (.reg [2] [⟨(some 105), none, .mv (.tmp 2)⟩, ⟨(some 106), none, .mksl 5 1 1 [(.int .u8 0)] (.tmp 105) (.tmp 105)⟩, ⟨(some 14), none, .mv (.tmp 106)⟩])
 (.seq (.seq (.reg [2, 14] [⟨(some 15), none, .mv (.const (.int .i64 0))⟩])
 (.block 2 (.loop [2, 14, 15] [] sc_waymarklaw12_WordsWrong_L0)))
 (.seq (.reg [2, 14] [⟨(some 116), none, .mv (.tmp 14)⟩, ⟨(some 117), none, .b2s (.tmp 116)⟩, ⟨(some 118), none, .call 32 [(.tmp 117)]⟩, ⟨(some 115), none, .mv (.tmp 118)⟩, ⟨(some 119), none, .ext (.tmp 115) 0⟩, ⟨(some 120), none, .ext (.tmp 115) 1⟩, ⟨(some 121), none, .ext (.tmp 115) 2⟩, ⟨(some 16), none, .mv (.tmp 119)⟩, ⟨(some 17), none, .mv (.tmp 120)⟩, ⟨(some 18), none, .mv (.tmp 121)⟩])
 (.seq (.reg [2, 17, 18] [⟨(some 122), none, .mv (.tmp 18)⟩, ⟨(some 123), none, .call 33 [(.tmp 122)]⟩, ⟨(some 124), none, .bin .eql 3 (.tmp 123) (.const (.int .i64 0))⟩, ⟨(some 125), none, .mv (.tmp 2)⟩, ⟨(some 126), none, .bin .leq 3 (.tmp 125) (.const (.int .i64 10000))⟩, ⟨(some 127), none, .beq false (.tmp 124) (.tmp 126)⟩, ⟨(some 128), none, .mv (.tmp 127)⟩, ⟨(some 129), (some (128, true)), .mv (.tmp 2)⟩, ⟨(some 130), (some (128, true)), .bin .leq 3 (.tmp 129) (.const (.int .i64 10000))⟩, ⟨(some 131), (some (128, true)), .mv (.tmp 130)⟩, ⟨(some 132), (some (131, false)), .mv (.tmp 18)⟩, ⟨(some 133), (some (131, false)), .call 33 [(.tmp 132)]⟩, ⟨(some 134), (some (131, false)), .bin .eql 3 (.tmp 133) (.const (.int .i64 6))⟩, ⟨(some 135), (some (131, false)), .mv (.tmp 134)⟩, ⟨(some 136), (some (135, true)), .mv (.tmp 17)⟩, ⟨(some 137), (some (135, true)), .bin .eql 3 (.tmp 136) (.const (.int .i64 0))⟩, ⟨(some 138), (some (131, false)), .pick (.tmp 135) (.tmp 137) (.const (.bool false))⟩, ⟨(some 139), (some (128, true)), .pick (.tmp 131) (.const (.bool true)) (.tmp 138)⟩, ⟨(some 140), none, .pick (.tmp 128) (.tmp 139) (.const (.bool false))⟩, ⟨(some 6), none, .mv (.tmp 140)⟩])
 .ret))))))))))))
theorem fn_waymarklaw12_WordsWrong : FnOk Try.prog 8 Try.f8 sc_waymarklaw12_WordsWrong [.tmp 6] 3 := ⟨Try.func8, by kernel_rfl, by kernel_rfl, by kernel_rfl, by kernel_rfl, by kernel_rfl, by kernel_rfl⟩

/- 30 waymark/waymarklaw12.alive: slots 1 l, 2 at, 3 e, 4 m, 5 _, 6 f -/
def sc_waymarklaw12_alive : SCode :=
 (.seq (.reg [] [⟨(some 0), none, .mv (.const (.bool false))⟩])
 (.seq (.reg [] [⟨(some 8), none, .call 32 [(.const (.string ⟨#[]⟩))]⟩, ⟨(some 7), none, .mv (.tmp 8)⟩, ⟨(some 9), none, .ext (.tmp 7) 0⟩, ⟨(some 10), none, .ext (.tmp 7) 1⟩, ⟨(some 11), none, .ext (.tmp 7) 2⟩, ⟨(some 1), none, .mv (.tmp 9)⟩, ⟨(some 2), none, .mv (.tmp 10)⟩, ⟨(some 3), none, .mv (.tmp 11)⟩])
 (.seq (.reg [1, 2, 3] [⟨(some 13), none, .call 32 [(.const (.string ⟨#[97, 98, 32, 51, 59]⟩))]⟩, ⟨(some 12), none, .mv (.tmp 13)⟩, ⟨(some 14), none, .ext (.tmp 12) 0⟩, ⟨(some 15), none, .ext (.tmp 12) 1⟩, ⟨(some 16), none, .ext (.tmp 12) 2⟩, ⟨(some 4), none, .mv (.tmp 14)⟩, ⟨(some 5), none, .mv (.tmp 15)⟩, ⟨(some 6), none, .mv (.tmp 16)⟩])
 (.seq (.reg [1, 2, 3, 4, 6] [⟨(some 17), none, .mv (.tmp 1)⟩, ⟨(some 18), none, .len false (.tmp 17)⟩, ⟨(some 19), none, .bin .eql 3 (.tmp 18) (.const (.int .i64 0))⟩, ⟨(some 20), none, .mv (.tmp 19)⟩, ⟨(some 21), (some (20, true)), .mv (.tmp 2)⟩, ⟨(some 22), (some (20, true)), .bin .eql 3 (.tmp 21) (.const (.int .i64 (-1)))⟩, ⟨(some 23), none, .pick (.tmp 20) (.tmp 22) (.const (.bool false))⟩, ⟨(some 24), none, .mv (.tmp 23)⟩, ⟨(some 25), (some (24, true)), .mv (.tmp 3)⟩, ⟨(some 26), (some (24, true)), .call 33 [(.tmp 25)]⟩, ⟨(some 27), (some (24, true)), .bin .eql 3 (.tmp 26) (.const (.int .i64 0))⟩, ⟨(some 28), none, .pick (.tmp 24) (.tmp 27) (.const (.bool false))⟩, ⟨(some 29), none, .mv (.tmp 28)⟩, ⟨(some 30), (some (29, true)), .mv (.tmp 6)⟩, ⟨(some 31), (some (29, true)), .call 33 [(.tmp 30)]⟩, ⟨(some 32), (some (29, true)), .bin .eql 3 (.tmp 31) (.const (.int .i64 0))⟩, ⟨(some 33), none, .pick (.tmp 29) (.tmp 32) (.const (.bool false))⟩, ⟨(some 34), none, .mv (.tmp 33)⟩, ⟨(some 35), (some (34, true)), .mv (.tmp 4)⟩, ⟨(some 36), (some (34, true)), .len false (.tmp 35)⟩, ⟨(some 37), (some (34, true)), .bin .eql 3 (.tmp 36) (.const (.int .i64 3))⟩, ⟨(some 38), none, .pick (.tmp 34) (.tmp 37) (.const (.bool false))⟩, ⟨(some 39), none, .mv (.tmp 38)⟩, ⟨(some 40), (some (39, true)), .mv (.tmp 4)⟩, ⟨(some 41), (some (39, true)), .ia none 3 (.tmp 40) (.const (.int .i64 0))⟩, ⟨(some 42), (some (39, true)), .fld 2 (.tmp 41)⟩, ⟨(some 43), (some (39, true)), .load 1 false (.tmp 42)⟩, ⟨(some 44), (some (39, true)), .bin .eql 9 (.tmp 43) (.const (.string ⟨#[97, 98]⟩))⟩, ⟨(some 45), none, .pick (.tmp 39) (.tmp 44) (.const (.bool false))⟩, ⟨(some 0), none, .mv (.tmp 45)⟩])
 .ret))))
theorem fn_waymarklaw12_alive : FnOk Try.prog 30 Try.f30 sc_waymarklaw12_alive [.tmp 0] 0 := ⟨Try.func30, by kernel_rfl, by kernel_rfl, by kernel_rfl, by kernel_rfl, by kernel_rfl, by kernel_rfl⟩

/- 33 waymark/waymarklaw12.num: slots 0 e, 1 e -/
def sc_waymarklaw12_num : SCode :=
 (.seq (.reg [0] [⟨(some 2), none, .mv (.const (.int .i64 0))⟩])
 (.seq (.reg [0] [⟨(some 3), none, .mv (.tmp 0)⟩, ⟨(some 2), none, .mv (.tmp 3)⟩])
 .ret))
theorem fn_waymarklaw12_num : FnOk Try.prog 33 Try.f33 sc_waymarklaw12_num [.tmp 2] 1 := ⟨Try.func33, by kernel_rfl, by kernel_rfl, by kernel_rfl, by kernel_rfl, by kernel_rfl, by kernel_rfl⟩

end Go.Proofs.Ytkephdahbplhfaa
