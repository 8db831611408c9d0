import Derived.Test.YtkephdahbplhfaaProg
import Derived.Test.YtkephdahbplhfaaAbsG
set_option maxRecDepth 100000
namespace Go.Proofs.Ytkephdahbplhfaa
open Go Abs

/- loop of waymark/waymarkref11.Split, wants [0, 5, 6, 8] [] -/
def sc_waymarkref11_Split_L0 : SCode :=
 (.seq (.seq (.reg [0, 5, 6, 8] [⟨(some 84), none, .mv (.tmp 6)⟩, ⟨(some 85), none, .mv (.tmp 0)⟩, ⟨(some 86), none, .len true (.tmp 85)⟩, ⟨(some 87), none, .bin .lss 3 (.tmp 84) (.tmp 86)⟩, ⟨(some 88), none, .mv (.tmp 87)⟩, ⟨(some 89), (some (88, true)), .mv (.tmp 0)⟩, ⟨(some 90), (some (88, true)), .mv (.tmp 6)⟩, ⟨(some 91), (some (88, true)), .ixs (.tmp 89) (.tmp 90)⟩, ⟨(some 92), (some (88, true)), .call 60 [(.tmp 91)]⟩, ⟨(some 93), (some (88, true)), .mv (.tmp 92)⟩, ⟨(some 94), (some (93, false)), .mv (.tmp 0)⟩, ⟨(some 95), (some (93, false)), .mv (.tmp 6)⟩, ⟨(some 96), (some (93, false)), .ixs (.tmp 94) (.tmp 95)⟩, ⟨(some 97), (some (93, false)), .bin .eql 5 (.tmp 96) (.const (.int .u8 46))⟩, ⟨(some 98), (some (88, true)), .pick (.tmp 93) (.const (.bool true)) (.tmp 97)⟩, ⟨(some 99), (some (88, true)), .mv (.tmp 98)⟩, ⟨(some 100), (some (99, false)), .mv (.tmp 0)⟩, ⟨(some 101), (some (99, false)), .mv (.tmp 6)⟩, ⟨(some 102), (some (99, false)), .ixs (.tmp 100) (.tmp 101)⟩, ⟨(some 103), (some (99, false)), .bin .eql 5 (.tmp 102) (.const (.int .u8 47))⟩, ⟨(some 104), (some (88, true)), .pick (.tmp 99) (.const (.bool true)) (.tmp 103)⟩, ⟨(some 105), none, .pick (.tmp 88) (.tmp 104) (.const (.bool false))⟩])
 (.cond (.tmp 105) .skip (.exit 7)))
 (.block 8 (.reg [0, 5, 6, 8] [⟨(some 106), none, .mv (.tmp 6)⟩, ⟨(some 107), none, .bin .add 3 (.tmp 106) (.const (.int .i64 1))⟩, ⟨(some 6), none, .mv (.tmp 107)⟩])))
/- loop of waymark/waymarkref11.Split, wants [0, 5, 6, 8] [] -/
def sc_waymarkref11_Split_L1 : SCode :=
 (.seq (.seq (.reg [0, 5, 6, 8] [⟨(some 48), none, .mv (.tmp 6)⟩, ⟨(some 49), none, .mv (.tmp 0)⟩, ⟨(some 50), none, .len true (.tmp 49)⟩, ⟨(some 51), none, .bin .lss 3 (.tmp 48) (.tmp 50)⟩, ⟨(some 52), none, .mv (.tmp 51)⟩, ⟨(some 53), (some (52, true)), .mv (.tmp 0)⟩, ⟨(some 54), (some (52, true)), .mv (.tmp 6)⟩, ⟨(some 55), (some (52, true)), .ixs (.tmp 53) (.tmp 54)⟩, ⟨(some 56), (some (52, true)), .call 59 [(.tmp 55)]⟩, ⟨(some 57), (some (52, true)), .mv (.tmp 56)⟩, ⟨(some 58), (some (57, false)), .mv (.tmp 0)⟩, ⟨(some 59), (some (57, false)), .mv (.tmp 6)⟩, ⟨(some 60), (some (57, false)), .ixs (.tmp 58) (.tmp 59)⟩, ⟨(some 61), (some (57, false)), .call 60 [(.tmp 60)]⟩, ⟨(some 62), (some (52, true)), .pick (.tmp 57) (.const (.bool true)) (.tmp 61)⟩, ⟨(some 63), (some (52, true)), .mv (.tmp 62)⟩, ⟨(some 64), (some (63, false)), .mv (.tmp 0)⟩, ⟨(some 65), (some (63, false)), .mv (.tmp 6)⟩, ⟨(some 66), (some (63, false)), .ixs (.tmp 64) (.tmp 65)⟩, ⟨(some 67), (some (63, false)), .bin .eql 5 (.tmp 66) (.const (.int .u8 45))⟩, ⟨(some 68), (some (52, true)), .pick (.tmp 63) (.const (.bool true)) (.tmp 67)⟩, ⟨(some 69), none, .pick (.tmp 52) (.tmp 68) (.const (.bool false))⟩])
 (.cond (.tmp 69) .skip (.exit 5)))
 (.block 6 (.reg [0, 5, 6, 8] [⟨(some 70), none, .mv (.tmp 6)⟩, ⟨(some 71), none, .bin .add 3 (.tmp 70) (.const (.int .i64 1))⟩, ⟨(some 6), none, .mv (.tmp 71)⟩])))
/- loop of waymark/waymarkref11.Split, wants [0, 5, 6] [] -/
def sc_waymarkref11_Split_L2 : SCode :=
 (.seq (.seq (.reg [0, 5, 6] [⟨(some 33), none, .mv (.tmp 6)⟩, ⟨(some 34), none, .mv (.tmp 0)⟩, ⟨(some 35), none, .len true (.tmp 34)⟩, ⟨(some 36), none, .bin .lss 3 (.tmp 33) (.tmp 35)⟩, ⟨(some 37), none, .mv (.tmp 36)⟩, ⟨(some 38), (some (37, true)), .mv (.tmp 0)⟩, ⟨(some 39), (some (37, true)), .mv (.tmp 6)⟩, ⟨(some 40), (some (37, true)), .ixs (.tmp 38) (.tmp 39)⟩, ⟨(some 41), (some (37, true)), .bin .neq 5 (.tmp 40) (.const (.int .u8 10))⟩, ⟨(some 42), none, .pick (.tmp 37) (.tmp 41) (.const (.bool false))⟩])
 (.cond (.tmp 42) .skip (.exit 3)))
 (.block 4 (.reg [0, 5, 6] [⟨(some 43), none, .mv (.tmp 6)⟩, ⟨(some 44), none, .bin .add 3 (.tmp 43) (.const (.int .i64 1))⟩, ⟨(some 6), none, .mv (.tmp 44)⟩])))
/- loop of waymark/waymarkref11.Split, wants [0, 5, 6] [(5, 80, 50, 3)] -/
def sc_waymarkref11_Split_L3 : SCode :=
 (.seq (.seq (.reg [0, 5, 6] [⟨(some 12), none, .mv (.tmp 6)⟩, ⟨(some 13), none, .mv (.tmp 0)⟩, ⟨(some 14), none, .len true (.tmp 13)⟩, ⟨(some 15), none, .bin .lss 3 (.tmp 12) (.tmp 14)⟩])
 (.cond (.tmp 15) .skip (.exit 0)))
 (.block 1 (.seq (.reg [0, 5, 6] [⟨(some 16), none, .mv (.tmp 0)⟩, ⟨(some 17), none, .mv (.tmp 6)⟩, ⟨(some 18), none, .ixs (.tmp 16) (.tmp 17)⟩, ⟨(some 7), none, .mv (.tmp 18)⟩])
 (.seq (.reg [0, 5, 6, 7] [⟨(some 19), none, .mv (.tmp 6)⟩, ⟨(some 8), none, .mv (.tmp 19)⟩])
 (.block 2 (.seq (.reg [0, 5, 6, 7, 8] [⟨(some 22), none, .mv (.tmp 7)⟩, ⟨(some 23), none, .bin .eql 5 (.tmp 22) (.const (.int .u8 32))⟩, ⟨(some 24), none, .mv (.tmp 23)⟩, ⟨(some 25), (some (24, false)), .mv (.tmp 7)⟩, ⟨(some 26), (some (24, false)), .bin .eql 5 (.tmp 25) (.const (.int .u8 10))⟩, ⟨(some 27), none, .pick (.tmp 24) (.const (.bool true)) (.tmp 26)⟩, ⟨(some 21), none, .mv (.tmp 27)⟩])
 (.cond (.tmp 21) (.reg [0, 5, 6] [⟨(some 28), none, .mv (.tmp 6)⟩, ⟨(some 29), none, .bin .add 3 (.tmp 28) (.const (.int .i64 1))⟩, ⟨(some 6), none, .mv (.tmp 29)⟩]) (.seq (.reg [0, 5, 6, 7, 8] [⟨(some 31), none, .mv (.tmp 7)⟩, ⟨(some 32), none, .bin .eql 5 (.tmp 31) (.const (.int .u8 35))⟩, ⟨(some 30), none, .mv (.tmp 32)⟩])
 (.cond (.tmp 30) (.block 3 (.loop [0, 5, 6] [] sc_waymarkref11_Split_L2)) (.seq (.reg [0, 5, 6, 7, 8] [⟨(some 46), none, .mv (.tmp 7)⟩, ⟨(some 47), none, .call 59 [(.tmp 46)]⟩, ⟨(some 45), none, .mv (.tmp 47)⟩])
 (.cond (.tmp 45) (.seq (.block 5 (.loop [0, 5, 6, 8] [] sc_waymarkref11_Split_L1))
 (.reg [0, 5, 6, 8] [⟨(some 72), none, .mv (.tmp 5)⟩, ⟨(some 73), none, .mv (.tmp 8)⟩, ⟨(some 74), none, .mv (.tmp 0)⟩, ⟨(some 75), none, .mv (.tmp 8)⟩, ⟨(some 76), none, .mv (.tmp 6)⟩, ⟨(some 77), none, .slc none (.tmp 74) (some (.tmp 75)) (some (.tmp 76)) none⟩, ⟨(some 78), none, .build [(.int .i64 0), (.int .i64 0), (.string ⟨#[]⟩)] [(0, 1, (.const (.int .i64 1))), (1, 1, (.tmp 73)), (2, 1, (.tmp 77))]⟩, ⟨(some 79), none, .bsl 50 3 [(.int .i64 0), (.int .i64 0), (.string ⟨#[]⟩)] 1 [(0, 3, (.tmp 78))]⟩, ⟨(some 80), none, .app 46 50 3 32 (.agg #[(.int .i64 0), (.int .i64 0), (.string ⟨#[]⟩)]) (.tmp 72) (.tmp 79)⟩, ⟨(some 5), none, .mv (.tmp 80)⟩])) (.seq (.reg [0, 5, 6, 7, 8] [⟨(some 82), none, .mv (.tmp 7)⟩, ⟨(some 83), none, .call 60 [(.tmp 82)]⟩, ⟨(some 81), none, .mv (.tmp 83)⟩])
 (.cond (.tmp 81) (.seq (.block 7 (.loop [0, 5, 6, 8] [] sc_waymarkref11_Split_L0))
 (.reg [0, 5, 6, 8] [⟨(some 108), none, .mv (.tmp 5)⟩, ⟨(some 109), none, .mv (.tmp 8)⟩, ⟨(some 110), none, .mv (.tmp 0)⟩, ⟨(some 111), none, .mv (.tmp 8)⟩, ⟨(some 112), none, .mv (.tmp 6)⟩, ⟨(some 113), none, .slc none (.tmp 110) (some (.tmp 111)) (some (.tmp 112)) none⟩, ⟨(some 114), none, .build [(.int .i64 0), (.int .i64 0), (.string ⟨#[]⟩)] [(0, 1, (.const (.int .i64 2))), (1, 1, (.tmp 109)), (2, 1, (.tmp 113))]⟩, ⟨(some 115), none, .bsl 50 3 [(.int .i64 0), (.int .i64 0), (.string ⟨#[]⟩)] 1 [(0, 3, (.tmp 114))]⟩, ⟨(some 116), none, .app 46 50 3 32 (.agg #[(.int .i64 0), (.int .i64 0), (.string ⟨#[]⟩)]) (.tmp 108) (.tmp 115)⟩, ⟨(some 5), none, .mv (.tmp 116)⟩])) (.seq (.reg [0, 5, 6, 7, 8] [⟨(some 118), none, .mv (.tmp 7)⟩, ⟨(some 119), none, .bin .eql 5 (.tmp 118) (.const (.int .u8 59))⟩, ⟨(some 117), none, .mv (.tmp 119)⟩])
 (.cond (.tmp 117) (.seq (.reg [0, 5, 6, 8] [⟨(some 120), none, .mv (.tmp 6)⟩, ⟨(some 121), none, .bin .add 3 (.tmp 120) (.const (.int .i64 1))⟩, ⟨(some 6), none, .mv (.tmp 121)⟩])
 (.reg [0, 5, 6, 8] [⟨(some 122), none, .mv (.tmp 5)⟩, ⟨(some 123), none, .mv (.tmp 8)⟩, ⟨(some 124), none, .build [(.int .i64 0), (.int .i64 0), (.string ⟨#[]⟩)] [(0, 1, (.const (.int .i64 3))), (1, 1, (.tmp 123)), (2, 1, (.const (.string ⟨#[59]⟩)))]⟩, ⟨(some 125), none, .bsl 50 3 [(.int .i64 0), (.int .i64 0), (.string ⟨#[]⟩)] 1 [(0, 3, (.tmp 124))]⟩, ⟨(some 126), none, .app 46 50 3 32 (.agg #[(.int .i64 0), (.int .i64 0), (.string ⟨#[]⟩)]) (.tmp 122) (.tmp 125)⟩, ⟨(some 5), none, .mv (.tmp 126)⟩])) (.seq (.reg [6] [⟨(some 20), none, .mv (.tmp 6)⟩, ⟨(some 2), none, .mv (.const (.slice none 0 0))⟩, ⟨(some 3), none, .mv (.tmp 20)⟩, ⟨(some 4), none, .mv (.const (.int .i64 3))⟩])
 .ret))))))))))))))))
/- 31 waymark/waymarkref11.Split: slots 0 s, 1 s, 5 l, 6 i, 7 c, 8 k -/
def sc_waymarkref11_Split : SCode :=
 (.seq (.reg [0] [⟨(some 2), none, .mv (.const (.slice none 0 0))⟩, ⟨(some 3), none, .mv (.const (.int .i64 0))⟩, ⟨(some 4), none, .mv (.const (.int .i64 0))⟩])
 (.seq (.seq (.reg [0] [⟨(some 9), none, .mv (.tmp 0)⟩, ⟨(some 10), none, .len true (.tmp 9)⟩, ⟨(some 11), none, .bin .gtr 3 (.tmp 10) (.const (.int .i64 10000))⟩])
 (.cond (.tmp 11) (.seq (.reg [] [⟨(some 2), none, .mv (.const (.slice none 0 0))⟩, ⟨(some 3), none, .mv (.const (.int .i64 0))⟩, ⟨(some 4), none, .mv (.const (.int .i64 6))⟩])
 .ret) .skip))
 (.seq (.reg [0] [⟨(some 5), none, .mv (.const (.slice none 0 0))⟩])
 (.seq (.reg [0, 5] [⟨(some 6), none, .mv (.const (.int .i64 0))⟩])
 (.seq (.block 0 (.loop [0, 5, 6] [(5, 80, 50, 3)] sc_waymarkref11_Split_L3))
 (.seq (.reg [5] [⟨(some 127), none, .mv (.tmp 5)⟩, ⟨(some 2), none, .mv (.tmp 127)⟩, ⟨(some 3), none, .mv (.const (.int .i64 (-1)))⟩, ⟨(some 4), none, .mv (.const (.int .i64 0))⟩])
 .ret))))))
theorem fn_waymarkref11_Split : FnOk Try.prog 31 Try.f31 sc_waymarkref11_Split [.tmp 2, .tmp 3, .tmp 4] 1 := ⟨Try.func31, by kernel_rfl, by kernel_rfl, by kernel_rfl, by kernel_rfl, by kernel_rfl, by kernel_rfl⟩

/- 59 waymark/waymarkref11.letter: slots 0 c, 1 c -/
def sc_waymarkref11_letter : SCode :=
 (.seq (.reg [0] [⟨(some 2), none, .mv (.const (.bool false))⟩])
 (.seq (.reg [0] [⟨(some 3), none, .mv (.tmp 0)⟩, ⟨(some 4), none, .bin .geq 5 (.tmp 3) (.const (.int .u8 97))⟩, ⟨(some 5), none, .mv (.tmp 4)⟩, ⟨(some 6), (some (5, true)), .mv (.tmp 0)⟩, ⟨(some 7), (some (5, true)), .bin .leq 5 (.tmp 6) (.const (.int .u8 122))⟩, ⟨(some 8), none, .pick (.tmp 5) (.tmp 7) (.const (.bool false))⟩, ⟨(some 2), none, .mv (.tmp 8)⟩])
 .ret))
theorem fn_waymarkref11_letter : FnOk Try.prog 59 Try.f59 sc_waymarkref11_letter [.tmp 2] 1 := ⟨Try.func59, by kernel_rfl, by kernel_rfl, by kernel_rfl, by kernel_rfl, by kernel_rfl, by kernel_rfl⟩

/- 60 waymark/waymarkref11.digit: slots 0 c, 1 c -/
def sc_waymarkref11_digit : SCode :=
 (.seq (.reg [0] [⟨(some 2), none, .mv (.const (.bool false))⟩])
 (.seq (.reg [0] [⟨(some 3), none, .mv (.tmp 0)⟩, ⟨(some 4), none, .bin .geq 5 (.tmp 3) (.const (.int .u8 48))⟩, ⟨(some 5), none, .mv (.tmp 4)⟩, ⟨(some 6), (some (5, true)), .mv (.tmp 0)⟩, ⟨(some 7), (some (5, true)), .bin .leq 5 (.tmp 6) (.const (.int .u8 57))⟩, ⟨(some 8), none, .pick (.tmp 5) (.tmp 7) (.const (.bool false))⟩, ⟨(some 2), none, .mv (.tmp 8)⟩])
 .ret))
theorem fn_waymarkref11_digit : FnOk Try.prog 60 Try.f60 sc_waymarkref11_digit [.tmp 2] 1 := ⟨Try.func60, by kernel_rfl, by kernel_rfl, by kernel_rfl, by kernel_rfl, by kernel_rfl, by kernel_rfl⟩

end Go.Proofs.Ytkephdahbplhfaa
