import Derived.Test.YtkephdahbplhfaaProg
import Derived.Test.YtkephdahbplhfaaAbsG
set_option maxRecDepth 100000
namespace Go.Proofs.Ytkephdahbplhfaa
open Go Abs

/- label of waymark/words.Split, wants [0, 5, 6, 7] [(5, 61, 50, 3)] -/
def sc_words_Split_B3 : SCode :=
 (.seq (.seq (.reg [0, 5, 6, 7] [⟨(some 96), none, .mv (.tmp 6)⟩, ⟨(some 97), none, .mv (.tmp 0)⟩, ⟨(some 98), none, .len true (.tmp 97)⟩, ⟨(some 99), none, .bin .lss 3 (.tmp 96) (.tmp 98)⟩, ⟨(some 100), none, .mv (.tmp 99)⟩, ⟨(some 101), (some (100, true)), .mv (.tmp 0)⟩, ⟨(some 102), (some (100, true)), .mv (.tmp 6)⟩, ⟨(some 103), (some (100, true)), .ixs (.tmp 101) (.tmp 102)⟩, ⟨(some 104), (some (100, true)), .call 64 [(.tmp 103)]⟩, ⟨(some 105), none, .pick (.tmp 100) (.tmp 104) (.const (.bool false))⟩])
 (.cond (.tmp 105) (.seq (.reg [0, 5, 6, 7] [⟨(some 106), none, .mv (.tmp 6)⟩, ⟨(some 107), none, .bin .add 3 (.tmp 106) (.const (.int .i64 1))⟩, ⟨(some 6), none, .mv (.tmp 107)⟩])
 (.goto 3)) .skip))
 (.seq (.reg [0, 5, 6, 7] [⟨(some 108), none, .mv (.tmp 5)⟩, ⟨(some 109), none, .mv (.tmp 7)⟩, ⟨(some 110), none, .mv (.tmp 0)⟩, ⟨(some 111), none, .mv (.tmp 7)⟩, ⟨(some 112), none, .mv (.tmp 6)⟩, ⟨(some 113), none, .slc none (.tmp 110) (some (.tmp 111)) (some (.tmp 112)) none⟩, ⟨(some 114), none, .build [(.int .i64 0), (.int .i64 0), (.string ⟨#[]⟩)] [(0, 1, (.const (.int .i64 2))), (1, 1, (.tmp 109)), (2, 1, (.tmp 113))]⟩, ⟨(some 115), none, .bsl 50 3 [(.int .i64 0), (.int .i64 0), (.string ⟨#[]⟩)] 1 [(0, 3, (.tmp 114))]⟩, ⟨(some 116), none, .app 46 50 3 32 (.agg #[(.int .i64 0), (.int .i64 0), (.string ⟨#[]⟩)]) (.tmp 108) (.tmp 115)⟩, ⟨(some 5), none, .mv (.tmp 116)⟩])
 (.goto 0)))
/- begin of waymark/words.Split, wants [0, 5, 6, 7] [(5, 61, 50, 3)] -/
def sc_words_Split_R3 : SCode :=
 (.seq (.label [0, 5, 6, 7] [(5, 61, 50, 3)] 3) sc_words_Split_B3)
/- label of waymark/words.Split, wants [0, 5, 6, 7] [(5, 61, 50, 3)] -/
def sc_words_Split_B2 : SCode :=
 (.seq (.seq (.reg [0, 5, 6, 7] [⟨(some 75), none, .mv (.tmp 6)⟩, ⟨(some 76), none, .mv (.tmp 0)⟩, ⟨(some 77), none, .len true (.tmp 76)⟩, ⟨(some 78), none, .bin .lss 3 (.tmp 75) (.tmp 77)⟩, ⟨(some 79), none, .mv (.tmp 78)⟩, ⟨(some 80), (some (79, true)), .mv (.tmp 0)⟩, ⟨(some 81), (some (79, true)), .mv (.tmp 6)⟩, ⟨(some 82), (some (79, true)), .ixs (.tmp 80) (.tmp 81)⟩, ⟨(some 83), (some (79, true)), .call 63 [(.tmp 82)]⟩, ⟨(some 84), none, .pick (.tmp 79) (.tmp 83) (.const (.bool false))⟩])
 (.cond (.tmp 84) (.seq (.reg [0, 5, 6, 7] [⟨(some 85), none, .mv (.tmp 6)⟩, ⟨(some 86), none, .bin .add 3 (.tmp 85) (.const (.int .i64 1))⟩, ⟨(some 6), none, .mv (.tmp 86)⟩])
 (.goto 2)) .skip))
 (.seq (.reg [0, 5, 6, 7] [⟨(some 87), none, .mv (.tmp 5)⟩, ⟨(some 88), none, .mv (.tmp 7)⟩, ⟨(some 89), none, .mv (.tmp 0)⟩, ⟨(some 90), none, .mv (.tmp 7)⟩, ⟨(some 91), none, .mv (.tmp 6)⟩, ⟨(some 92), none, .slc none (.tmp 89) (some (.tmp 90)) (some (.tmp 91)) none⟩, ⟨(some 93), none, .build [(.int .i64 0), (.int .i64 0), (.string ⟨#[]⟩)] [(0, 1, (.const (.int .i64 1))), (1, 1, (.tmp 88)), (2, 1, (.tmp 92))]⟩, ⟨(some 94), none, .bsl 50 3 [(.int .i64 0), (.int .i64 0), (.string ⟨#[]⟩)] 1 [(0, 3, (.tmp 93))]⟩, ⟨(some 95), none, .app 46 50 3 32 (.agg #[(.int .i64 0), (.int .i64 0), (.string ⟨#[]⟩)]) (.tmp 87) (.tmp 94)⟩, ⟨(some 5), none, .mv (.tmp 95)⟩])
 (.seq (.goto 0)
 sc_words_Split_R3)))
/- begin of waymark/words.Split, wants [0, 5, 6, 7] [(5, 61, 50, 3)] -/
def sc_words_Split_R2 : SCode :=
 (.seq (.label [0, 5, 6, 7] [(5, 61, 50, 3)] 2) sc_words_Split_B2)
/- label of waymark/words.Split, wants [0, 5, 6] [(5, 61, 50, 3)] -/
def sc_words_Split_B1 : SCode :=
 (.seq (.seq (.reg [0, 5, 6] [⟨(some 63), none, .mv (.tmp 6)⟩, ⟨(some 64), none, .mv (.tmp 0)⟩, ⟨(some 65), none, .len true (.tmp 64)⟩, ⟨(some 66), none, .bin .lss 3 (.tmp 63) (.tmp 65)⟩, ⟨(some 67), none, .mv (.tmp 66)⟩, ⟨(some 68), (some (67, true)), .mv (.tmp 0)⟩, ⟨(some 69), (some (67, true)), .mv (.tmp 6)⟩, ⟨(some 70), (some (67, true)), .ixs (.tmp 68) (.tmp 69)⟩, ⟨(some 71), (some (67, true)), .bin .neq 5 (.tmp 70) (.const (.int .u8 10))⟩, ⟨(some 72), none, .pick (.tmp 67) (.tmp 71) (.const (.bool false))⟩])
 (.cond (.tmp 72) (.seq (.reg [0, 5, 6] [⟨(some 73), none, .mv (.tmp 6)⟩, ⟨(some 74), none, .bin .add 3 (.tmp 73) (.const (.int .i64 1))⟩, ⟨(some 6), none, .mv (.tmp 74)⟩])
 (.goto 1)) .skip))
 (.seq (.goto 0)
 sc_words_Split_R2))
/- begin of waymark/words.Split, wants [0, 5, 6] [(5, 61, 50, 3)] -/
def sc_words_Split_R1 : SCode :=
 (.seq (.label [0, 5, 6] [(5, 61, 50, 3)] 1) sc_words_Split_B1)
/- label of waymark/words.Split, wants [0, 5, 6] [(5, 61, 50, 3)] -/
def sc_words_Split_B0 : SCode :=
 (.seq (.reg [0, 5, 6] [⟨(some 11), none, .mv (.tmp 6)⟩, ⟨(some 7), none, .mv (.tmp 11)⟩])
 (.seq (.block 0 (.seq (.reg [0, 5, 6, 7] [⟨(some 13), none, .mv (.tmp 6)⟩, ⟨(some 14), none, .mv (.tmp 0)⟩, ⟨(some 15), none, .len true (.tmp 14)⟩, ⟨(some 16), none, .bin .eql 3 (.tmp 13) (.tmp 15)⟩, ⟨(some 12), none, .mv (.tmp 16)⟩])
 (.cond (.tmp 12) (.seq (.reg [5] [⟨(some 17), none, .mv (.tmp 5)⟩, ⟨(some 2), none, .mv (.tmp 17)⟩, ⟨(some 3), none, .mv (.const (.int .i64 (-1)))⟩, ⟨(some 4), none, .mv (.const (.int .i64 0))⟩])
 .ret) (.seq (.reg [0, 5, 6, 7] [⟨(some 19), none, .mv (.tmp 0)⟩, ⟨(some 20), none, .mv (.tmp 6)⟩, ⟨(some 21), none, .ixs (.tmp 19) (.tmp 20)⟩, ⟨(some 22), none, .bin .eql 5 (.tmp 21) (.const (.int .u8 32))⟩, ⟨(some 23), none, .mv (.tmp 22)⟩, ⟨(some 24), (some (23, false)), .mv (.tmp 0)⟩, ⟨(some 25), (some (23, false)), .mv (.tmp 6)⟩, ⟨(some 26), (some (23, false)), .ixs (.tmp 24) (.tmp 25)⟩, ⟨(some 27), (some (23, false)), .bin .eql 5 (.tmp 26) (.const (.int .u8 10))⟩, ⟨(some 28), none, .pick (.tmp 23) (.const (.bool true)) (.tmp 27)⟩, ⟨(some 18), none, .mv (.tmp 28)⟩])
 (.cond (.tmp 18) (.seq (.reg [0, 5, 6] [⟨(some 29), none, .mv (.tmp 6)⟩, ⟨(some 30), none, .bin .add 3 (.tmp 29) (.const (.int .i64 1))⟩, ⟨(some 6), none, .mv (.tmp 30)⟩])
 (.goto 0)) (.seq (.reg [0, 5, 6, 7] [⟨(some 32), none, .mv (.tmp 0)⟩, ⟨(some 33), none, .mv (.tmp 6)⟩, ⟨(some 34), none, .ixs (.tmp 32) (.tmp 33)⟩, ⟨(some 35), none, .bin .eql 5 (.tmp 34) (.const (.int .u8 35))⟩, ⟨(some 31), none, .mv (.tmp 35)⟩])
 (.cond (.tmp 31) (.goto 1) (.seq (.reg [0, 5, 6, 7] [⟨(some 37), none, .mv (.tmp 0)⟩, ⟨(some 38), none, .mv (.tmp 6)⟩, ⟨(some 39), none, .ixs (.tmp 37) (.tmp 38)⟩, ⟨(some 40), none, .call 61 [(.tmp 39)]⟩, ⟨(some 36), none, .mv (.tmp 40)⟩])
 (.cond (.tmp 36) (.goto 2) (.seq (.reg [0, 5, 6, 7] [⟨(some 42), none, .mv (.tmp 0)⟩, ⟨(some 43), none, .mv (.tmp 6)⟩, ⟨(some 44), none, .ixs (.tmp 42) (.tmp 43)⟩, ⟨(some 45), none, .call 62 [(.tmp 44)]⟩, ⟨(some 41), none, .mv (.tmp 45)⟩])
 (.cond (.tmp 41) (.goto 3) (.seq (.reg [0, 5, 6, 7] [⟨(some 47), none, .mv (.tmp 0)⟩, ⟨(some 48), none, .mv (.tmp 6)⟩, ⟨(some 49), none, .ixs (.tmp 47) (.tmp 48)⟩, ⟨(some 50), none, .bin .eql 5 (.tmp 49) (.const (.int .u8 59))⟩, ⟨(some 46), none, .mv (.tmp 50)⟩])
 (.cond (.tmp 46) (.seq (.reg [0, 5, 6, 7] [⟨(some 51), none, .mv (.tmp 6)⟩, ⟨(some 52), none, .bin .add 3 (.tmp 51) (.const (.int .i64 1))⟩, ⟨(some 6), none, .mv (.tmp 52)⟩])
 (.seq (.reg [0, 5, 6, 7] [⟨(some 53), none, .mv (.tmp 5)⟩, ⟨(some 54), none, .mv (.tmp 7)⟩, ⟨(some 55), none, .mv (.tmp 0)⟩, ⟨(some 56), none, .mv (.tmp 7)⟩, ⟨(some 57), none, .mv (.tmp 6)⟩, ⟨(some 58), none, .slc none (.tmp 55) (some (.tmp 56)) (some (.tmp 57)) none⟩, ⟨(some 59), none, .build [(.int .i64 0), (.int .i64 0), (.string ⟨#[]⟩)] [(0, 1, (.const (.int .i64 3))), (1, 1, (.tmp 54)), (2, 1, (.tmp 58))]⟩, ⟨(some 60), none, .bsl 50 3 [(.int .i64 0), (.int .i64 0), (.string ⟨#[]⟩)] 1 [(0, 3, (.tmp 59))]⟩, ⟨(some 61), none, .app 46 50 3 32 (.agg #[(.int .i64 0), (.int .i64 0), (.string ⟨#[]⟩)]) (.tmp 53) (.tmp 60)⟩, ⟨(some 5), none, .mv (.tmp 61)⟩])
 (.goto 0))) .skip)))))))))))))
 (.seq (.seq (.reg [6] [⟨(some 62), none, .mv (.tmp 6)⟩, ⟨(some 2), none, .mv (.const (.slice none 0 0))⟩, ⟨(some 3), none, .mv (.tmp 62)⟩, ⟨(some 4), none, .mv (.const (.int .i64 3))⟩])
 .ret)
 sc_words_Split_R1)))
/- begin of waymark/words.Split, wants [0, 5, 6] [(5, 61, 50, 3)] -/
def sc_words_Split_R0 : SCode :=
 (.seq (.label [0, 5, 6] [(5, 61, 50, 3)] 0) sc_words_Split_B0)
/- scope of waymark/words.Split, wants  -/
def sc_words_Split_S0 : SCode :=
 (.seq (.reg [0] [⟨(some 5), none, .mv (.const (.slice none 0 0))⟩])
 (.seq (.reg [0, 5] [⟨(some 6), none, .mv (.const (.int .i64 0))⟩, ⟨(some 7), none, .mv (.const (.int .i64 0))⟩])
 (.seq (.seq (.reg [0, 5, 6] [⟨(some 8), none, .mv (.tmp 0)⟩, ⟨(some 9), none, .len true (.tmp 8)⟩, ⟨(some 10), none, .bin .gtr 3 (.tmp 9) (.const (.int .i64 10000))⟩])
 (.cond (.tmp 10) (.seq (.reg [] [⟨(some 2), none, .mv (.const (.slice none 0 0))⟩, ⟨(some 3), none, .mv (.const (.int .i64 0))⟩, ⟨(some 4), none, .mv (.const (.int .i64 6))⟩])
 .ret) .skip))
 sc_words_Split_R0)))
theorem j_words_Split_3 {P : Program} {r : List KI} {K : AEx → S → Prop} {s : S} : exG P sc_words_Split_S0 r K 3 s = EX P (.code sc_words_Split_R3 :: .scp sc_words_Split_S0 :: r) K s := exG_eq rfl
theorem h_words_Split_3 : sc_words_Split_S0.hasL 3 = true := rfl
attribute [go_sem] sc_words_Split_R3 j_words_Split_3 h_words_Split_3
theorem j_words_Split_2 {P : Program} {r : List KI} {K : AEx → S → Prop} {s : S} : exG P sc_words_Split_S0 r K 2 s = EX P (.code sc_words_Split_R2 :: .scp sc_words_Split_S0 :: r) K s := exG_eq rfl
theorem h_words_Split_2 : sc_words_Split_S0.hasL 2 = true := rfl
attribute [go_sem] sc_words_Split_R2 j_words_Split_2 h_words_Split_2
theorem j_words_Split_1 {P : Program} {r : List KI} {K : AEx → S → Prop} {s : S} : exG P sc_words_Split_S0 r K 1 s = EX P (.code sc_words_Split_R1 :: .scp sc_words_Split_S0 :: r) K s := exG_eq rfl
theorem h_words_Split_1 : sc_words_Split_S0.hasL 1 = true := rfl
attribute [go_sem] sc_words_Split_R1 j_words_Split_1 h_words_Split_1
theorem j_words_Split_0 {P : Program} {r : List KI} {K : AEx → S → Prop} {s : S} : exG P sc_words_Split_S0 r K 0 s = EX P (.code sc_words_Split_R0 :: .scp sc_words_Split_S0 :: r) K s := exG_eq rfl
theorem h_words_Split_0 : sc_words_Split_S0.hasL 0 = true := rfl
attribute [go_sem] sc_words_Split_R0 j_words_Split_0 h_words_Split_0
/- 32 waymark/words.Split: slots 0 s, 1 s, 5 out, 6 at, 7 from -/
def sc_words_Split : SCode :=
 (.seq (.reg [0] [⟨(some 2), none, .mv (.const (.slice none 0 0))⟩, ⟨(some 3), none, .mv (.const (.int .i64 0))⟩, ⟨(some 4), none, .mv (.const (.int .i64 0))⟩])
 (.scope sc_words_Split_S0))
theorem fn_words_Split : FnOk Try.prog 32 Try.f32 sc_words_Split [.tmp 2, .tmp 3, .tmp 4] 1 := ⟨Try.func32, by kernel_rfl, by kernel_rfl, by kernel_rfl, by kernel_rfl, by kernel_rfl, by kernel_rfl⟩

/- 61 waymark/words.letter: slots 0 c, 1 c -/
def sc_words_letter : SCode :=
 (.seq (.reg [0] [⟨(some 2), none, .mv (.const (.bool false))⟩])
 (.seq (.reg [0] [⟨(some 3), none, .mv (.tmp 0)⟩, ⟨(some 4), none, .bin .geq 5 (.tmp 3) (.const (.int .u8 97))⟩, ⟨(some 5), none, .mv (.tmp 4)⟩, ⟨(some 6), (some (5, true)), .mv (.tmp 0)⟩, ⟨(some 7), (some (5, true)), .bin .leq 5 (.tmp 6) (.const (.int .u8 122))⟩, ⟨(some 8), none, .pick (.tmp 5) (.tmp 7) (.const (.bool false))⟩, ⟨(some 2), none, .mv (.tmp 8)⟩])
 .ret))
theorem fn_words_letter : FnOk Try.prog 61 Try.f61 sc_words_letter [.tmp 2] 1 := ⟨Try.func61, by kernel_rfl, by kernel_rfl, by kernel_rfl, by kernel_rfl, by kernel_rfl, by kernel_rfl⟩

/- 62 waymark/words.digit: slots 0 c, 1 c -/
def sc_words_digit : SCode :=
 (.seq (.reg [0] [⟨(some 2), none, .mv (.const (.bool false))⟩])
 (.seq (.reg [0] [⟨(some 3), none, .mv (.tmp 0)⟩, ⟨(some 4), none, .bin .geq 5 (.tmp 3) (.const (.int .u8 48))⟩, ⟨(some 5), none, .mv (.tmp 4)⟩, ⟨(some 6), (some (5, true)), .mv (.tmp 0)⟩, ⟨(some 7), (some (5, true)), .bin .leq 5 (.tmp 6) (.const (.int .u8 57))⟩, ⟨(some 8), none, .pick (.tmp 5) (.tmp 7) (.const (.bool false))⟩, ⟨(some 2), none, .mv (.tmp 8)⟩])
 .ret))
theorem fn_words_digit : FnOk Try.prog 62 Try.f62 sc_words_digit [.tmp 2] 1 := ⟨Try.func62, by kernel_rfl, by kernel_rfl, by kernel_rfl, by kernel_rfl, by kernel_rfl, by kernel_rfl⟩

/- 63 waymark/words.inWord: slots 0 c, 1 c -/
def sc_words_inWord : SCode :=
 (.seq (.reg [0] [⟨(some 2), none, .mv (.const (.bool false))⟩])
 (.seq (.reg [0] [⟨(some 3), none, .mv (.tmp 0)⟩, ⟨(some 4), none, .call 61 [(.tmp 3)]⟩, ⟨(some 5), none, .mv (.tmp 4)⟩, ⟨(some 6), (some (5, false)), .mv (.tmp 0)⟩, ⟨(some 7), (some (5, false)), .call 62 [(.tmp 6)]⟩, ⟨(some 8), none, .pick (.tmp 5) (.const (.bool true)) (.tmp 7)⟩, ⟨(some 9), none, .mv (.tmp 8)⟩, ⟨(some 10), (some (9, false)), .mv (.tmp 0)⟩, ⟨(some 11), (some (9, false)), .bin .eql 5 (.tmp 10) (.const (.int .u8 45))⟩, ⟨(some 12), none, .pick (.tmp 9) (.const (.bool true)) (.tmp 11)⟩, ⟨(some 2), none, .mv (.tmp 12)⟩])
 .ret))
theorem fn_words_inWord : FnOk Try.prog 63 Try.f63 sc_words_inWord [.tmp 2] 1 := ⟨Try.func63, by kernel_rfl, by kernel_rfl, by kernel_rfl, by kernel_rfl, by kernel_rfl, by kernel_rfl⟩

/- 64 waymark/words.inNumber: slots 0 c, 1 c -/
def sc_words_inNumber : SCode :=
 (.seq (.reg [0] [⟨(some 2), none, .mv (.const (.bool false))⟩])
 (.seq (.reg [0] [⟨(some 3), none, .mv (.tmp 0)⟩, ⟨(some 4), none, .call 62 [(.tmp 3)]⟩, ⟨(some 5), none, .mv (.tmp 4)⟩, ⟨(some 6), (some (5, false)), .mv (.tmp 0)⟩, ⟨(some 7), (some (5, false)), .bin .eql 5 (.tmp 6) (.const (.int .u8 46))⟩, ⟨(some 8), none, .pick (.tmp 5) (.const (.bool true)) (.tmp 7)⟩, ⟨(some 9), none, .mv (.tmp 8)⟩, ⟨(some 10), (some (9, false)), .mv (.tmp 0)⟩, ⟨(some 11), (some (9, false)), .bin .eql 5 (.tmp 10) (.const (.int .u8 47))⟩, ⟨(some 12), none, .pick (.tmp 9) (.const (.bool true)) (.tmp 11)⟩, ⟨(some 2), none, .mv (.tmp 12)⟩])
 .ret))
theorem fn_words_inNumber : FnOk Try.prog 64 Try.f64 sc_words_inNumber [.tmp 2] 1 := ⟨Try.func64, by kernel_rfl, by kernel_rfl, by kernel_rfl, by kernel_rfl, by kernel_rfl, by kernel_rfl⟩

end Go.Proofs.Ytkephdahbplhfaa
