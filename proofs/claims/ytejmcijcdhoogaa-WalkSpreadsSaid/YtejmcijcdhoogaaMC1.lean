import Derived.Test.YtejmcijcdhoogaaProg
import Derived.Test.YtejmcijcdhoogaaAbsG
set_option maxRecDepth 100000
section
namespace Go.Proofs.Ytejmcijcdhoogaa
open Go Abs

/- loop of waymark/compile.List, wants [12, 13, 17, 19, 55, 56, 57, 63, 64, 65] [(17, 77, 50, 2)] -/
def sc_compile_List_L0 : SCode :=
 (.seq (.reg [12, 13, 17, 19, 55, 56, 57, 63, 64, 65] [⟨(some 66), none, .bin .lss 3 (.tmp 65) (.tmp 64)⟩])
 (.seq (.cond (.tmp 66) .skip (.exit 2))
 (.seq (.block 3 (.seq (.reg [12, 13, 17, 19, 55, 56, 57, 63, 64, 65] [⟨(some 67), none, .ia none 4 (.tmp 63) (.tmp 65)⟩, ⟨(some 68), none, .load 4 true (.tmp 67)⟩, ⟨(some 21), none, .alloc 96 [(.bool false), (.int .i64 0), (.int .i64 0), (.int .i64 0)]⟩, ⟨none, none, .store 4 (.tmp 21) (.tmp 68)⟩])
 (.seq (.reg [12, 13, 17, 19, 21, 55, 56, 57, 63, 64, 65] [⟨(some 69), none, .mv (.tmp 19)⟩, ⟨(some 70), none, .fld 2 (.tmp 21)⟩, ⟨(some 71), none, .load 2 true (.tmp 70)⟩, ⟨(some 72), none, .lk (.a 2 .i64) (.bool false) false (.tmp 69) (.tmp 71)⟩])
 (.cond (.tmp 72) (.seq (.reg [12, 13, 17, 21, 55, 56, 57] [⟨(some 73), none, .mv (.tmp 17)⟩, ⟨(some 74), none, .fld 0 (.tmp 21)⟩, ⟨(some 75), none, .load 2 true (.tmp 74)⟩, ⟨(some 76), none, .bsl 50 2 [(.bool false), (.int .i64 0)] 1 [(0, 2, (.tmp 75))]⟩, ⟨(some 77), none, .app 36 50 2 16 (.agg #[(.bool false), (.int .i64 0)]) (.tmp 73) (.tmp 76)⟩, ⟨(some 17), none, .mv (.tmp 77)⟩])
 (.seq (.reg [12, 13, 17, 21, 55, 56, 57] [⟨(some 78), none, .fld 2 (.tmp 21)⟩, ⟨(some 79), none, .load 2 true (.tmp 78)⟩, ⟨none, none, .store 2 (.tmp 13) (.tmp 79)⟩])
 (.exit 2))) .skip))))
 (.reg [12, 13, 17, 19, 55, 56, 57, 63, 64, 65] [⟨(some 80), none, .bin .add 3 (.tmp 65) (.const (.int .i64 1))⟩, ⟨(some 65), none, .mv (.tmp 80)⟩]))))
/- loop of waymark/compile.List, wants [12, 13, 17, 55, 56, 57] [(17, 77, 50, 2)] -/
def sc_compile_List_L1 : SCode :=
 (.seq (.reg [12, 13, 17, 55, 56, 57] [⟨(some 58), none, .bin .lss 3 (.tmp 57) (.tmp 56)⟩])
 (.seq (.cond (.tmp 58) .skip (.exit 0))
 (.seq (.block 1 (.seq (.reg [12, 13, 17, 55, 56, 57] [⟨(some 59), none, .ia none 1 (.tmp 55) (.tmp 57)⟩, ⟨(some 60), none, .load 1 false (.tmp 59)⟩, ⟨(some 19), none, .mv (.tmp 60)⟩])
 (.seq (.reg [12, 13, 17, 19, 55, 56, 57] [⟨(some 61), none, .mv (.tmp 12)⟩, ⟨(some 62), none, .load 2 true (.tmp 13)⟩, ⟨(some 63), none, .call 46 [(.tmp 61), (.tmp 62)]⟩, ⟨(some 64), none, .len false (.tmp 63)⟩, ⟨(some 65), none, .mv (.const (.int .i64 0))⟩])
 (.block 2 (.loop [12, 13, 17, 19, 55, 56, 57, 63, 64, 65] [(17, 77, 50, 2)] sc_compile_List_L0)))))
 (.reg [12, 13, 17, 55, 56, 57] [⟨(some 81), none, .bin .add 3 (.tmp 57) (.const (.int .i64 1))⟩, ⟨(some 57), none, .mv (.tmp 81)⟩]))))
/- 20 waymark/compile.List: slots 0 t, 1 w, 2 down, 3 depth, 4 t, 5 w, 6 down, 7 depth, 10 m, 11 e, 12 x, 13 at, 14 rounds, 15 ok, 16 left, 17 out, 18 _, 19 may, 20 _, 21 l -/
def sc_compile_List : SCode :=
 (.seq (.reg [0, 1, 2, 3] [⟨(some 5), none, .box 27 (.tmp 1)⟩, ⟨(some 8), none, .mv (.const (.slice none 0 0))⟩, ⟨(some 9), none, .mv (.const (.int .i64 0))⟩])
 (.seq (.reg [0, 2, 3, 5] [⟨(some 23), none, .mv (.tmp 0)⟩, ⟨(some 24), none, .load 7 true (.tmp 5)⟩, ⟨(some 25), none, .mv (.tmp 2)⟩, ⟨(some 26), none, .call 41 [(.tmp 23), (.tmp 24), (.tmp 25)]⟩, ⟨(some 22), none, .mv (.tmp 26)⟩, ⟨(some 27), none, .ext (.tmp 22) 0⟩, ⟨(some 28), none, .ext (.tmp 22) 1⟩, ⟨(some 10), none, .mv (.tmp 27)⟩, ⟨(some 11), none, .mv (.tmp 28)⟩])
 (.seq (.seq (.reg [3, 5, 10, 11] [⟨(some 29), none, .mv (.tmp 11)⟩, ⟨(some 30), none, .bin .neq 37 (.tmp 29) (.const (.int .i64 0))⟩])
 (.cond (.tmp 30) (.seq (.reg [11] [⟨(some 31), none, .mv (.tmp 11)⟩, ⟨(some 8), none, .mv (.const (.slice none 0 0))⟩, ⟨(some 9), none, .mv (.tmp 31)⟩])
 .ret) .skip))
 (.seq (.reg [3, 5, 10] [⟨(some 32), none, .mv (.tmp 10)⟩, ⟨(some 33), none, .load 7 true (.tmp 5)⟩, ⟨(some 34), none, .call 42 [(.tmp 33)]⟩, ⟨(some 35), none, .hp (.mkmap (.a 2 .i64))⟩, ⟨(some 36), none, .build [(.pointer none), (.int .i64 0), (.int .i64 0), (.map none)] [(0, 1, (.tmp 32)), (1, 2, (.tmp 34)), (3, 1, (.tmp 35))]⟩, ⟨(some 37), none, .box 86 (.tmp 36)⟩, ⟨(some 12), none, .mv (.tmp 37)⟩])
 (.seq (.reg [3, 5, 12] [⟨(some 38), none, .load 7 true (.tmp 5)⟩, ⟨(some 39), none, .call 43 [(.tmp 38)]⟩, ⟨(some 13), none, .alloc 82 [(.int .i64 0), (.int .i64 0)]⟩, ⟨none, none, .store 2 (.tmp 13) (.tmp 39)⟩])
 (.seq (.reg [3, 12, 13] [⟨(some 41), none, .mv (.tmp 12)⟩, ⟨(some 42), none, .load 2 true (.tmp 13)⟩, ⟨(some 43), none, .mv (.tmp 3)⟩, ⟨(some 44), none, .mnx false (.tmp 43) (.const (.int .i64 10))⟩, ⟨(some 45), none, .mnx true (.const (.int .i64 0)) (.tmp 44)⟩, ⟨(some 46), none, .call 44 [(.tmp 41), (.tmp 42), (.tmp 45)]⟩, ⟨(some 40), none, .mv (.tmp 46)⟩, ⟨(some 47), none, .ext (.tmp 40) 0⟩, ⟨(some 48), none, .ext (.tmp 40) 1⟩, ⟨(some 14), none, .mv (.tmp 47)⟩, ⟨(some 15), none, .mv (.tmp 48)⟩])
 (.seq (.seq (.reg [12, 13, 14, 15] [⟨(some 49), none, .mv (.tmp 15)⟩, ⟨(some 50), none, .un .not (.tmp 49)⟩])
 (.cond (.tmp 50) (.seq (.reg [] [⟨(some 8), none, .mv (.const (.slice none 0 0))⟩, ⟨(some 9), none, .mv (.const (.int .i64 9))⟩])
 .ret) .skip))
 (.seq (.reg [12, 13, 14] [⟨(some 51), none, .mv (.tmp 12)⟩, ⟨(some 52), none, .mv (.tmp 14)⟩, ⟨(some 53), none, .call 45 [(.tmp 51), (.tmp 52)]⟩, ⟨(some 16), none, .mv (.tmp 53)⟩])
 (.seq (.reg [12, 13, 16] [⟨(some 17), none, .mv (.const (.slice none 0 0))⟩])
 (.seq (.seq (.reg [12, 13, 16, 17] [⟨(some 54), none, .mv (.tmp 16)⟩, ⟨(some 55), none, .slc (some 1) (.tmp 54) (some (.const (.int .i64 1))) none none⟩, ⟨(some 56), none, .len false (.tmp 55)⟩, ⟨(some 57), none, .mv (.const (.int .i64 0))⟩])
 (.block 0 (.loop [12, 13, 17, 55, 56, 57] [(17, 77, 50, 2)] sc_compile_List_L1)))
 (.seq (.reg [17] [⟨(some 82), none, .mv (.tmp 17)⟩, ⟨(some 8), none, .mv (.tmp 82)⟩, ⟨(some 9), none, .mv (.const (.int .i64 0))⟩])
 .ret)))))))))))
theorem fn_compile_List : FnOk Try.prog 20 Try.f20 sc_compile_List [.tmp 8, .tmp 9] 4 := ⟨Try.func20, by kernel_rfl, by kernel_rfl, by kernel_rfl, by kernel_rfl, by kernel_rfl, by kernel_rfl⟩

/- loop of (*waymark/compile.search).rounds, wants [0, 2, 8, 9, 10, 11, 37, 38, 39, 45, 46, 47] [(11, 63, 82, 2)] -/
def sc_compile_search_rounds_L0 : SCode :=
 (.seq (.reg [0, 2, 8, 9, 10, 11, 37, 38, 39, 45, 46, 47] [⟨(some 48), none, .bin .lss 3 (.tmp 47) (.tmp 46)⟩])
 (.seq (.cond (.tmp 48) .skip (.exit 4))
 (.seq (.block 5 (.seq (.reg [0, 2, 8, 9, 10, 11, 37, 38, 39, 45, 46, 47] [⟨(some 49), none, .ia none 4 (.tmp 45) (.tmp 47)⟩, ⟨(some 50), none, .load 4 true (.tmp 49)⟩, ⟨(some 15), none, .alloc 96 [(.bool false), (.int .i64 0), (.int .i64 0), (.int .i64 0)]⟩, ⟨none, none, .store 4 (.tmp 15) (.tmp 50)⟩])
 (.seq (.reg [0, 2, 8, 9, 10, 11, 15, 37, 38, 39, 45, 46, 47] [⟨(some 51), none, .mv (.tmp 8)⟩, ⟨(some 52), none, .fld 2 (.tmp 15)⟩, ⟨(some 53), none, .load 2 true (.tmp 52)⟩, ⟨(some 54), none, .lk (.a 2 .i64) (.bool false) false (.tmp 51) (.tmp 53)⟩, ⟨(some 55), none, .un .not (.tmp 54)⟩])
 (.cond (.tmp 55) (.seq (.reg [0, 2, 8, 9, 10, 11, 15, 37, 38, 39, 45, 46, 47] [⟨(some 56), none, .mv (.tmp 8)⟩, ⟨(some 57), none, .fld 2 (.tmp 15)⟩, ⟨(some 58), none, .load 2 true (.tmp 57)⟩, ⟨none, none, .hp (.mset (.a 2 .i64) (.tmp 56) (.tmp 58) (.const (.bool true)))⟩])
 (.reg [0, 2, 8, 9, 10, 11, 15, 37, 38, 39, 45, 46, 47] [⟨(some 59), none, .mv (.tmp 11)⟩, ⟨(some 60), none, .fld 2 (.tmp 15)⟩, ⟨(some 61), none, .load 2 true (.tmp 60)⟩, ⟨(some 62), none, .bsl 82 2 [(.int .i64 0), (.int .i64 0)] 1 [(0, 2, (.tmp 61))]⟩, ⟨(some 63), none, .app 105 82 2 16 (.agg #[(.int .i64 0), (.int .i64 0)]) (.tmp 59) (.tmp 62)⟩, ⟨(some 11), none, .mv (.tmp 63)⟩])) .skip))))
 (.reg [0, 2, 8, 9, 10, 11, 37, 38, 39, 45, 46, 47] [⟨(some 64), none, .bin .add 3 (.tmp 47) (.const (.int .i64 1))⟩, ⟨(some 47), none, .mv (.tmp 64)⟩]))))
/- loop of (*waymark/compile.search).rounds, wants [0, 2, 8, 9, 10, 11, 37, 38, 39] [(11, 63, 82, 2)] -/
def sc_compile_search_rounds_L1 : SCode :=
 (.seq (.reg [0, 2, 8, 9, 10, 11, 37, 38, 39] [⟨(some 40), none, .bin .lss 3 (.tmp 39) (.tmp 38)⟩])
 (.seq (.cond (.tmp 40) .skip (.exit 2))
 (.seq (.block 3 (.seq (.reg [0, 2, 8, 9, 10, 11, 37, 38, 39] [⟨(some 41), none, .ia none 2 (.tmp 37) (.tmp 39)⟩, ⟨(some 42), none, .load 2 true (.tmp 41)⟩, ⟨(some 13), none, .alloc 82 [(.int .i64 0), (.int .i64 0)]⟩, ⟨none, none, .store 2 (.tmp 13) (.tmp 42)⟩])
 (.seq (.reg [0, 2, 8, 9, 10, 11, 13, 37, 38, 39] [⟨(some 43), none, .mv (.tmp 0)⟩, ⟨(some 44), none, .load 2 true (.tmp 13)⟩, ⟨(some 45), none, .call 46 [(.tmp 43), (.tmp 44)]⟩, ⟨(some 46), none, .len false (.tmp 45)⟩, ⟨(some 47), none, .mv (.const (.int .i64 0))⟩])
 (.block 4 (.loop [0, 2, 8, 9, 10, 11, 37, 38, 39, 45, 46, 47] [(11, 63, 82, 2)] sc_compile_search_rounds_L0)))))
 (.reg [0, 2, 8, 9, 10, 11, 37, 38, 39] [⟨(some 65), none, .bin .add 3 (.tmp 39) (.const (.int .i64 1))⟩, ⟨(some 39), none, .mv (.tmp 65)⟩]))))
/- loop of (*waymark/compile.search).rounds, wants [0, 2, 8, 9, 10] [(9, 69, 105, 1)] -/
def sc_compile_search_rounds_L2 : SCode :=
 (.seq (.seq (.reg [0, 2, 8, 9, 10] [⟨(some 22), none, .mv (.tmp 8)⟩, ⟨(some 23), none, .mv (.tmp 0)⟩, ⟨(some 24), none, .nilc (.tmp 23)⟩, ⟨(some 25), none, .fld 1 (.tmp 24)⟩, ⟨(some 26), none, .load 2 true (.tmp 25)⟩, ⟨(some 27), none, .lk (.a 2 .i64) (.bool false) false (.tmp 22) (.tmp 26)⟩, ⟨(some 28), none, .un .not (.tmp 27)⟩])
 (.cond (.tmp 28) .skip (.exit 0)))
 (.seq (.block 1 (.seq (.seq (.reg [0, 2, 8, 9, 10] [⟨(some 31), none, .mv (.tmp 10)⟩, ⟨(some 32), none, .mv (.tmp 2)⟩, ⟨(some 33), none, .bin .eql 3 (.tmp 31) (.tmp 32)⟩])
 (.cond (.tmp 33) (.seq (.reg [] [⟨(some 6), none, .mv (.const (.slice none 0 0))⟩, ⟨(some 7), none, .mv (.const (.bool false))⟩])
 .ret) .skip))
 (.seq (.reg [0, 2, 8, 9, 10] [⟨(some 11), none, .mv (.const (.slice none 0 0))⟩])
 (.seq (.seq (.reg [0, 2, 8, 9, 10, 11] [⟨(some 34), none, .mv (.tmp 9)⟩, ⟨(some 35), none, .mv (.tmp 10)⟩, ⟨(some 36), none, .ia none 1 (.tmp 34) (.tmp 35)⟩, ⟨(some 37), none, .load 1 false (.tmp 36)⟩, ⟨(some 38), none, .len false (.tmp 37)⟩, ⟨(some 39), none, .mv (.const (.int .i64 0))⟩])
 (.block 2 (.loop [0, 2, 8, 9, 10, 11, 37, 38, 39] [(11, 63, 82, 2)] sc_compile_search_rounds_L1)))
 (.reg [0, 2, 8, 9, 10, 11] [⟨(some 66), none, .mv (.tmp 9)⟩, ⟨(some 67), none, .mv (.tmp 11)⟩, ⟨(some 68), none, .bsl 105 1 [(.slice none 0 0)] 1 [(0, 1, (.tmp 67))]⟩, ⟨(some 69), none, .app 87 105 1 24 (.slice none 0 0) (.tmp 66) (.tmp 68)⟩, ⟨(some 9), none, .mv (.tmp 69)⟩])))))
 (.reg [0, 2, 8, 9, 10] [⟨(some 29), none, .mv (.tmp 10)⟩, ⟨(some 30), none, .bin .add 3 (.tmp 29) (.const (.int .i64 1))⟩, ⟨(some 10), none, .mv (.tmp 30)⟩])))
/- 44 (*waymark/compile.search).rounds: slots 0 x, 1 start, 2 depth, 3 x, 4 start, 5 depth, 8 seen, 9 out, 10 n, 11 next, 12 _, 13 at, 14 _, 15 l -/
def sc_compile_search_rounds : SCode :=
 (.seq (.reg [0, 1, 2] [⟨(some 4), none, .box 82 (.tmp 1)⟩, ⟨(some 6), none, .mv (.const (.slice none 0 0))⟩, ⟨(some 7), none, .mv (.const (.bool false))⟩])
 (.seq (.reg [0, 2, 4] [⟨(some 16), none, .hp (.mkmap (.a 2 .i64))⟩, ⟨(some 17), none, .load 2 true (.tmp 4)⟩, ⟨none, none, .hp (.mset (.a 2 .i64) (.tmp 16) (.tmp 17) (.const (.bool true)))⟩, ⟨(some 18), none, .mv (.tmp 16)⟩, ⟨(some 8), none, .mv (.tmp 18)⟩])
 (.seq (.reg [0, 2, 4, 8] [⟨(some 19), none, .load 2 true (.tmp 4)⟩, ⟨(some 20), none, .bsl 82 2 [(.int .i64 0), (.int .i64 0)] 1 [(0, 2, (.tmp 19))]⟩, ⟨(some 21), none, .ow (.bsl 105 1 [(.slice none 0 0)] 1 [(0, 1, (.tmp 20))])⟩, ⟨(some 9), none, .mv (.tmp 21)⟩])
 (.seq (.seq (.reg [0, 2, 8, 9] [⟨(some 10), none, .mv (.const (.int .i64 0))⟩])
 (.block 0 (.loop [0, 2, 8, 9, 10] [(9, 69, 105, 1)] sc_compile_search_rounds_L2)))
 (.seq (.reg [9] [⟨(some 70), none, .mv (.tmp 9)⟩, ⟨(some 6), none, .mv (.tmp 70)⟩, ⟨(some 7), none, .mv (.const (.bool true))⟩])
 .ret)))))
theorem fn_compile_search_rounds : FnOk Try.prog 44 Try.f44 sc_compile_search_rounds [.tmp 6, .tmp 7] 3 := ⟨Try.func44, by kernel_rfl, by kernel_rfl, by kernel_rfl, by kernel_rfl, by kernel_rfl, by kernel_rfl⟩

/- loop of (*waymark/compile.search).left, wants [0, 1, 5, 6, 8, 39, 40, 41, 47, 48, 49] [] -/
def sc_compile_search_left_L0 : SCode :=
 (.seq (.reg [0, 1, 5, 6, 8, 39, 40, 41, 47, 48, 49] [⟨(some 50), none, .bin .lss 3 (.tmp 49) (.tmp 48)⟩])
 (.seq (.cond (.tmp 50) .skip (.exit 4))
 (.seq (.block 5 (.seq (.reg [0, 1, 5, 6, 8, 39, 40, 41, 47, 48, 49] [⟨(some 51), none, .ia none 4 (.tmp 47) (.tmp 49)⟩, ⟨(some 52), none, .load 4 true (.tmp 51)⟩, ⟨(some 10), none, .alloc 96 [(.bool false), (.int .i64 0), (.int .i64 0), (.int .i64 0)]⟩, ⟨none, none, .store 4 (.tmp 10) (.tmp 52)⟩])
 (.seq (.draw [0, 1, 5, 6, 8, 10, 39, 40, 41, 47, 48, 49] [⟨(some 53), none, .mv (.tmp 5)⟩, ⟨(some 54), none, .mv (.tmp 6)⟩, ⟨(some 55), none, .bin .add 3 (.tmp 54) (.const (.int .i64 1))⟩, ⟨(some 56), none, .ia none 1 (.tmp 53) (.tmp 55)⟩, ⟨(some 57), none, .load 1 false (.tmp 56)⟩, ⟨(some 58), none, .fld 2 (.tmp 10)⟩, ⟨(some 59), none, .load 2 true (.tmp 58)⟩, ⟨(some 60), none, .lk (.a 2 .i64) (.bool false) false (.tmp 57) (.tmp 59)⟩])
 (.cond (.tmp 60) (.draw [0, 1, 5, 6, 8, 39, 40, 41, 47, 48, 49] [⟨(some 61), none, .mv (.tmp 5)⟩, ⟨(some 62), none, .mv (.tmp 6)⟩, ⟨(some 63), none, .ia none 1 (.tmp 61) (.tmp 62)⟩, ⟨(some 64), none, .load 1 false (.tmp 63)⟩, ⟨(some 65), none, .load 2 true (.tmp 8)⟩, ⟨none, none, .hp (.mset (.a 2 .i64) (.tmp 64) (.tmp 65) (.const (.bool true)))⟩]) .skip))))
 (.reg [0, 1, 5, 6, 8, 39, 40, 41, 47, 48, 49] [⟨(some 66), none, .bin .add 3 (.tmp 49) (.const (.int .i64 1))⟩, ⟨(some 49), none, .mv (.tmp 66)⟩]))))
/- loop of (*waymark/compile.search).left, wants [0, 1, 5, 6, 39, 40, 41] [] -/
def sc_compile_search_left_L1 : SCode :=
 (.seq (.reg [0, 1, 5, 6, 39, 40, 41] [⟨(some 42), none, .bin .lss 3 (.tmp 41) (.tmp 40)⟩])
 (.seq (.cond (.tmp 42) .skip (.exit 2))
 (.seq (.block 3 (.seq (.reg [0, 1, 5, 6, 39, 40, 41] [⟨(some 43), none, .ia none 2 (.tmp 39) (.tmp 41)⟩, ⟨(some 44), none, .load 2 true (.tmp 43)⟩, ⟨(some 8), none, .alloc 82 [(.int .i64 0), (.int .i64 0)]⟩, ⟨none, none, .store 2 (.tmp 8) (.tmp 44)⟩])
 (.seq (.reg [0, 1, 5, 6, 8, 39, 40, 41] [⟨(some 45), none, .mv (.tmp 0)⟩, ⟨(some 46), none, .load 2 true (.tmp 8)⟩, ⟨(some 47), none, .call 46 [(.tmp 45), (.tmp 46)]⟩, ⟨(some 48), none, .len false (.tmp 47)⟩, ⟨(some 49), none, .mv (.const (.int .i64 0))⟩])
 (.block 4 (.loop [0, 1, 5, 6, 8, 39, 40, 41, 47, 48, 49] [] sc_compile_search_left_L0)))))
 (.reg [0, 1, 5, 6, 39, 40, 41] [⟨(some 67), none, .bin .add 3 (.tmp 41) (.const (.int .i64 1))⟩, ⟨(some 41), none, .mv (.tmp 67)⟩]))))
/- loop of (*waymark/compile.search).left, wants [0, 1, 5, 6] [] -/
def sc_compile_search_left_L2 : SCode :=
 (.seq (.seq (.reg [0, 1, 5, 6] [⟨(some 28), none, .mv (.tmp 6)⟩, ⟨(some 29), none, .bin .geq 3 (.tmp 28) (.const (.int .i64 0))⟩])
 (.cond (.tmp 29) .skip (.exit 0)))
 (.seq (.block 1 (.seq (.reg [0, 1, 5, 6] [⟨(some 32), none, .mv (.tmp 5)⟩, ⟨(some 33), none, .mv (.tmp 6)⟩, ⟨(some 34), none, .hp (.mkmap (.a 2 .i64))⟩, ⟨(some 35), none, .ia none 1 (.tmp 32) (.tmp 33)⟩, ⟨none, none, .store 1 (.tmp 35) (.tmp 34)⟩])
 (.seq (.reg [0, 1, 5, 6] [⟨(some 36), none, .mv (.tmp 1)⟩, ⟨(some 37), none, .mv (.tmp 6)⟩, ⟨(some 38), none, .ia none 1 (.tmp 36) (.tmp 37)⟩, ⟨(some 39), none, .load 1 false (.tmp 38)⟩, ⟨(some 40), none, .len false (.tmp 39)⟩, ⟨(some 41), none, .mv (.const (.int .i64 0))⟩])
 (.block 2 (.loop [0, 1, 5, 6, 39, 40, 41] [] sc_compile_search_left_L1)))))
 (.reg [0, 1, 5, 6] [⟨(some 30), none, .mv (.tmp 6)⟩, ⟨(some 31), none, .bin .sub 3 (.tmp 30) (.const (.int .i64 1))⟩, ⟨(some 6), none, .mv (.tmp 31)⟩])))
/- 45 (*waymark/compile.search).left: slots 0 x, 1 rounds, 2 x, 3 rounds, 5 out, 6 n, 7 _, 8 at, 9 _, 10 l -/
def sc_compile_search_left : SCode :=
 (.seq (.reg [0, 1] [⟨(some 4), none, .mv (.const (.slice none 0 0))⟩])
 (.seq (.reg [0, 1] [⟨(some 11), none, .mv (.tmp 1)⟩, ⟨(some 12), none, .len false (.tmp 11)⟩, ⟨(some 13), none, .mksl 92 1 8 [(.map none)] (.tmp 12) (.tmp 12)⟩, ⟨(some 5), none, .mv (.tmp 13)⟩])
 (.seq (.reg [0, 1, 5] [⟨(some 14), none, .mv (.tmp 5)⟩, ⟨(some 15), none, .mv (.tmp 5)⟩, ⟨(some 16), none, .len false (.tmp 15)⟩, ⟨(some 17), none, .bin .sub 3 (.tmp 16) (.const (.int .i64 1))⟩, ⟨(some 18), none, .hp (.mkmap (.a 2 .i64))⟩, ⟨(some 19), none, .mv (.tmp 0)⟩, ⟨(some 20), none, .nilc (.tmp 19)⟩, ⟨(some 21), none, .fld 1 (.tmp 20)⟩, ⟨(some 22), none, .load 2 true (.tmp 21)⟩, ⟨none, none, .hp (.mset (.a 2 .i64) (.tmp 18) (.tmp 22) (.const (.bool true)))⟩, ⟨(some 23), none, .mv (.tmp 18)⟩, ⟨(some 24), none, .ia none 1 (.tmp 14) (.tmp 17)⟩, ⟨none, none, .store 1 (.tmp 24) (.tmp 23)⟩])
 (.seq (.seq (.reg [0, 1, 5] [⟨(some 25), none, .mv (.tmp 5)⟩, ⟨(some 26), none, .len false (.tmp 25)⟩, ⟨(some 27), none, .bin .sub 3 (.tmp 26) (.const (.int .i64 2))⟩, ⟨(some 6), none, .mv (.tmp 27)⟩])
 (.block 0 (.loop [0, 1, 5, 6] [] sc_compile_search_left_L2)))
 (.seq (.reg [5] [⟨(some 68), none, .mv (.tmp 5)⟩, ⟨(some 4), none, .mv (.tmp 68)⟩])
 .ret)))))
theorem fn_compile_search_left : FnOk Try.prog 45 Try.f45 sc_compile_search_left [.tmp 4] 2 := ⟨Try.func45, by kernel_rfl, by kernel_rfl, by kernel_rfl, by kernel_rfl, by kernel_rfl, by kernel_rfl⟩

/- loop of (*waymark/compile.search).from, wants [2, 3, 7, 8, 40, 41] [] -/
def sc_compile_search_from_L0 : SCode :=
 (.seq (.reg [2, 3, 7, 8, 40, 41] [⟨(some 42), none, .bin .lss 3 (.tmp 41) (.tmp 40)⟩])
 (.seq (.cond (.tmp 42) .skip (.exit 2))
 (.seq (.block 3 (.seq (.reg [2, 3, 7, 8, 40, 41] [⟨(some 43), none, .mv (.tmp 41)⟩, ⟨(some 10), none, .mv (.tmp 43)⟩])
 (.reg [2, 3, 7, 8, 10, 40, 41] [⟨(some 44), none, .mv (.tmp 8)⟩, ⟨(some 45), none, .mv (.tmp 10)⟩, ⟨(some 46), none, .build [(.bool false), (.int .i64 0)] [(0, 1, (.const (.bool true))), (1, 1, (.tmp 45))]⟩, ⟨(some 47), none, .cald (.tmp 44) [(.tmp 46)]⟩])))
 (.reg [2, 3, 7, 8, 40, 41] [⟨(some 48), none, .bin .add 3 (.tmp 41) (.const (.int .i64 1))⟩, ⟨(some 41), none, .mv (.tmp 48)⟩]))))
/- loop of (*waymark/compile.search).from, wants [2, 3, 7, 8, 27, 28] [] -/
def sc_compile_search_from_L1 : SCode :=
 (.seq (.reg [2, 3, 7, 8, 27, 28] [⟨(some 29), none, .bin .lss 3 (.tmp 28) (.tmp 27)⟩])
 (.seq (.cond (.tmp 29) .skip (.exit 0))
 (.seq (.block 1 (.seq (.reg [2, 3, 7, 8, 27, 28] [⟨(some 30), none, .mv (.tmp 28)⟩, ⟨(some 9), none, .mv (.tmp 30)⟩])
 (.reg [2, 3, 7, 8, 9, 27, 28] [⟨(some 31), none, .mv (.tmp 8)⟩, ⟨(some 32), none, .mv (.tmp 9)⟩, ⟨(some 33), none, .build [(.bool false), (.int .i64 0)] [(1, 1, (.tmp 32))]⟩, ⟨(some 34), none, .cald (.tmp 31) [(.tmp 33)]⟩])))
 (.reg [2, 3, 7, 8, 27, 28] [⟨(some 35), none, .bin .add 3 (.tmp 28) (.const (.int .i64 1))⟩, ⟨(some 28), none, .mv (.tmp 35)⟩]))))
/- 46 (*waymark/compile.search).from: slots 0 x, 1 at, 2 x, 3 at, 5 l, 6 ok, 7 l, 8 add, 9 n, 10 n -/
def sc_compile_search_from : SCode :=
 (.seq (.reg [0, 1] [⟨(some 2), none, .box 81 (.tmp 0)⟩, ⟨(some 3), none, .box 82 (.tmp 1)⟩, ⟨(some 4), none, .mv (.const (.slice none 0 0))⟩])
 (.seq (.seq (.draw [2, 3] [⟨(some 12), none, .load 1 false (.tmp 2)⟩, ⟨(some 13), none, .nilc (.tmp 12)⟩, ⟨(some 14), none, .fld 3 (.tmp 13)⟩, ⟨(some 15), none, .load 1 false (.tmp 14)⟩, ⟨(some 16), none, .load 2 true (.tmp 3)⟩, ⟨(some 17), none, .lk (.a 2 .i64) (.slice none 0 0) true (.tmp 15) (.tmp 16)⟩, ⟨(some 11), none, .mv (.tmp 17)⟩, ⟨(some 18), none, .ext (.tmp 11) 0⟩, ⟨(some 19), none, .ext (.tmp 11) 1⟩, ⟨(some 5), none, .mv (.tmp 18)⟩, ⟨(some 6), none, .mv (.tmp 19)⟩])
 (.seq (.reg [2, 3, 5, 6] [⟨(some 20), none, .mv (.tmp 6)⟩])
 (.cond (.tmp 20) (.seq (.reg [5] [⟨(some 21), none, .mv (.tmp 5)⟩, ⟨(some 4), none, .mv (.tmp 21)⟩])
 .ret) .skip)))
 (.seq (.reg [2, 3] [⟨(some 7), none, .hp (.alloc 93 [(.slice none 0 0)])⟩])
 (.seq (.reg [2, 3, 7] [⟨(some 22), none, .mkfn (.func 73) [] [(.tmp 2), (.tmp 3), (.tmp 7)]⟩, ⟨(some 8), none, .mv (.tmp 22)⟩])
 (.seq (.seq (.reg [2, 3, 7, 8] [⟨(some 23), none, .load 1 false (.tmp 2)⟩, ⟨(some 24), none, .nilc (.tmp 23)⟩, ⟨(some 25), none, .fld 0 (.tmp 24)⟩, ⟨(some 26), none, .load 1 false (.tmp 25)⟩, ⟨(some 27), none, .call 75 [(.tmp 26)]⟩, ⟨(some 28), none, .mv (.const (.int .i64 0))⟩])
 (.block 0 (.loop [2, 3, 7, 8, 27, 28] [] sc_compile_search_from_L1)))
 (.seq (.seq (.reg [2, 3, 7, 8] [⟨(some 36), none, .load 1 false (.tmp 2)⟩, ⟨(some 37), none, .nilc (.tmp 36)⟩, ⟨(some 38), none, .fld 0 (.tmp 37)⟩, ⟨(some 39), none, .load 1 false (.tmp 38)⟩, ⟨(some 40), none, .call 76 [(.tmp 39)]⟩, ⟨(some 41), none, .mv (.const (.int .i64 0))⟩])
 (.block 2 (.loop [2, 3, 7, 8, 40, 41] [] sc_compile_search_from_L0)))
 (.seq (.fz [7] (.draw [2, 3, 7] [⟨(some 49), none, .load 1 false (.tmp 2)⟩, ⟨(some 50), none, .nilc (.tmp 49)⟩, ⟨(some 51), none, .fld 3 (.tmp 50)⟩, ⟨(some 52), none, .load 1 false (.tmp 51)⟩, ⟨(some 53), none, .load 2 true (.tmp 3)⟩, ⟨(some 54), none, .load 1 false (.tmp 7)⟩, ⟨none, none, .hp (.mset (.a 2 .i64) (.tmp 52) (.tmp 53) (.tmp 54))⟩]))
 (.seq (.reg [7] [⟨(some 55), none, .load 1 false (.tmp 7)⟩, ⟨(some 4), none, .mv (.tmp 55)⟩])
 .ret))))))))
theorem fn_compile_search_from : FnOk Try.prog 46 Try.f46 sc_compile_search_from [.tmp 4] 2 := ⟨Try.func46, by kernel_rfl, by kernel_rfl, by kernel_rfl, by kernel_rfl, by kernel_rfl, by kernel_rfl⟩

/- 73 (*waymark/compile.search).from$1: slots 0 s, 4 s, 5 to, 6 ok -/
def sc_compile_search_from_d1 : SCode :=
 (.seq (.reg [0, 1, 2, 3] [⟨(some 4), none, .box 50 (.tmp 0)⟩])
 (.seq (.draw [1, 2, 3, 4] [⟨(some 8), none, .ow (.load 1 false (.tmp 1))⟩, ⟨(some 9), none, .nilc (.tmp 8)⟩, ⟨(some 10), none, .fld 0 (.tmp 9)⟩, ⟨(some 11), none, .ow (.load 1 false (.tmp 10))⟩, ⟨(some 12), none, .ow (.load 2 true (.tmp 2))⟩, ⟨(some 13), none, .ow (.load 2 true (.tmp 4))⟩, ⟨(some 14), none, .call 74 [(.tmp 11), (.tmp 12), (.tmp 13)]⟩, ⟨(some 7), none, .mv (.tmp 14)⟩, ⟨(some 15), none, .ext (.tmp 7) 0⟩, ⟨(some 16), none, .ext (.tmp 7) 1⟩, ⟨(some 5), none, .hp (.alloc 82 [(.int .i64 0), (.int .i64 0)])⟩, ⟨none, none, .store 2 (.tmp 5) (.tmp 15)⟩, ⟨(some 6), none, .mv (.tmp 16)⟩])
 (.seq (.reg [3, 4, 5, 6] [⟨(some 17), none, .mv (.tmp 6)⟩])
 (.cond (.tmp 17) (.reg [3, 4, 5] [⟨(some 18), none, .load 1 false (.tmp 3)⟩, ⟨(some 19), none, .load 2 true (.tmp 4)⟩, ⟨(some 20), none, .load 2 true (.tmp 5)⟩, ⟨(some 21), none, .build [(.bool false), (.int .i64 0), (.int .i64 0), (.int .i64 0)] [(0, 2, (.tmp 19)), (2, 2, (.tmp 20))]⟩, ⟨(some 22), none, .bsl 96 4 [(.bool false), (.int .i64 0), (.int .i64 0), (.int .i64 0)] 1 [(0, 4, (.tmp 21))]⟩, ⟨(some 23), none, .hp (.app 93 96 4 32 (.agg #[(.bool false), (.int .i64 0), (.int .i64 0), (.int .i64 0)]) (.tmp 18) (.tmp 22))⟩, ⟨none, none, .store 1 (.tmp 3) (.tmp 23)⟩]) .skip))))
theorem fn_compile_search_from_d1 : FnOk Try.prog 73 Try.f73 sc_compile_search_from_d1 [] 4 := ⟨Try.func73, by kernel_rfl, by kernel_rfl, by kernel_rfl, by kernel_rfl, by kernel_rfl, by kernel_rfl⟩

end Go.Proofs.Ytejmcijcdhoogaa
end

section
namespace Go.Proofs.Ytejmcijcdhoogaa
open Go Abs

/- 41 waymark/expand.New: slots 0 t, 1 w, 2 down, 3 t, 4 w, 5 down, 8 g, 9 x, 10 e -/
def sc_expand_New : SCode :=
 (.seq (.reg [0, 1, 2] [⟨(some 4), none, .box 27 (.tmp 1)⟩, ⟨(some 6), none, .mv (.const (.pointer none))⟩, ⟨(some 7), none, .mv (.const (.int .i64 0))⟩])
 (.seq (.seq (.reg [0, 2, 4] [⟨(some 11), none, .mv (.tmp 0)⟩, ⟨(some 12), none, .isnil .p false (.tmp 11)⟩])
 (.cond (.tmp 12) (.seq (.reg [] [⟨(some 6), none, .mv (.const (.pointer none))⟩, ⟨(some 7), none, .mv (.const (.int .i64 1))⟩])
 .ret) .skip))
 (.seq (.reg [0, 2, 4] [⟨(some 13), none, .mv (.tmp 0)⟩, ⟨(some 14), none, .call 56 [(.tmp 13)]⟩, ⟨(some 8), none, .alloc 24 [(.int .i64 0), (.slice none 0 0)]⟩, ⟨none, none, .store 2 (.tmp 8) (.tmp 14)⟩])
 (.seq (.reg [0, 2, 4, 8] [⟨(some 16), none, .load 2 true (.tmp 8)⟩, ⟨(some 17), none, .load 7 true (.tmp 4)⟩, ⟨(some 18), none, .mv (.tmp 2)⟩, ⟨(some 19), none, .call 70 [(.tmp 16), (.tmp 17), (.tmp 18)]⟩, ⟨(some 15), none, .mv (.tmp 19)⟩, ⟨(some 20), none, .ext (.tmp 15) 0⟩, ⟨(some 21), none, .ext (.tmp 15) 1⟩, ⟨(some 9), none, .mv (.tmp 20)⟩, ⟨(some 10), none, .mv (.tmp 21)⟩])
 (.seq (.seq (.reg [0, 8, 9, 10] [⟨(some 22), none, .mv (.tmp 10)⟩, ⟨(some 23), none, .bin .neq 37 (.tmp 22) (.const (.int .i64 0))⟩])
 (.cond (.tmp 23) (.seq (.reg [10] [⟨(some 24), none, .mv (.tmp 10)⟩, ⟨(some 6), none, .mv (.const (.pointer none))⟩, ⟨(some 7), none, .mv (.tmp 24)⟩])
 .ret) .skip))
 (.seq (.reg [0, 8, 9] [⟨(some 25), none, .mv (.tmp 0)⟩, ⟨(some 26), none, .load 2 true (.tmp 8)⟩, ⟨(some 27), none, .mv (.tmp 9)⟩, ⟨(some 28), none, .build [(.pointer none), (.int .i64 0), (.slice none 0 0), (.pointer none)] [(0, 1, (.tmp 25)), (1, 2, (.tmp 26)), (3, 1, (.tmp 27))]⟩, ⟨(some 29), none, .box 132 (.tmp 28)⟩, ⟨(some 6), none, .mv (.tmp 29)⟩, ⟨(some 7), none, .mv (.const (.int .i64 0))⟩])
 .ret))))))
theorem fn_expand_New : FnOk Try.prog 41 Try.f41 sc_expand_New [.tmp 6, .tmp 7] 3 := ⟨Try.func41, by kernel_rfl, by kernel_rfl, by kernel_rfl, by kernel_rfl, by kernel_rfl, by kernel_rfl⟩

/- 74 (*waymark/expand.Map).Seg: slots 0 m, 1 at, 2 s, 3 m, 4 at, 5 s -/
def sc_expand_Map_Seg : SCode :=
 (.seq (.reg [0, 1, 2] [⟨(some 4), none, .box 82 (.tmp 1)⟩, ⟨(some 5), none, .box 50 (.tmp 2)⟩, ⟨(some 6), none, .alloc 82 [(.int .i64 0), (.int .i64 0)]⟩, ⟨(some 7), none, .mv (.const (.bool false))⟩])
 (.seq (.seq (.reg [0, 4, 5, 6] [⟨(some 8), none, .mv (.tmp 0)⟩, ⟨(some 9), none, .isnil .p false (.tmp 8)⟩])
 (.cond (.tmp 9) (.seq (.reg [6] [⟨(some 10), none, .build [(.int .i64 0), (.int .i64 0)] []⟩, ⟨none, none, .store 2 (.tmp 6) (.tmp 10)⟩, ⟨(some 7), none, .mv (.const (.bool false))⟩])
 .ret) .skip))
 (.seq (.seq (.reg [0, 4, 5, 6] [⟨(some 11), none, .fld 0 (.tmp 5)⟩, ⟨(some 12), none, .load 1 false (.tmp 11)⟩])
 (.cond (.tmp 12) (.seq (.draw [0, 4, 5, 6] [⟨(some 13), none, .mv (.tmp 0)⟩, ⟨(some 14), none, .nilc (.tmp 13)⟩, ⟨(some 15), none, .fld 3 (.tmp 14)⟩, ⟨(some 16), none, .load 1 false (.tmp 15)⟩, ⟨(some 17), none, .load 2 true (.tmp 4)⟩, ⟨(some 18), none, .fld 1 (.tmp 5)⟩, ⟨(some 19), none, .load 1 false (.tmp 18)⟩, ⟨(some 20), none, .call 92 [(.tmp 16), (.tmp 17), (.tmp 19)]⟩, ⟨(some 21), none, .ext (.tmp 20) 0⟩, ⟨(some 22), none, .ext (.tmp 20) 1⟩, ⟨none, none, .store 2 (.tmp 6) (.tmp 21)⟩, ⟨(some 7), none, .mv (.tmp 22)⟩])
 .ret) .skip))
 (.seq (.reg [0, 4, 5, 6] [⟨(some 23), none, .mv (.tmp 0)⟩, ⟨(some 24), none, .load 2 true (.tmp 4)⟩, ⟨(some 25), none, .fld 1 (.tmp 5)⟩, ⟨(some 26), none, .load 1 false (.tmp 25)⟩, ⟨(some 27), none, .call 93 [(.tmp 23), (.tmp 24), (.tmp 26)]⟩, ⟨(some 28), none, .ext (.tmp 27) 0⟩, ⟨(some 29), none, .ext (.tmp 27) 1⟩, ⟨none, none, .store 2 (.tmp 6) (.tmp 28)⟩, ⟨(some 7), none, .mv (.tmp 29)⟩])
 .ret))))
theorem fn_expand_Map_Seg : FnOk Try.prog 74 Try.f74 sc_expand_Map_Seg [.cell 6 2 true, .tmp 7] 3 := ⟨Try.func74, by kernel_rfl, by kernel_rfl, by kernel_rfl, by kernel_rfl, by kernel_rfl, by kernel_rfl⟩

/- 75 (*waymark/expand.Map).Nodes: slots 0 m, 1 m -/
def sc_expand_Map_Nodes : SCode :=
 (.seq (.reg [0] [⟨(some 2), none, .mv (.const (.int .i64 0))⟩])
 (.seq (.reg [0] [⟨(some 3), none, .mv (.tmp 0)⟩, ⟨(some 4), none, .nilc (.tmp 3)⟩, ⟨(some 5), none, .fld 1 (.tmp 4)⟩, ⟨(some 6), none, .fld 0 (.tmp 5)⟩, ⟨(some 7), none, .load 1 false (.tmp 6)⟩, ⟨(some 2), none, .mv (.tmp 7)⟩])
 .ret))
theorem fn_expand_Map_Nodes : FnOk Try.prog 75 Try.f75 sc_expand_Map_Nodes [.tmp 2] 1 := ⟨Try.func75, by kernel_rfl, by kernel_rfl, by kernel_rfl, by kernel_rfl, by kernel_rfl, by kernel_rfl⟩

/- 76 (*waymark/expand.Map).Edges: slots 0 m, 1 m -/
def sc_expand_Map_Edges : SCode :=
 (.seq (.reg [0] [⟨(some 2), none, .mv (.const (.int .i64 0))⟩])
 (.seq (.reg [0] [⟨(some 3), none, .mv (.tmp 0)⟩, ⟨(some 4), none, .nilc (.tmp 3)⟩, ⟨(some 5), none, .fld 1 (.tmp 4)⟩, ⟨(some 6), none, .fld 1 (.tmp 5)⟩, ⟨(some 7), none, .load 1 false (.tmp 6)⟩, ⟨(some 8), none, .len false (.tmp 7)⟩, ⟨(some 9), none, .bin .mul 3 (.const (.int .i64 2)) (.tmp 8)⟩, ⟨(some 2), none, .mv (.tmp 9)⟩])
 .ret))
theorem fn_expand_Map_Edges : FnOk Try.prog 76 Try.f76 sc_expand_Map_Edges [.tmp 2] 1 := ⟨Try.func76, by kernel_rfl, by kernel_rfl, by kernel_rfl, by kernel_rfl, by kernel_rfl, by kernel_rfl⟩

/- loop of (*waymark/expand.Map).node, wants [0, 2, 6, 9, 11, 57, 58, 59, 69, 70, 71] [] -/
def sc_expand_Map_node_L0 : SCode :=
 (.seq (.reg [0, 2, 6, 9, 11, 57, 58, 59, 69, 70, 71] [⟨(some 72), none, .bin .lss 3 (.tmp 71) (.tmp 70)⟩])
 (.seq (.cond (.tmp 72) .skip (.exit 2))
 (.seq (.block 3 (.seq (.reg [0, 2, 6, 9, 11, 57, 58, 59, 69, 70, 71] [⟨(some 73), none, .ia none 1 (.tmp 69) (.tmp 71)⟩, ⟨(some 74), none, .load 1 false (.tmp 73)⟩, ⟨(some 13), none, .mv (.tmp 74)⟩])
 (.seq (.reg [0, 2, 6, 9, 11, 13, 57, 58, 59, 69, 70, 71] [⟨(some 75), none, .mv (.tmp 0)⟩, ⟨(some 76), none, .mv (.tmp 9)⟩, ⟨(some 77), none, .mv (.tmp 11)⟩, ⟨(some 78), none, .mv (.tmp 13)⟩, ⟨(some 79), none, .call 107 [(.tmp 75), (.tmp 76), (.tmp 77), (.tmp 78)]⟩, ⟨(some 80), none, .un .not (.tmp 79)⟩])
 (.cond (.tmp 80) (.seq (.reg [6] [⟨(some 81), none, .build [(.int .i64 0), (.int .i64 0)] []⟩, ⟨none, none, .store 2 (.tmp 6) (.tmp 81)⟩, ⟨(some 7), none, .mv (.const (.bool false))⟩])
 .ret) .skip))))
 (.reg [0, 2, 6, 9, 11, 57, 58, 59, 69, 70, 71] [⟨(some 82), none, .bin .add 3 (.tmp 71) (.const (.int .i64 1))⟩, ⟨(some 71), none, .mv (.tmp 82)⟩]))))
/- loop of (*waymark/expand.Map).node, wants [0, 2, 6, 9, 57, 58, 59] [] -/
def sc_expand_Map_node_L1 : SCode :=
 (.seq (.reg [0, 2, 6, 9, 57, 58, 59] [⟨(some 60), none, .bin .lss 3 (.tmp 59) (.tmp 58)⟩])
 (.seq (.cond (.tmp 60) .skip (.exit 0))
 (.seq (.block 1 (.seq (.reg [0, 2, 6, 9, 57, 58, 59] [⟨(some 61), none, .ia none 1 (.tmp 57) (.tmp 59)⟩, ⟨(some 62), none, .load 1 false (.tmp 61)⟩, ⟨(some 11), none, .mv (.tmp 62)⟩])
 (.seq (.reg [0, 2, 6, 9, 11, 57, 58, 59] [⟨(some 63), none, .mv (.tmp 0)⟩, ⟨(some 64), none, .nilc (.tmp 63)⟩, ⟨(some 65), none, .fld 0 (.tmp 64)⟩, ⟨(some 66), none, .load 1 false (.tmp 65)⟩, ⟨(some 67), none, .mv (.tmp 11)⟩, ⟨(some 68), none, .mv (.tmp 2)⟩, ⟨(some 69), none, .call 95 [(.tmp 66), (.tmp 67), (.tmp 68)]⟩, ⟨(some 70), none, .len false (.tmp 69)⟩, ⟨(some 71), none, .mv (.const (.int .i64 0))⟩])
 (.block 2 (.loop [0, 2, 6, 9, 11, 57, 58, 59, 69, 70, 71] [] sc_expand_Map_node_L0)))))
 (.reg [0, 2, 6, 9, 57, 58, 59] [⟨(some 83), none, .bin .add 3 (.tmp 59) (.const (.int .i64 1))⟩, ⟨(some 59), none, .mv (.tmp 83)⟩]))))
/- 93 (*waymark/expand.Map).node: slots 0 m, 1 at, 2 to, 3 m, 4 at, 5 to, 8 from, 9 l, 10 _, 11 n, 12 _, 13 edge, 14 k, 15 ok -/
def sc_expand_Map_node : SCode :=
 (.seq (.reg [0, 1, 2] [⟨(some 4), none, .box 82 (.tmp 1)⟩, ⟨(some 6), none, .alloc 82 [(.int .i64 0), (.int .i64 0)]⟩, ⟨(some 7), none, .mv (.const (.bool false))⟩])
 (.seq (.reg [0, 2, 4, 6] [⟨(some 16), none, .ia (some 2) 1 (.tmp 4) (.const (.int .i64 0))⟩, ⟨(some 17), none, .load 1 false (.tmp 16)⟩, ⟨(some 8), none, .mv (.tmp 17)⟩])
 (.seq (.seq (.reg [0, 2, 4, 6, 8] [⟨(some 18), none, .mv (.tmp 8)⟩, ⟨(some 19), none, .mv (.tmp 2)⟩, ⟨(some 20), none, .bin .eql 3 (.tmp 18) (.tmp 19)⟩, ⟨(some 21), none, .mv (.tmp 20)⟩, ⟨(some 22), (some (21, false)), .mv (.tmp 0)⟩, ⟨(some 23), (some (21, false)), .nilc (.tmp 22)⟩, ⟨(some 24), (some (21, false)), .fld 0 (.tmp 23)⟩, ⟨(some 25), (some (21, false)), .load 1 false (.tmp 24)⟩, ⟨(some 26), (some (21, false)), .mv (.tmp 8)⟩, ⟨(some 27), (some (21, false)), .mv (.tmp 2)⟩, ⟨(some 28), (some (21, false)), .call 105 [(.tmp 25), (.tmp 26), (.tmp 27)]⟩, ⟨(some 29), (some (21, false)), .bin .lss 3 (.tmp 28) (.const (.int .i64 0))⟩, ⟨(some 30), none, .pick (.tmp 21) (.const (.bool true)) (.tmp 29)⟩, ⟨(some 31), none, .mv (.tmp 30)⟩, ⟨(some 32), (some (31, false)), .ia (some 2) 1 (.tmp 4) (.const (.int .i64 1))⟩, ⟨(some 33), (some (31, false)), .load 1 false (.tmp 32)⟩, ⟨(some 34), (some (31, false)), .bin .lss 3 (.tmp 33) (.const (.int .i64 0))⟩, ⟨(some 35), none, .pick (.tmp 31) (.const (.bool true)) (.tmp 34)⟩, ⟨(some 36), none, .mv (.tmp 35)⟩, ⟨(some 37), (some (36, false)), .ia (some 2) 1 (.tmp 4) (.const (.int .i64 1))⟩, ⟨(some 38), (some (36, false)), .load 1 false (.tmp 37)⟩, ⟨(some 39), (some (36, false)), .bin .geq 3 (.tmp 38) (.const (.int .i64 6))⟩, ⟨(some 40), none, .pick (.tmp 36) (.const (.bool true)) (.tmp 39)⟩])
 (.cond (.tmp 40) (.seq (.reg [6] [⟨(some 41), none, .build [(.int .i64 0), (.int .i64 0)] []⟩, ⟨none, none, .store 2 (.tmp 6) (.tmp 41)⟩, ⟨(some 7), none, .mv (.const (.bool false))⟩])
 .ret) .skip))
 (.seq (.reg [0, 2, 4, 6, 8] [⟨(some 42), none, .mv (.tmp 0)⟩, ⟨(some 43), none, .nilc (.tmp 42)⟩, ⟨(some 44), none, .fld 1 (.tmp 43)⟩, ⟨(some 45), none, .fld 0 (.tmp 44)⟩, ⟨(some 46), none, .load 1 false (.tmp 45)⟩, ⟨(some 47), none, .hp (.mksl 165 6 6 [(.bool false), (.bool false), (.bool false), (.bool false), (.bool false), (.bool false)] (.tmp 46) (.tmp 46))⟩, ⟨(some 9), none, .mv (.tmp 47)⟩])
 (.seq (.draw [0, 2, 4, 6, 8, 9] [⟨(some 48), none, .mv (.tmp 9)⟩, ⟨(some 49), none, .mv (.tmp 8)⟩, ⟨(some 50), none, .ia (some 2) 1 (.tmp 4) (.const (.int .i64 1))⟩, ⟨(some 51), none, .load 1 false (.tmp 50)⟩, ⟨(some 52), none, .ia none 6 (.tmp 48) (.tmp 49)⟩, ⟨(some 53), none, .ia (some 6) 1 (.tmp 52) (.tmp 51)⟩, ⟨none, none, .store 1 (.tmp 53) (.const (.bool true))⟩])
 (.seq (.seq (.reg [0, 2, 6, 8, 9] [⟨(some 54), none, .mv (.tmp 0)⟩, ⟨(some 55), none, .mv (.tmp 8)⟩, ⟨(some 56), none, .mv (.tmp 2)⟩, ⟨(some 57), none, .call 106 [(.tmp 54), (.tmp 55), (.tmp 56)]⟩, ⟨(some 58), none, .len false (.tmp 57)⟩, ⟨(some 59), none, .mv (.const (.int .i64 0))⟩])
 (.block 0 (.loop [0, 2, 6, 9, 57, 58, 59] [] sc_expand_Map_node_L1)))
 (.seq (.reg [2, 6, 9] [⟨(some 85), none, .mv (.tmp 9)⟩, ⟨(some 86), none, .mv (.tmp 2)⟩, ⟨(some 87), none, .ia none 6 (.tmp 85) (.tmp 86)⟩, ⟨(some 88), none, .load 6 true (.tmp 87)⟩, ⟨(some 89), none, .call 108 [(.tmp 88)]⟩, ⟨(some 84), none, .mv (.tmp 89)⟩, ⟨(some 90), none, .ext (.tmp 84) 0⟩, ⟨(some 91), none, .ext (.tmp 84) 1⟩, ⟨(some 14), none, .mv (.tmp 90)⟩, ⟨(some 15), none, .mv (.tmp 91)⟩])
 (.seq (.seq (.reg [2, 6, 14, 15] [⟨(some 92), none, .mv (.tmp 15)⟩, ⟨(some 93), none, .un .not (.tmp 92)⟩])
 (.cond (.tmp 93) (.seq (.reg [6] [⟨(some 94), none, .build [(.int .i64 0), (.int .i64 0)] []⟩, ⟨none, none, .store 2 (.tmp 6) (.tmp 94)⟩, ⟨(some 7), none, .mv (.const (.bool false))⟩])
 .ret) .skip))
 (.seq (.reg [2, 6, 14] [⟨(some 95), none, .mv (.tmp 2)⟩, ⟨(some 96), none, .mv (.tmp 14)⟩, ⟨(some 97), none, .build [(.int .i64 0), (.int .i64 0)] [(0, 1, (.tmp 95)), (1, 1, (.tmp 96))]⟩, ⟨none, none, .store 2 (.tmp 6) (.tmp 97)⟩, ⟨(some 7), none, .mv (.const (.bool true))⟩])
 .ret)))))))))
theorem fn_expand_Map_node : FnOk Try.prog 93 Try.f93 sc_expand_Map_node [.cell 6 2 true, .tmp 7] 3 := ⟨Try.func93, by kernel_rfl, by kernel_rfl, by kernel_rfl, by kernel_rfl, by kernel_rfl, by kernel_rfl⟩

/- loop of (*waymark/expand.Map).order, wants [0, 2, 8, 16, 73, 74] [] -/
def sc_expand_Map_order_L0 : SCode :=
 (.seq (.seq (.draw [0, 2, 8, 16, 73, 74] [⟨(some 78), none, .mv (.tmp 16)⟩, ⟨(some 79), none, .bin .gtr 3 (.tmp 78) (.const (.int .i64 0))⟩, ⟨(some 80), none, .mv (.tmp 79)⟩, ⟨(some 81), (some (80, true)), .mv (.tmp 0)⟩, ⟨(some 82), (some (80, true)), .nilc (.tmp 81)⟩, ⟨(some 83), (some (80, true)), .fld 0 (.tmp 82)⟩, ⟨(some 84), (some (80, true)), .load 1 false (.tmp 83)⟩, ⟨(some 85), (some (80, true)), .mv (.tmp 8)⟩, ⟨(some 86), (some (80, true)), .mv (.tmp 16)⟩, ⟨(some 87), (some (80, true)), .ia none 1 (.tmp 85) (.tmp 86)⟩, ⟨(some 88), (some (80, true)), .load 1 false (.tmp 87)⟩, ⟨(some 89), (some (80, true)), .mv (.tmp 2)⟩, ⟨(some 90), (some (80, true)), .call 105 [(.tmp 84), (.tmp 88), (.tmp 89)]⟩, ⟨(some 91), (some (80, true)), .mv (.tmp 0)⟩, ⟨(some 92), (some (80, true)), .nilc (.tmp 91)⟩, ⟨(some 93), (some (80, true)), .fld 0 (.tmp 92)⟩, ⟨(some 94), (some (80, true)), .load 1 false (.tmp 93)⟩, ⟨(some 95), (some (80, true)), .mv (.tmp 8)⟩, ⟨(some 96), (some (80, true)), .mv (.tmp 16)⟩, ⟨(some 97), (some (80, true)), .bin .sub 3 (.tmp 96) (.const (.int .i64 1))⟩, ⟨(some 98), (some (80, true)), .ia none 1 (.tmp 95) (.tmp 97)⟩, ⟨(some 99), (some (80, true)), .load 1 false (.tmp 98)⟩, ⟨(some 100), (some (80, true)), .mv (.tmp 2)⟩, ⟨(some 101), (some (80, true)), .call 105 [(.tmp 94), (.tmp 99), (.tmp 100)]⟩, ⟨(some 102), (some (80, true)), .bin .gtr 3 (.tmp 90) (.tmp 101)⟩, ⟨(some 103), none, .pick (.tmp 80) (.tmp 102) (.const (.bool false))⟩])
 (.cond (.tmp 103) .skip (.exit 6)))
 (.seq (.block 7 (.draw [0, 2, 8, 16, 73, 74] [⟨(some 106), none, .mv (.tmp 8)⟩, ⟨(some 107), none, .mv (.tmp 16)⟩, ⟨(some 108), none, .mv (.tmp 8)⟩, ⟨(some 109), none, .mv (.tmp 16)⟩, ⟨(some 110), none, .bin .sub 3 (.tmp 109) (.const (.int .i64 1))⟩, ⟨(some 111), none, .mv (.tmp 8)⟩, ⟨(some 112), none, .mv (.tmp 16)⟩, ⟨(some 113), none, .bin .sub 3 (.tmp 112) (.const (.int .i64 1))⟩, ⟨(some 114), none, .ia none 1 (.tmp 111) (.tmp 113)⟩, ⟨(some 115), none, .load 1 false (.tmp 114)⟩, ⟨(some 116), none, .mv (.tmp 8)⟩, ⟨(some 117), none, .mv (.tmp 16)⟩, ⟨(some 118), none, .ia none 1 (.tmp 116) (.tmp 117)⟩, ⟨(some 119), none, .load 1 false (.tmp 118)⟩, ⟨(some 120), none, .ia none 1 (.tmp 106) (.tmp 107)⟩, ⟨none, none, .store 1 (.tmp 120) (.tmp 115)⟩, ⟨(some 121), none, .ia none 1 (.tmp 108) (.tmp 110)⟩, ⟨none, none, .store 1 (.tmp 121) (.tmp 119)⟩]))
 (.reg [0, 2, 8, 16, 73, 74] [⟨(some 104), none, .mv (.tmp 16)⟩, ⟨(some 105), none, .bin .sub 3 (.tmp 104) (.const (.int .i64 1))⟩, ⟨(some 16), none, .mv (.tmp 105)⟩])))
/- loop of (*waymark/expand.Map).order, wants [0, 2, 8, 73, 74] [] -/
def sc_expand_Map_order_L1 : SCode :=
 (.seq (.reg [0, 2, 8, 73, 74] [⟨(some 75), none, .bin .lss 3 (.tmp 74) (.tmp 73)⟩])
 (.seq (.cond (.tmp 75) .skip (.exit 4))
 (.seq (.block 5 (.seq (.reg [0, 2, 8, 73, 74] [⟨(some 76), none, .mv (.tmp 74)⟩, ⟨(some 15), none, .mv (.tmp 76)⟩])
 (.seq (.reg [0, 2, 8, 15, 73, 74] [⟨(some 77), none, .mv (.tmp 15)⟩, ⟨(some 16), none, .mv (.tmp 77)⟩])
 (.block 6 (.loop [0, 2, 8, 16, 73, 74] [] sc_expand_Map_order_L0)))))
 (.reg [0, 2, 8, 73, 74] [⟨(some 122), none, .bin .add 3 (.tmp 74) (.const (.int .i64 1))⟩, ⟨(some 74), none, .mv (.tmp 122)⟩]))))
/- loop of (*waymark/expand.Map).order, wants [0, 2, 7, 8, 9, 43, 44, 45] [(8, 70, 3, 1)] -/
def sc_expand_Map_order_L2 : SCode :=
 (.seq (.reg [0, 2, 7, 8, 9, 43, 44, 45] [⟨(some 46), none, .bin .lss 3 (.tmp 45) (.tmp 44)⟩])
 (.seq (.cond (.tmp 46) .skip (.exit 2))
 (.seq (.block 3 (.seq (.reg [0, 2, 7, 8, 9, 43, 44, 45] [⟨(some 47), none, .ia none 1 (.tmp 43) (.tmp 45)⟩, ⟨(some 48), none, .load 1 false (.tmp 47)⟩, ⟨(some 11), none, .mv (.tmp 48)⟩])
 (.seq (.reg [0, 2, 7, 8, 9, 11, 43, 44, 45] [⟨(some 50), none, .mv (.tmp 0)⟩, ⟨(some 51), none, .nilc (.tmp 50)⟩, ⟨(some 52), none, .fld 1 (.tmp 51)⟩, ⟨(some 53), none, .load 2 true (.tmp 52)⟩, ⟨(some 54), none, .mv (.tmp 11)⟩, ⟨(some 55), none, .call 57 [(.tmp 53), (.tmp 54)]⟩, ⟨(some 49), none, .mv (.tmp 55)⟩, ⟨(some 56), none, .ext (.tmp 49) 0⟩, ⟨(some 57), none, .ext (.tmp 49) 1⟩, ⟨(some 58), none, .ext (.tmp 49) 2⟩, ⟨(some 12), none, .mv (.tmp 56)⟩, ⟨(some 13), none, .mv (.tmp 57)⟩, ⟨(some 14), none, .mv (.tmp 58)⟩])
 (.seq (.reg [0, 2, 7, 8, 9, 13, 43, 44, 45] [⟨(some 59), none, .mv (.tmp 7)⟩, ⟨(some 60), none, .mv (.tmp 13)⟩, ⟨(some 61), none, .ia none 1 (.tmp 59) (.tmp 60)⟩, ⟨(some 62), none, .load 1 false (.tmp 61)⟩, ⟨(some 63), none, .un .not (.tmp 62)⟩])
 (.cond (.tmp 63) (.seq (.reg [0, 2, 7, 8, 9, 13, 43, 44, 45] [⟨(some 64), none, .mv (.tmp 7)⟩, ⟨(some 65), none, .mv (.tmp 13)⟩, ⟨(some 66), none, .ia none 1 (.tmp 64) (.tmp 65)⟩, ⟨none, none, .store 1 (.tmp 66) (.const (.bool true))⟩])
 (.reg [0, 2, 7, 8, 9, 13, 43, 44, 45] [⟨(some 67), none, .mv (.tmp 8)⟩, ⟨(some 68), none, .mv (.tmp 13)⟩, ⟨(some 69), none, .bsl 3 1 [(.int .i64 0)] 1 [(0, 1, (.tmp 68))]⟩, ⟨(some 70), none, .app 25 3 1 8 (.int .i64 0) (.tmp 67) (.tmp 69)⟩, ⟨(some 8), none, .mv (.tmp 70)⟩])) .skip)))))
 (.reg [0, 2, 7, 8, 9, 43, 44, 45] [⟨(some 71), none, .bin .add 3 (.tmp 45) (.const (.int .i64 1))⟩, ⟨(some 45), none, .mv (.tmp 71)⟩]))))
/- loop of (*waymark/expand.Map).order, wants [0, 2, 7, 8, 9] [(8, 70, 3, 1)] -/
def sc_expand_Map_order_L3 : SCode :=
 (.seq (.seq (.reg [0, 2, 7, 8, 9] [⟨(some 28), none, .mv (.tmp 9)⟩, ⟨(some 29), none, .mv (.tmp 8)⟩, ⟨(some 30), none, .len false (.tmp 29)⟩, ⟨(some 31), none, .bin .lss 3 (.tmp 28) (.tmp 30)⟩])
 (.cond (.tmp 31) .skip (.exit 0)))
 (.seq (.block 1 (.seq (.draw [0, 2, 7, 8, 9] [⟨(some 34), none, .mv (.tmp 0)⟩, ⟨(some 35), none, .nilc (.tmp 34)⟩, ⟨(some 36), none, .fld 0 (.tmp 35)⟩, ⟨(some 37), none, .load 1 false (.tmp 36)⟩, ⟨(some 38), none, .mv (.tmp 8)⟩, ⟨(some 39), none, .mv (.tmp 9)⟩, ⟨(some 40), none, .ia none 1 (.tmp 38) (.tmp 39)⟩, ⟨(some 41), none, .load 1 false (.tmp 40)⟩, ⟨(some 42), none, .mv (.tmp 2)⟩, ⟨(some 43), none, .call 95 [(.tmp 37), (.tmp 41), (.tmp 42)]⟩, ⟨(some 44), none, .len false (.tmp 43)⟩, ⟨(some 45), none, .mv (.const (.int .i64 0))⟩])
 (.block 2 (.loop [0, 2, 7, 8, 9, 43, 44, 45] [(8, 70, 3, 1)] sc_expand_Map_order_L2))))
 (.reg [0, 2, 7, 8, 9] [⟨(some 32), none, .mv (.tmp 9)⟩, ⟨(some 33), none, .bin .add 3 (.tmp 32) (.const (.int .i64 1))⟩, ⟨(some 9), none, .mv (.tmp 33)⟩])))
/- 106 (*waymark/expand.Map).order: slots 0 m, 1 from, 2 to, 3 m, 4 from, 5 to, 7 seen, 8 work, 9 i, 10 _, 11 edge, 12 _, 13 end, 14 _, 15 i, 16 k -/
def sc_expand_Map_order : SCode :=
 (.seq (.reg [0, 1, 2] [⟨(some 6), none, .mv (.const (.slice none 0 0))⟩])
 (.seq (.reg [0, 1, 2] [⟨(some 17), none, .mv (.tmp 0)⟩, ⟨(some 18), none, .nilc (.tmp 17)⟩, ⟨(some 19), none, .fld 1 (.tmp 18)⟩, ⟨(some 20), none, .fld 0 (.tmp 19)⟩, ⟨(some 21), none, .load 1 false (.tmp 20)⟩, ⟨(some 22), none, .mksl 4 1 1 [(.bool false)] (.tmp 21) (.tmp 21)⟩, ⟨(some 7), none, .mv (.tmp 22)⟩])
 (.seq (.reg [0, 1, 2, 7] [⟨(some 23), none, .mv (.tmp 7)⟩, ⟨(some 24), none, .mv (.tmp 1)⟩, ⟨(some 25), none, .ia none 1 (.tmp 23) (.tmp 24)⟩, ⟨none, none, .store 1 (.tmp 25) (.const (.bool true))⟩])
 (.seq (.reg [0, 1, 2, 7] [⟨(some 26), none, .mv (.tmp 1)⟩, ⟨(some 27), none, .ow (.bsl 3 1 [(.int .i64 0)] 1 [(0, 1, (.tmp 26))])⟩, ⟨(some 8), none, .mv (.tmp 27)⟩])
 (.seq (.seq (.reg [0, 2, 7, 8] [⟨(some 9), none, .mv (.const (.int .i64 0))⟩])
 (.block 0 (.loop [0, 2, 7, 8, 9] [(8, 70, 3, 1)] sc_expand_Map_order_L3)))
 (.seq (.seq (.reg [0, 2, 8] [⟨(some 72), none, .mv (.tmp 8)⟩, ⟨(some 73), none, .len false (.tmp 72)⟩, ⟨(some 74), none, .mv (.const (.int .i64 0))⟩])
 (.block 4 (.loop [0, 2, 8, 73, 74] [] sc_expand_Map_order_L1)))
 (.seq (.reg [8] [⟨(some 123), none, .mv (.tmp 8)⟩, ⟨(some 6), none, .mv (.tmp 123)⟩])
 .ret)))))))
theorem fn_expand_Map_order : FnOk Try.prog 106 Try.f106 sc_expand_Map_order [.tmp 6] 3 := ⟨Try.func106, by kernel_rfl, by kernel_rfl, by kernel_rfl, by kernel_rfl, by kernel_rfl, by kernel_rfl⟩

/- loop of (*waymark/expand.Map).on, wants [0, 1, 2, 3, 16, 17] [] -/
def sc_expand_Map_on_L0 : SCode :=
 (.seq (.reg [0, 1, 2, 3, 16, 17] [⟨(some 18), none, .bin .lss 3 (.tmp 17) (.const (.int .i64 6))⟩])
 (.seq (.cond (.tmp 18) .skip (.exit 0))
 (.seq (.block 1 (.seq (.reg [0, 1, 2, 3, 16, 17] [⟨(some 19), none, .mv (.tmp 17)⟩, ⟨(some 20), none, .ixa 6 1 false (.tmp 16) (.tmp 17)⟩, ⟨(some 9), none, .mv (.tmp 19)⟩, ⟨(some 10), none, .mv (.tmp 20)⟩])
 (.seq (.seq (.reg [0, 1, 2, 3, 9, 10, 16, 17] [⟨(some 21), none, .mv (.tmp 10)⟩, ⟨(some 22), none, .un .not (.tmp 21)⟩])
 (.cond (.tmp 22) (.exit 1) .skip))
 (.seq (.reg [0, 1, 2, 3, 9, 16, 17] [⟨(some 24), none, .mv (.tmp 0)⟩, ⟨(some 25), none, .nilc (.tmp 24)⟩, ⟨(some 26), none, .fld 3 (.tmp 25)⟩, ⟨(some 27), none, .load 1 false (.tmp 26)⟩, ⟨(some 28), none, .mv (.tmp 2)⟩, ⟨(some 29), none, .mv (.tmp 9)⟩, ⟨(some 30), none, .build [(.int .i64 0), (.int .i64 0)] [(0, 1, (.tmp 28)), (1, 1, (.tmp 29))]⟩, ⟨(some 31), none, .mv (.tmp 3)⟩, ⟨(some 32), none, .call 92 [(.tmp 27), (.tmp 30), (.tmp 31)]⟩, ⟨(some 23), none, .mv (.tmp 32)⟩, ⟨(some 33), none, .ext (.tmp 23) 0⟩, ⟨(some 34), none, .ext (.tmp 23) 1⟩, ⟨(some 11), none, .alloc 82 [(.int .i64 0), (.int .i64 0)]⟩, ⟨none, none, .store 2 (.tmp 11) (.tmp 33)⟩, ⟨(some 12), none, .mv (.tmp 34)⟩])
 (.seq (.seq (.reg [0, 1, 2, 3, 11, 12, 16, 17] [⟨(some 35), none, .mv (.tmp 12)⟩, ⟨(some 36), none, .un .not (.tmp 35)⟩])
 (.cond (.tmp 36) (.seq (.reg [] [⟨(some 8), none, .mv (.const (.bool false))⟩])
 .ret) .skip))
 (.draw [0, 1, 2, 3, 11, 16, 17] [⟨(some 37), none, .mv (.tmp 1)⟩, ⟨(some 38), none, .ia (some 2) 1 (.tmp 11) (.const (.int .i64 0))⟩, ⟨(some 39), none, .load 1 false (.tmp 38)⟩, ⟨(some 40), none, .ia (some 2) 1 (.tmp 11) (.const (.int .i64 1))⟩, ⟨(some 41), none, .load 1 false (.tmp 40)⟩, ⟨(some 42), none, .ia none 6 (.tmp 37) (.tmp 39)⟩, ⟨(some 43), none, .ia (some 6) 1 (.tmp 42) (.tmp 41)⟩, ⟨none, none, .store 1 (.tmp 43) (.const (.bool true))⟩]))))))
 (.reg [0, 1, 2, 3, 16, 17] [⟨(some 44), none, .bin .add 3 (.tmp 17) (.const (.int .i64 1))⟩, ⟨(some 17), none, .mv (.tmp 44)⟩]))))
/- 107 (*waymark/expand.Map).on: slots 0 m, 1 l, 2 node, 3 edge, 4 m, 5 l, 6 node, 7 edge, 9 n, 10 is, 11 to, 12 ok -/
def sc_expand_Map_on : SCode :=
 (.seq (.reg [0, 1, 2, 3] [⟨(some 8), none, .mv (.const (.bool false))⟩])
 (.seq (.seq (.reg [0, 1, 2, 3] [⟨(some 13), none, .mv (.tmp 1)⟩, ⟨(some 14), none, .mv (.tmp 2)⟩, ⟨(some 15), none, .ia none 6 (.tmp 13) (.tmp 14)⟩, ⟨(some 16), none, .load 6 true (.tmp 15)⟩, ⟨(some 17), none, .mv (.const (.int .i64 0))⟩])
 (.block 0 (.loop [0, 1, 2, 3, 16, 17] [] sc_expand_Map_on_L0)))
 (.seq (.reg [] [⟨(some 8), none, .mv (.const (.bool true))⟩])
 .ret)))
theorem fn_expand_Map_on : FnOk Try.prog 107 Try.f107 sc_expand_Map_on [.tmp 8] 4 := ⟨Try.func107, by kernel_rfl, by kernel_rfl, by kernel_rfl, by kernel_rfl, by kernel_rfl, by kernel_rfl⟩

/- loop of (waymark/expand.states).only, wants [4, 5, 8, 9] [] -/
def sc_expand_states_only_L0 : SCode :=
 (.seq (.reg [4, 5, 8, 9] [⟨(some 10), none, .bin .lss 3 (.tmp 9) (.const (.int .i64 6))⟩])
 (.seq (.cond (.tmp 10) .skip (.exit 0))
 (.seq (.block 1 (.seq (.reg [4, 5, 8, 9] [⟨(some 11), none, .mv (.tmp 9)⟩, ⟨(some 12), none, .ixa 6 1 false (.tmp 8) (.tmp 9)⟩, ⟨(some 6), none, .mv (.tmp 11)⟩, ⟨(some 7), none, .mv (.tmp 12)⟩])
 (.seq (.reg [4, 5, 6, 7, 8, 9] [⟨(some 13), none, .mv (.tmp 7)⟩])
 (.cond (.tmp 13) (.seq (.reg [5, 6, 8, 9] [⟨(some 14), none, .mv (.tmp 6)⟩, ⟨(some 4), none, .mv (.tmp 14)⟩])
 (.reg [4, 5, 8, 9] [⟨(some 15), none, .mv (.tmp 5)⟩, ⟨(some 16), none, .bin .add 3 (.tmp 15) (.const (.int .i64 1))⟩, ⟨(some 5), none, .mv (.tmp 16)⟩])) .skip))))
 (.reg [4, 5, 8, 9] [⟨(some 17), none, .bin .add 3 (.tmp 9) (.const (.int .i64 1))⟩, ⟨(some 9), none, .mv (.tmp 17)⟩]))))
/- 108 (waymark/expand.states).only: slots 0 s, 1 s, 4 at, 5 n, 6 i, 7 is -/
def sc_expand_states_only : SCode :=
 (.seq (.reg [0] [⟨(some 1), none, .box 165 (.tmp 0)⟩, ⟨(some 2), none, .mv (.const (.int .i64 0))⟩, ⟨(some 3), none, .mv (.const (.bool false))⟩])
 (.seq (.reg [1] [⟨(some 4), none, .mv (.const (.int .i64 0))⟩, ⟨(some 5), none, .mv (.const (.int .i64 0))⟩])
 (.seq (.seq (.reg [1, 4, 5] [⟨(some 8), none, .load 6 true (.tmp 1)⟩, ⟨(some 9), none, .mv (.const (.int .i64 0))⟩])
 (.block 0 (.loop [4, 5, 8, 9] [] sc_expand_states_only_L0)))
 (.seq (.reg [4, 5] [⟨(some 18), none, .mv (.tmp 4)⟩, ⟨(some 19), none, .mv (.tmp 5)⟩, ⟨(some 20), none, .bin .eql 3 (.tmp 19) (.const (.int .i64 1))⟩, ⟨(some 2), none, .mv (.tmp 18)⟩, ⟨(some 3), none, .mv (.tmp 20)⟩])
 .ret))))
theorem fn_expand_states_only : FnOk Try.prog 108 Try.f108 sc_expand_states_only [.tmp 2, .tmp 3] 1 := ⟨Try.func108, by kernel_rfl, by kernel_rfl, by kernel_rfl, by kernel_rfl, by kernel_rfl, by kernel_rfl⟩

end Go.Proofs.Ytejmcijcdhoogaa
end

section
namespace Go.Proofs.Ytejmcijcdhoogaa
open Go Abs

/- 94 waymark/fib.Is: slots 0 g, 1 s, 2 g, 3 s -/
def sc_fib_Is : SCode :=
 (.seq (.reg [0, 1] [⟨(some 2), none, .box 24 (.tmp 0)⟩, ⟨(some 3), none, .box 50 (.tmp 1)⟩, ⟨(some 4), none, .mv (.const (.bool false))⟩])
 (.seq (.seq (.reg [2, 3] [⟨(some 5), none, .fld 0 (.tmp 3)⟩, ⟨(some 6), none, .load 1 false (.tmp 5)⟩])
 (.cond (.tmp 6) (.seq (.reg [2, 3] [⟨(some 7), none, .fld 1 (.tmp 3)⟩, ⟨(some 8), none, .load 1 false (.tmp 7)⟩, ⟨(some 9), none, .bin .geq 3 (.tmp 8) (.const (.int .i64 0))⟩, ⟨(some 10), none, .mv (.tmp 9)⟩, ⟨(some 11), (some (10, true)), .fld 1 (.tmp 3)⟩, ⟨(some 12), (some (10, true)), .load 1 false (.tmp 11)⟩, ⟨(some 13), (some (10, true)), .fld 1 (.tmp 2)⟩, ⟨(some 14), (some (10, true)), .load 1 false (.tmp 13)⟩, ⟨(some 15), (some (10, true)), .len false (.tmp 14)⟩, ⟨(some 16), (some (10, true)), .bin .mul 3 (.const (.int .i64 2)) (.tmp 15)⟩, ⟨(some 17), (some (10, true)), .bin .lss 3 (.tmp 12) (.tmp 16)⟩, ⟨(some 18), none, .pick (.tmp 10) (.tmp 17) (.const (.bool false))⟩, ⟨(some 4), none, .mv (.tmp 18)⟩])
 .ret) .skip))
 (.seq (.reg [2, 3] [⟨(some 19), none, .load 2 true (.tmp 2)⟩, ⟨(some 20), none, .fld 1 (.tmp 3)⟩, ⟨(some 21), none, .load 1 false (.tmp 20)⟩, ⟨(some 22), none, .call 62 [(.tmp 19), (.tmp 21)]⟩, ⟨(some 4), none, .mv (.tmp 22)⟩])
 .ret)))
theorem fn_fib_Is : FnOk Try.prog 94 Try.f94 sc_fib_Is [.tmp 4] 2 := ⟨Try.func94, by kernel_rfl, by kernel_rfl, by kernel_rfl, by kernel_rfl, by kernel_rfl, by kernel_rfl⟩

end Go.Proofs.Ytejmcijcdhoogaa
end

section
namespace Go.Proofs.Ytejmcijcdhoogaa
open Go Abs

/- 57 waymark/graph.Ends: slots 0 g, 1 edge, 2 g, 3 edge, 7 l -/
def sc_graph_Ends : SCode :=
 (.seq (.reg [0, 1] [⟨(some 2), none, .box 24 (.tmp 0)⟩, ⟨(some 4), none, .mv (.const (.int .i64 0))⟩, ⟨(some 5), none, .mv (.const (.int .i64 0))⟩, ⟨(some 6), none, .mv (.const (.bool false))⟩])
 (.seq (.seq (.reg [1, 2] [⟨(some 8), none, .mv (.tmp 1)⟩, ⟨(some 9), none, .bin .lss 3 (.tmp 8) (.const (.int .i64 0))⟩, ⟨(some 10), none, .mv (.tmp 9)⟩, ⟨(some 11), (some (10, false)), .mv (.tmp 1)⟩, ⟨(some 12), (some (10, false)), .bin .quo 3 (.tmp 11) (.const (.int .i64 2))⟩, ⟨(some 13), (some (10, false)), .fld 1 (.tmp 2)⟩, ⟨(some 14), (some (10, false)), .load 1 false (.tmp 13)⟩, ⟨(some 15), (some (10, false)), .len false (.tmp 14)⟩, ⟨(some 16), (some (10, false)), .bin .geq 3 (.tmp 12) (.tmp 15)⟩, ⟨(some 17), none, .pick (.tmp 10) (.const (.bool true)) (.tmp 16)⟩])
 (.cond (.tmp 17) (.seq (.reg [] [⟨(some 4), none, .mv (.const (.int .i64 0))⟩, ⟨(some 5), none, .mv (.const (.int .i64 0))⟩, ⟨(some 6), none, .mv (.const (.bool false))⟩])
 .ret) .skip))
 (.seq (.reg [1, 2] [⟨(some 18), none, .fld 1 (.tmp 2)⟩, ⟨(some 19), none, .load 1 false (.tmp 18)⟩, ⟨(some 20), none, .mv (.tmp 1)⟩, ⟨(some 21), none, .bin .quo 3 (.tmp 20) (.const (.int .i64 2))⟩, ⟨(some 22), none, .ia none 4 (.tmp 19) (.tmp 21)⟩, ⟨(some 23), none, .load 4 true (.tmp 22)⟩, ⟨(some 7), none, .alloc 48 [(.int .i64 0), (.int .i64 0), (.int .i64 0), (.int .i64 0)]⟩, ⟨none, none, .store 4 (.tmp 7) (.tmp 23)⟩])
 (.seq (.seq (.reg [1, 7] [⟨(some 24), none, .mv (.tmp 1)⟩, ⟨(some 25), none, .bin .rem 3 (.tmp 24) (.const (.int .i64 2))⟩, ⟨(some 26), none, .bin .eql 3 (.tmp 25) (.const (.int .i64 1))⟩])
 (.cond (.tmp 26) (.seq (.draw [7] [⟨(some 27), none, .fld 1 (.tmp 7)⟩, ⟨(some 28), none, .load 1 false (.tmp 27)⟩, ⟨(some 29), none, .fld 0 (.tmp 7)⟩, ⟨(some 30), none, .load 1 false (.tmp 29)⟩, ⟨(some 4), none, .mv (.tmp 28)⟩, ⟨(some 5), none, .mv (.tmp 30)⟩, ⟨(some 6), none, .mv (.const (.bool true))⟩])
 .ret) .skip))
 (.seq (.draw [7] [⟨(some 31), none, .fld 0 (.tmp 7)⟩, ⟨(some 32), none, .load 1 false (.tmp 31)⟩, ⟨(some 33), none, .fld 1 (.tmp 7)⟩, ⟨(some 34), none, .load 1 false (.tmp 33)⟩, ⟨(some 4), none, .mv (.tmp 32)⟩, ⟨(some 5), none, .mv (.tmp 34)⟩, ⟨(some 6), none, .mv (.const (.bool true))⟩])
 .ret)))))
theorem fn_graph_Ends : FnOk Try.prog 57 Try.f57 sc_graph_Ends [.tmp 4, .tmp 5, .tmp 6] 2 := ⟨Try.func57, by kernel_rfl, by kernel_rfl, by kernel_rfl, by kernel_rfl, by kernel_rfl, by kernel_rfl⟩

/- 62 waymark/graph.Is: slots 0 g, 1 node, 2 g, 3 node -/
def sc_graph_Is : SCode :=
 (.seq (.reg [0, 1] [⟨(some 2), none, .box 24 (.tmp 0)⟩, ⟨(some 4), none, .mv (.const (.bool false))⟩])
 (.seq (.reg [1, 2] [⟨(some 5), none, .mv (.tmp 1)⟩, ⟨(some 6), none, .bin .geq 3 (.tmp 5) (.const (.int .i64 0))⟩, ⟨(some 7), none, .mv (.tmp 6)⟩, ⟨(some 8), (some (7, true)), .mv (.tmp 1)⟩, ⟨(some 9), (some (7, true)), .fld 0 (.tmp 2)⟩, ⟨(some 10), (some (7, true)), .load 1 false (.tmp 9)⟩, ⟨(some 11), (some (7, true)), .bin .lss 3 (.tmp 8) (.tmp 10)⟩, ⟨(some 12), none, .pick (.tmp 7) (.tmp 11) (.const (.bool false))⟩, ⟨(some 4), none, .mv (.tmp 12)⟩])
 .ret))
theorem fn_graph_Is : FnOk Try.prog 62 Try.f62 sc_graph_Is [.tmp 4] 2 := ⟨Try.func62, by kernel_rfl, by kernel_rfl, by kernel_rfl, by kernel_rfl, by kernel_rfl, by kernel_rfl⟩

/- loop of waymark/graph.Check, wants [1, 22, 23, 24] [] -/
def sc_graph_Check_L0 : SCode :=
 (.seq (.reg [1, 22, 23, 24] [⟨(some 25), none, .bin .lss 3 (.tmp 24) (.tmp 23)⟩])
 (.seq (.cond (.tmp 25) .skip (.exit 1))
 (.seq (.block 2 (.seq (.reg [1, 22, 23, 24] [⟨(some 26), none, .mv (.tmp 24)⟩, ⟨(some 27), none, .ia none 4 (.tmp 22) (.tmp 24)⟩, ⟨(some 28), none, .load 4 true (.tmp 27)⟩, ⟨(some 5), none, .alloc 48 [(.int .i64 0), (.int .i64 0), (.int .i64 0), (.int .i64 0)]⟩, ⟨(some 4), none, .mv (.tmp 26)⟩, ⟨none, none, .store 4 (.tmp 5) (.tmp 28)⟩])
 (.seq (.reg [1, 4, 5, 22, 23, 24] [⟨(some 29), none, .load 2 true (.tmp 1)⟩, ⟨(some 30), none, .load 4 true (.tmp 5)⟩, ⟨(some 31), none, .call 86 [(.tmp 29), (.tmp 30)]⟩, ⟨(some 6), none, .mv (.tmp 31)⟩])
 (.seq (.reg [1, 4, 6, 22, 23, 24] [⟨(some 32), none, .mv (.tmp 6)⟩, ⟨(some 33), none, .bin .neq 37 (.tmp 32) (.const (.int .i64 0))⟩])
 (.cond (.tmp 33) (.seq (.reg [4, 6] [⟨(some 34), none, .mv (.tmp 4)⟩, ⟨(some 35), none, .mv (.tmp 6)⟩, ⟨(some 2), none, .mv (.tmp 34)⟩, ⟨(some 3), none, .mv (.tmp 35)⟩])
 .ret) .skip)))))
 (.reg [1, 22, 23, 24] [⟨(some 36), none, .bin .add 3 (.tmp 24) (.const (.int .i64 1))⟩, ⟨(some 24), none, .mv (.tmp 36)⟩]))))
/- 65 waymark/graph.Check: slots 0 g, 1 g, 4 i, 5 l, 6 e -/
def sc_graph_Check : SCode :=
 (.seq (.reg [0] [⟨(some 1), none, .box 24 (.tmp 0)⟩, ⟨(some 2), none, .mv (.const (.int .i64 0))⟩, ⟨(some 3), none, .mv (.const (.int .i64 0))⟩])
 (.seq (.block 0 (.seq (.reg [1] [⟨(some 8), none, .fld 1 (.tmp 1)⟩, ⟨(some 9), none, .load 1 false (.tmp 8)⟩, ⟨(some 10), none, .len false (.tmp 9)⟩, ⟨(some 11), none, .bin .gtr 3 (.tmp 10) (.const (.int .i64 120))⟩, ⟨(some 7), none, .mv (.tmp 11)⟩])
 (.cond (.tmp 7) (.seq (.reg [] [⟨(some 2), none, .mv (.const (.int .i64 (-1)))⟩, ⟨(some 3), none, .mv (.const (.int .i64 6))⟩])
 .ret) (.seq (.reg [1] [⟨(some 13), none, .fld 0 (.tmp 1)⟩, ⟨(some 14), none, .load 1 false (.tmp 13)⟩, ⟨(some 15), none, .bin .lss 3 (.tmp 14) (.const (.int .i64 1))⟩, ⟨(some 16), none, .mv (.tmp 15)⟩, ⟨(some 17), (some (16, false)), .fld 0 (.tmp 1)⟩, ⟨(some 18), (some (16, false)), .load 1 false (.tmp 17)⟩, ⟨(some 19), (some (16, false)), .bin .gtr 3 (.tmp 18) (.const (.int .i64 40))⟩, ⟨(some 20), none, .pick (.tmp 16) (.const (.bool true)) (.tmp 19)⟩, ⟨(some 12), none, .mv (.tmp 20)⟩])
 (.cond (.tmp 12) (.seq (.reg [] [⟨(some 2), none, .mv (.const (.int .i64 (-1)))⟩, ⟨(some 3), none, .mv (.const (.int .i64 1))⟩])
 .ret) .skip)))))
 (.seq (.seq (.reg [1] [⟨(some 21), none, .fld 1 (.tmp 1)⟩, ⟨(some 22), none, .load 1 false (.tmp 21)⟩, ⟨(some 23), none, .len false (.tmp 22)⟩, ⟨(some 24), none, .mv (.const (.int .i64 0))⟩])
 (.block 1 (.loop [1, 22, 23, 24] [] sc_graph_Check_L0)))
 (.seq (.reg [] [⟨(some 2), none, .mv (.const (.int .i64 (-1)))⟩, ⟨(some 3), none, .mv (.const (.int .i64 0))⟩])
 .ret))))
theorem fn_graph_Check : FnOk Try.prog 65 Try.f65 sc_graph_Check [.tmp 2, .tmp 3] 1 := ⟨Try.func65, by kernel_rfl, by kernel_rfl, by kernel_rfl, by kernel_rfl, by kernel_rfl, by kernel_rfl⟩

/- 86 waymark/graph.link: slots 0 g, 1 l, 2 g, 3 l -/
def sc_graph_link : SCode :=
 (.seq (.reg [0, 1] [⟨(some 2), none, .box 24 (.tmp 0)⟩, ⟨(some 3), none, .box 48 (.tmp 1)⟩, ⟨(some 4), none, .mv (.const (.int .i64 0))⟩])
 (.seq (.block 0 (.seq (.reg [2, 3] [⟨(some 6), none, .load 2 true (.tmp 2)⟩, ⟨(some 7), none, .fld 0 (.tmp 3)⟩, ⟨(some 8), none, .load 1 false (.tmp 7)⟩, ⟨(some 9), none, .call 62 [(.tmp 6), (.tmp 8)]⟩, ⟨(some 10), none, .un .not (.tmp 9)⟩, ⟨(some 11), none, .mv (.tmp 10)⟩, ⟨(some 12), (some (11, false)), .load 2 true (.tmp 2)⟩, ⟨(some 13), (some (11, false)), .fld 1 (.tmp 3)⟩, ⟨(some 14), (some (11, false)), .load 1 false (.tmp 13)⟩, ⟨(some 15), (some (11, false)), .call 62 [(.tmp 12), (.tmp 14)]⟩, ⟨(some 16), (some (11, false)), .un .not (.tmp 15)⟩, ⟨(some 17), none, .pick (.tmp 11) (.const (.bool true)) (.tmp 16)⟩, ⟨(some 18), none, .mv (.tmp 17)⟩, ⟨(some 19), (some (18, false)), .fld 0 (.tmp 3)⟩, ⟨(some 20), (some (18, false)), .load 1 false (.tmp 19)⟩, ⟨(some 21), (some (18, false)), .fld 1 (.tmp 3)⟩, ⟨(some 22), (some (18, false)), .load 1 false (.tmp 21)⟩, ⟨(some 23), (some (18, false)), .bin .eql 3 (.tmp 20) (.tmp 22)⟩, ⟨(some 24), none, .pick (.tmp 18) (.const (.bool true)) (.tmp 23)⟩, ⟨(some 5), none, .mv (.tmp 24)⟩])
 (.cond (.tmp 5) (.seq (.reg [] [⟨(some 4), none, .mv (.const (.int .i64 4))⟩])
 .ret) (.seq (.reg [3] [⟨(some 26), none, .fld 2 (.tmp 3)⟩, ⟨(some 27), none, .load 1 false (.tmp 26)⟩, ⟨(some 28), none, .bin .lss 3 (.tmp 27) (.const (.int .i64 1))⟩, ⟨(some 29), none, .mv (.tmp 28)⟩, ⟨(some 30), (some (29, false)), .fld 2 (.tmp 3)⟩, ⟨(some 31), (some (29, false)), .load 1 false (.tmp 30)⟩, ⟨(some 32), (some (29, false)), .bin .gtr 3 (.tmp 31) (.const (.int .i64 16777216))⟩, ⟨(some 33), none, .pick (.tmp 29) (.const (.bool true)) (.tmp 32)⟩, ⟨(some 34), none, .mv (.tmp 33)⟩, ⟨(some 35), (some (34, false)), .fld 3 (.tmp 3)⟩, ⟨(some 36), (some (34, false)), .load 1 false (.tmp 35)⟩, ⟨(some 37), (some (34, false)), .bin .lss 3 (.tmp 36) (.const (.int .i64 0))⟩, ⟨(some 38), none, .pick (.tmp 34) (.const (.bool true)) (.tmp 37)⟩, ⟨(some 39), none, .mv (.tmp 38)⟩, ⟨(some 40), (some (39, false)), .fld 3 (.tmp 3)⟩, ⟨(some 41), (some (39, false)), .load 1 false (.tmp 40)⟩, ⟨(some 42), (some (39, false)), .bin .gtr 3 (.tmp 41) (.const (.int .i64 62))⟩, ⟨(some 43), none, .pick (.tmp 39) (.const (.bool true)) (.tmp 42)⟩, ⟨(some 25), none, .mv (.tmp 43)⟩])
 (.cond (.tmp 25) (.seq (.reg [] [⟨(some 4), none, .mv (.const (.int .i64 1))⟩])
 .ret) .skip)))))
 (.seq (.reg [] [⟨(some 4), none, .mv (.const (.int .i64 0))⟩])
 .ret)))
theorem fn_graph_link : FnOk Try.prog 86 Try.f86 sc_graph_link [.tmp 4] 2 := ⟨Try.func86, by kernel_rfl, by kernel_rfl, by kernel_rfl, by kernel_rfl, by kernel_rfl, by kernel_rfl⟩

/- 88 waymark/graph.Right: slots 0 g, 1 g, 3 _, 4 e -/
def sc_graph_Right : SCode :=
 (.seq (.reg [0] [⟨(some 1), none, .box 24 (.tmp 0)⟩, ⟨(some 2), none, .mv (.const (.bool false))⟩])
 (.seq (.reg [1] [⟨(some 6), none, .load 2 true (.tmp 1)⟩, ⟨(some 7), none, .call 65 [(.tmp 6)]⟩, ⟨(some 5), none, .mv (.tmp 7)⟩, ⟨(some 8), none, .ext (.tmp 5) 0⟩, ⟨(some 9), none, .ext (.tmp 5) 1⟩, ⟨(some 3), none, .mv (.tmp 8)⟩, ⟨(some 4), none, .mv (.tmp 9)⟩])
 (.seq (.reg [4] [⟨(some 10), none, .mv (.tmp 4)⟩, ⟨(some 11), none, .bin .eql 37 (.tmp 10) (.const (.int .i64 0))⟩, ⟨(some 2), none, .mv (.tmp 11)⟩])
 .ret)))
theorem fn_graph_Right : FnOk Try.prog 88 Try.f88 sc_graph_Right [.tmp 2] 1 := ⟨Try.func88, by kernel_rfl, by kernel_rfl, by kernel_rfl, by kernel_rfl, by kernel_rfl, by kernel_rfl⟩

/- loop of waymark/graph.Out, wants [1, 2, 5, 13, 14] [(5, 30, 3, 1)] -/
def sc_graph_Out_L0 : SCode :=
 (.seq (.reg [1, 2, 5, 13, 14] [⟨(some 15), none, .bin .lss 3 (.tmp 14) (.tmp 13)⟩])
 (.seq (.cond (.tmp 15) .skip (.exit 0))
 (.seq (.block 1 (.seq (.reg [1, 2, 5, 13, 14] [⟨(some 16), none, .mv (.tmp 14)⟩, ⟨(some 6), none, .mv (.tmp 16)⟩])
 (.seq (.reg [1, 2, 5, 6, 13, 14] [⟨(some 18), none, .load 2 true (.tmp 2)⟩, ⟨(some 19), none, .mv (.tmp 6)⟩, ⟨(some 20), none, .call 57 [(.tmp 18), (.tmp 19)]⟩, ⟨(some 17), none, .mv (.tmp 20)⟩, ⟨(some 21), none, .ext (.tmp 17) 0⟩, ⟨(some 22), none, .ext (.tmp 17) 1⟩, ⟨(some 23), none, .ext (.tmp 17) 2⟩, ⟨(some 7), none, .mv (.tmp 21)⟩, ⟨(some 8), none, .mv (.tmp 22)⟩, ⟨(some 9), none, .mv (.tmp 23)⟩])
 (.seq (.reg [1, 2, 5, 6, 7, 13, 14] [⟨(some 24), none, .mv (.tmp 7)⟩, ⟨(some 25), none, .mv (.tmp 1)⟩, ⟨(some 26), none, .bin .eql 3 (.tmp 24) (.tmp 25)⟩])
 (.cond (.tmp 26) (.reg [1, 2, 5, 6, 13, 14] [⟨(some 27), none, .mv (.tmp 5)⟩, ⟨(some 28), none, .mv (.tmp 6)⟩, ⟨(some 29), none, .bsl 3 1 [(.int .i64 0)] 1 [(0, 1, (.tmp 28))]⟩, ⟨(some 30), none, .app 25 3 1 8 (.int .i64 0) (.tmp 27) (.tmp 29)⟩, ⟨(some 5), none, .mv (.tmp 30)⟩]) .skip)))))
 (.reg [1, 2, 5, 13, 14] [⟨(some 31), none, .bin .add 3 (.tmp 14) (.const (.int .i64 1))⟩, ⟨(some 14), none, .mv (.tmp 31)⟩]))))
/- 89 waymark/graph.Out: slots 0 g, 1 node, 2 g, 3 node, 5 out, 6 edge, 7 from, 8 _, 9 _ -/
def sc_graph_Out : SCode :=
 (.seq (.reg [0, 1] [⟨(some 2), none, .box 24 (.tmp 0)⟩, ⟨(some 4), none, .mv (.const (.slice none 0 0))⟩])
 (.seq (.reg [1, 2] [⟨(some 5), none, .mv (.const (.slice none 0 0))⟩])
 (.seq (.seq (.reg [1, 2, 5] [⟨(some 10), none, .fld 1 (.tmp 2)⟩, ⟨(some 11), none, .load 1 false (.tmp 10)⟩, ⟨(some 12), none, .len false (.tmp 11)⟩, ⟨(some 13), none, .bin .mul 3 (.const (.int .i64 2)) (.tmp 12)⟩, ⟨(some 14), none, .mv (.const (.int .i64 0))⟩])
 (.block 0 (.loop [1, 2, 5, 13, 14] [(5, 30, 3, 1)] sc_graph_Out_L0)))
 (.seq (.reg [5] [⟨(some 32), none, .mv (.tmp 5)⟩, ⟨(some 4), none, .mv (.tmp 32)⟩])
 .ret))))
theorem fn_graph_Out : FnOk Try.prog 89 Try.f89 sc_graph_Out [.tmp 4] 2 := ⟨Try.func89, by kernel_rfl, by kernel_rfl, by kernel_rfl, by kernel_rfl, by kernel_rfl, by kernel_rfl⟩

end Go.Proofs.Ytejmcijcdhoogaa
end

section
namespace Go.Proofs.Ytejmcijcdhoogaa
open Go Abs

/- loop of (*waymark/heap.Heap).Push, wants [0, 6] [] -/
def sc_heap_Heap_Push_L0 : SCode :=
 (.seq (.seq (.reg [0, 6] [⟨(some 28), none, .mv (.tmp 6)⟩, ⟨(some 29), none, .bin .gtr 3 (.tmp 28) (.const (.int .i64 0))⟩])
 (.cond (.tmp 29) .skip (.exit 0)))
 (.block 1 (.seq (.reg [0, 6] [⟨(some 30), none, .mv (.tmp 6)⟩, ⟨(some 31), none, .bin .sub 3 (.tmp 30) (.const (.int .i64 1))⟩, ⟨(some 32), none, .bin .quo 3 (.tmp 31) (.const (.int .i64 2))⟩, ⟨(some 7), none, .mv (.tmp 32)⟩])
 (.seq (.seq (.draw [0, 6, 7] [⟨(some 33), none, .mv (.tmp 0)⟩, ⟨(some 34), none, .nilc (.tmp 33)⟩, ⟨(some 35), none, .fld 0 (.tmp 34)⟩, ⟨(some 36), none, .load 1 false (.tmp 35)⟩, ⟨(some 37), none, .mv (.tmp 6)⟩, ⟨(some 38), none, .ia none 2 (.tmp 36) (.tmp 37)⟩, ⟨(some 39), none, .load 2 true (.tmp 38)⟩, ⟨(some 40), none, .mv (.tmp 0)⟩, ⟨(some 41), none, .nilc (.tmp 40)⟩, ⟨(some 42), none, .fld 0 (.tmp 41)⟩, ⟨(some 43), none, .load 1 false (.tmp 42)⟩, ⟨(some 44), none, .mv (.tmp 7)⟩, ⟨(some 45), none, .ia none 2 (.tmp 43) (.tmp 44)⟩, ⟨(some 46), none, .load 2 true (.tmp 45)⟩, ⟨(some 47), none, .call 112 [(.tmp 39), (.tmp 46)]⟩, ⟨(some 48), none, .un .not (.tmp 47)⟩])
 (.cond (.tmp 48) .ret .skip))
 (.seq (.draw [0, 6, 7] [⟨(some 49), none, .mv (.tmp 0)⟩, ⟨(some 50), none, .nilc (.tmp 49)⟩, ⟨(some 51), none, .fld 0 (.tmp 50)⟩, ⟨(some 52), none, .load 1 false (.tmp 51)⟩, ⟨(some 53), none, .mv (.tmp 6)⟩, ⟨(some 54), none, .mv (.tmp 0)⟩, ⟨(some 55), none, .nilc (.tmp 54)⟩, ⟨(some 56), none, .fld 0 (.tmp 55)⟩, ⟨(some 57), none, .load 1 false (.tmp 56)⟩, ⟨(some 58), none, .mv (.tmp 7)⟩, ⟨(some 59), none, .mv (.tmp 0)⟩, ⟨(some 60), none, .nilc (.tmp 59)⟩, ⟨(some 61), none, .fld 0 (.tmp 60)⟩, ⟨(some 62), none, .load 1 false (.tmp 61)⟩, ⟨(some 63), none, .mv (.tmp 7)⟩, ⟨(some 64), none, .ia none 2 (.tmp 62) (.tmp 63)⟩, ⟨(some 65), none, .load 2 true (.tmp 64)⟩, ⟨(some 66), none, .mv (.tmp 0)⟩, ⟨(some 67), none, .nilc (.tmp 66)⟩, ⟨(some 68), none, .fld 0 (.tmp 67)⟩, ⟨(some 69), none, .load 1 false (.tmp 68)⟩, ⟨(some 70), none, .mv (.tmp 6)⟩, ⟨(some 71), none, .ia none 2 (.tmp 69) (.tmp 70)⟩, ⟨(some 72), none, .load 2 true (.tmp 71)⟩, ⟨(some 73), none, .ia none 2 (.tmp 52) (.tmp 53)⟩, ⟨none, none, .store 2 (.tmp 73) (.tmp 65)⟩, ⟨(some 74), none, .ia none 2 (.tmp 57) (.tmp 58)⟩, ⟨none, none, .store 2 (.tmp 74) (.tmp 72)⟩])
 (.reg [0, 7] [⟨(some 75), none, .mv (.tmp 7)⟩, ⟨(some 6), none, .mv (.tmp 75)⟩]))))))
/- 98 (*waymark/heap.Heap).Push: slots 0 h, 1 key, 2 value, 3 h, 4 key, 5 value, 6 i, 7 up -/
def sc_heap_Heap_Push : SCode :=
 (.seq (.seq (.reg [0, 1, 2] [⟨(some 8), none, .mv (.tmp 0)⟩, ⟨(some 9), none, .isnil .p false (.tmp 8)⟩])
 (.cond (.tmp 9) .ret .skip))
 (.seq (.reg [0, 1, 2] [⟨(some 10), none, .mv (.tmp 0)⟩, ⟨(some 11), none, .mv (.tmp 0)⟩, ⟨(some 12), none, .nilc (.tmp 11)⟩, ⟨(some 13), none, .fld 0 (.tmp 12)⟩, ⟨(some 14), none, .load 1 false (.tmp 13)⟩, ⟨(some 15), none, .mv (.tmp 1)⟩, ⟨(some 16), none, .mv (.tmp 2)⟩, ⟨(some 17), none, .build [(.int .i64 0), (.int .i64 0)] [(0, 1, (.tmp 15)), (1, 1, (.tmp 16))]⟩, ⟨(some 18), none, .bsl 170 2 [(.int .i64 0), (.int .i64 0)] 1 [(0, 2, (.tmp 17))]⟩, ⟨(some 19), none, .hp (.app 156 170 2 16 (.agg #[(.int .i64 0), (.int .i64 0)]) (.tmp 14) (.tmp 18))⟩, ⟨(some 20), none, .nilc (.tmp 10)⟩, ⟨(some 21), none, .fld 0 (.tmp 20)⟩, ⟨none, none, .store 1 (.tmp 21) (.tmp 19)⟩])
 (.seq (.reg [0] [⟨(some 22), none, .mv (.tmp 0)⟩, ⟨(some 23), none, .nilc (.tmp 22)⟩, ⟨(some 24), none, .fld 0 (.tmp 23)⟩, ⟨(some 25), none, .load 1 false (.tmp 24)⟩, ⟨(some 26), none, .len false (.tmp 25)⟩, ⟨(some 27), none, .bin .sub 3 (.tmp 26) (.const (.int .i64 1))⟩, ⟨(some 6), none, .mv (.tmp 27)⟩])
 (.block 0 (.loop [0, 6] [] sc_heap_Heap_Push_L0)))))
theorem fn_heap_Heap_Push : FnOk Try.prog 98 Try.f98 sc_heap_Heap_Push [] 3 := ⟨Try.func98, by kernel_rfl, by kernel_rfl, by kernel_rfl, by kernel_rfl, by kernel_rfl, by kernel_rfl⟩

/- loop of (*waymark/heap.Heap).Pop, wants [0, 5, 7] [] -/
def sc_heap_Heap_Pop_L0 : SCode :=
 (.block 1 (.seq (.reg [0, 5, 7] [⟨(some 45), none, .mv (.tmp 0)⟩, ⟨(some 46), none, .mv (.tmp 7)⟩, ⟨(some 47), none, .call 114 [(.tmp 45), (.tmp 46)]⟩, ⟨(some 8), none, .mv (.tmp 47)⟩])
 (.seq (.seq (.reg [0, 5, 7, 8] [⟨(some 48), none, .mv (.tmp 8)⟩, ⟨(some 49), none, .mv (.tmp 7)⟩, ⟨(some 50), none, .bin .eql 3 (.tmp 48) (.tmp 49)⟩])
 (.cond (.tmp 50) (.seq (.draw [5] [⟨(some 51), none, .fld 0 (.tmp 5)⟩, ⟨(some 52), none, .load 1 false (.tmp 51)⟩, ⟨(some 53), none, .fld 1 (.tmp 5)⟩, ⟨(some 54), none, .load 1 false (.tmp 53)⟩, ⟨(some 2), none, .mv (.tmp 52)⟩, ⟨(some 3), none, .mv (.tmp 54)⟩, ⟨(some 4), none, .mv (.const (.bool true))⟩])
 .ret) .skip))
 (.seq (.draw [0, 5, 7, 8] [⟨(some 55), none, .mv (.tmp 0)⟩, ⟨(some 56), none, .nilc (.tmp 55)⟩, ⟨(some 57), none, .fld 0 (.tmp 56)⟩, ⟨(some 58), none, .load 1 false (.tmp 57)⟩, ⟨(some 59), none, .mv (.tmp 7)⟩, ⟨(some 60), none, .mv (.tmp 0)⟩, ⟨(some 61), none, .nilc (.tmp 60)⟩, ⟨(some 62), none, .fld 0 (.tmp 61)⟩, ⟨(some 63), none, .load 1 false (.tmp 62)⟩, ⟨(some 64), none, .mv (.tmp 8)⟩, ⟨(some 65), none, .mv (.tmp 0)⟩, ⟨(some 66), none, .nilc (.tmp 65)⟩, ⟨(some 67), none, .fld 0 (.tmp 66)⟩, ⟨(some 68), none, .load 1 false (.tmp 67)⟩, ⟨(some 69), none, .mv (.tmp 8)⟩, ⟨(some 70), none, .ia none 2 (.tmp 68) (.tmp 69)⟩, ⟨(some 71), none, .load 2 true (.tmp 70)⟩, ⟨(some 72), none, .mv (.tmp 0)⟩, ⟨(some 73), none, .nilc (.tmp 72)⟩, ⟨(some 74), none, .fld 0 (.tmp 73)⟩, ⟨(some 75), none, .load 1 false (.tmp 74)⟩, ⟨(some 76), none, .mv (.tmp 7)⟩, ⟨(some 77), none, .ia none 2 (.tmp 75) (.tmp 76)⟩, ⟨(some 78), none, .load 2 true (.tmp 77)⟩, ⟨(some 79), none, .ia none 2 (.tmp 58) (.tmp 59)⟩, ⟨none, none, .store 2 (.tmp 79) (.tmp 71)⟩, ⟨(some 80), none, .ia none 2 (.tmp 63) (.tmp 64)⟩, ⟨none, none, .store 2 (.tmp 80) (.tmp 78)⟩])
 (.reg [0, 5, 8] [⟨(some 81), none, .mv (.tmp 8)⟩, ⟨(some 7), none, .mv (.tmp 81)⟩])))))
/- 99 (*waymark/heap.Heap).Pop: slots 0 h, 1 h, 5 first, 6 last, 7 i, 8 k -/
def sc_heap_Heap_Pop : SCode :=
 (.seq (.reg [0] [⟨(some 2), none, .mv (.const (.int .i64 0))⟩, ⟨(some 3), none, .mv (.const (.int .i64 0))⟩, ⟨(some 4), none, .mv (.const (.bool false))⟩])
 (.seq (.seq (.reg [0] [⟨(some 9), none, .mv (.tmp 0)⟩, ⟨(some 10), none, .call 113 [(.tmp 9)]⟩, ⟨(some 11), none, .bin .eql 3 (.tmp 10) (.const (.int .i64 0))⟩])
 (.cond (.tmp 11) (.seq (.reg [] [⟨(some 2), none, .mv (.const (.int .i64 0))⟩, ⟨(some 3), none, .mv (.const (.int .i64 0))⟩, ⟨(some 4), none, .mv (.const (.bool false))⟩])
 .ret) .skip))
 (.seq (.reg [0] [⟨(some 12), none, .mv (.tmp 0)⟩, ⟨(some 13), none, .nilc (.tmp 12)⟩, ⟨(some 14), none, .fld 0 (.tmp 13)⟩, ⟨(some 15), none, .load 1 false (.tmp 14)⟩, ⟨(some 16), none, .ia none 2 (.tmp 15) (.const (.int .i64 0))⟩, ⟨(some 17), none, .load 2 true (.tmp 16)⟩, ⟨(some 5), none, .alloc 170 [(.int .i64 0), (.int .i64 0)]⟩, ⟨none, none, .store 2 (.tmp 5) (.tmp 17)⟩])
 (.seq (.reg [0, 5] [⟨(some 18), none, .mv (.tmp 0)⟩, ⟨(some 19), none, .nilc (.tmp 18)⟩, ⟨(some 20), none, .fld 0 (.tmp 19)⟩, ⟨(some 21), none, .load 1 false (.tmp 20)⟩, ⟨(some 22), none, .len false (.tmp 21)⟩, ⟨(some 23), none, .bin .sub 3 (.tmp 22) (.const (.int .i64 1))⟩, ⟨(some 6), none, .mv (.tmp 23)⟩])
 (.seq (.draw [0, 5, 6] [⟨(some 24), none, .mv (.tmp 0)⟩, ⟨(some 25), none, .nilc (.tmp 24)⟩, ⟨(some 26), none, .fld 0 (.tmp 25)⟩, ⟨(some 27), none, .load 1 false (.tmp 26)⟩, ⟨(some 28), none, .mv (.tmp 0)⟩, ⟨(some 29), none, .nilc (.tmp 28)⟩, ⟨(some 30), none, .fld 0 (.tmp 29)⟩, ⟨(some 31), none, .load 1 false (.tmp 30)⟩, ⟨(some 32), none, .mv (.tmp 6)⟩, ⟨(some 33), none, .ia none 2 (.tmp 31) (.tmp 32)⟩, ⟨(some 34), none, .load 2 true (.tmp 33)⟩, ⟨(some 35), none, .ia none 2 (.tmp 27) (.const (.int .i64 0))⟩, ⟨none, none, .store 2 (.tmp 35) (.tmp 34)⟩])
 (.seq (.reg [0, 5, 6] [⟨(some 36), none, .mv (.tmp 0)⟩, ⟨(some 37), none, .mv (.tmp 0)⟩, ⟨(some 38), none, .nilc (.tmp 37)⟩, ⟨(some 39), none, .fld 0 (.tmp 38)⟩, ⟨(some 40), none, .load 1 false (.tmp 39)⟩, ⟨(some 41), none, .mv (.tmp 6)⟩, ⟨(some 42), none, .slc (some 2) (.tmp 40) none (some (.tmp 41)) none⟩, ⟨(some 43), none, .nilc (.tmp 36)⟩, ⟨(some 44), none, .fld 0 (.tmp 43)⟩, ⟨none, none, .store 1 (.tmp 44) (.tmp 42)⟩])
 (.seq (.reg [0, 5] [⟨(some 7), none, .mv (.const (.int .i64 0))⟩])
 (.block 0 (.loop [0, 5, 7] [] sc_heap_Heap_Pop_L0)))))))))
theorem fn_heap_Heap_Pop : FnOk Try.prog 99 Try.f99 sc_heap_Heap_Pop [.tmp 2, .tmp 3, .tmp 4] 1 := ⟨Try.func99, by kernel_rfl, by kernel_rfl, by kernel_rfl, by kernel_rfl, by kernel_rfl, by kernel_rfl⟩

/- 112 (waymark/heap.pair).ahead: slots 0 p, 1 q, 2 p, 3 q -/
def sc_heap_pair_ahead : SCode :=
 (.seq (.reg [0, 1] [⟨(some 2), none, .box 170 (.tmp 0)⟩, ⟨(some 3), none, .box 170 (.tmp 1)⟩, ⟨(some 4), none, .mv (.const (.bool false))⟩])
 (.seq (.reg [2, 3] [⟨(some 5), none, .fld 0 (.tmp 2)⟩, ⟨(some 6), none, .load 1 false (.tmp 5)⟩, ⟨(some 7), none, .fld 0 (.tmp 3)⟩, ⟨(some 8), none, .load 1 false (.tmp 7)⟩, ⟨(some 9), none, .bin .lss 3 (.tmp 6) (.tmp 8)⟩, ⟨(some 10), none, .mv (.tmp 9)⟩, ⟨(some 11), (some (10, false)), .fld 0 (.tmp 2)⟩, ⟨(some 12), (some (10, false)), .load 1 false (.tmp 11)⟩, ⟨(some 13), (some (10, false)), .fld 0 (.tmp 3)⟩, ⟨(some 14), (some (10, false)), .load 1 false (.tmp 13)⟩, ⟨(some 15), (some (10, false)), .bin .eql 3 (.tmp 12) (.tmp 14)⟩, ⟨(some 16), (some (10, false)), .mv (.tmp 15)⟩, ⟨(some 17), (some (16, true)), .fld 1 (.tmp 2)⟩, ⟨(some 18), (some (16, true)), .load 1 false (.tmp 17)⟩, ⟨(some 19), (some (16, true)), .fld 1 (.tmp 3)⟩, ⟨(some 20), (some (16, true)), .load 1 false (.tmp 19)⟩, ⟨(some 21), (some (16, true)), .bin .lss 3 (.tmp 18) (.tmp 20)⟩, ⟨(some 22), (some (10, false)), .pick (.tmp 16) (.tmp 21) (.const (.bool false))⟩, ⟨(some 23), none, .pick (.tmp 10) (.const (.bool true)) (.tmp 22)⟩, ⟨(some 4), none, .mv (.tmp 23)⟩])
 .ret))
theorem fn_heap_pair_ahead : FnOk Try.prog 112 Try.f112 sc_heap_pair_ahead [.tmp 4] 2 := ⟨Try.func112, by kernel_rfl, by kernel_rfl, by kernel_rfl, by kernel_rfl, by kernel_rfl, by kernel_rfl⟩

/- 113 (*waymark/heap.Heap).Len: slots 0 h, 1 h -/
def sc_heap_Heap_Len : SCode :=
 (.seq (.reg [0] [⟨(some 2), none, .mv (.const (.int .i64 0))⟩])
 (.seq (.seq (.reg [0] [⟨(some 3), none, .mv (.tmp 0)⟩, ⟨(some 4), none, .isnil .p false (.tmp 3)⟩])
 (.cond (.tmp 4) (.seq (.reg [] [⟨(some 2), none, .mv (.const (.int .i64 0))⟩])
 .ret) .skip))
 (.seq (.reg [0] [⟨(some 5), none, .mv (.tmp 0)⟩, ⟨(some 6), none, .nilc (.tmp 5)⟩, ⟨(some 7), none, .fld 0 (.tmp 6)⟩, ⟨(some 8), none, .load 1 false (.tmp 7)⟩, ⟨(some 9), none, .len false (.tmp 8)⟩, ⟨(some 2), none, .mv (.tmp 9)⟩])
 .ret)))
theorem fn_heap_Heap_Len : FnOk Try.prog 113 Try.f113 sc_heap_Heap_Len [.tmp 2] 1 := ⟨Try.func113, by kernel_rfl, by kernel_rfl, by kernel_rfl, by kernel_rfl, by kernel_rfl, by kernel_rfl⟩

/- loop of (*waymark/heap.Heap).least, wants [0, 1, 5, 6] [] -/
def sc_heap_Heap_least_L0 : SCode :=
 (.seq (.seq (.reg [0, 1, 5, 6] [⟨(some 11), none, .mv (.tmp 6)⟩, ⟨(some 12), none, .mv (.tmp 1)⟩, ⟨(some 13), none, .bin .mul 3 (.const (.int .i64 2)) (.tmp 12)⟩, ⟨(some 14), none, .bin .add 3 (.tmp 13) (.const (.int .i64 2))⟩, ⟨(some 15), none, .bin .leq 3 (.tmp 11) (.tmp 14)⟩, ⟨(some 16), none, .mv (.tmp 15)⟩, ⟨(some 17), (some (16, true)), .mv (.tmp 6)⟩, ⟨(some 18), (some (16, true)), .mv (.tmp 0)⟩, ⟨(some 19), (some (16, true)), .nilc (.tmp 18)⟩, ⟨(some 20), (some (16, true)), .fld 0 (.tmp 19)⟩, ⟨(some 21), (some (16, true)), .load 1 false (.tmp 20)⟩, ⟨(some 22), (some (16, true)), .len false (.tmp 21)⟩, ⟨(some 23), (some (16, true)), .bin .lss 3 (.tmp 17) (.tmp 22)⟩, ⟨(some 24), none, .pick (.tmp 16) (.tmp 23) (.const (.bool false))⟩])
 (.cond (.tmp 24) .skip (.exit 0)))
 (.seq (.block 1 (.seq (.draw [0, 1, 5, 6] [⟨(some 27), none, .mv (.tmp 0)⟩, ⟨(some 28), none, .nilc (.tmp 27)⟩, ⟨(some 29), none, .fld 0 (.tmp 28)⟩, ⟨(some 30), none, .load 1 false (.tmp 29)⟩, ⟨(some 31), none, .mv (.tmp 6)⟩, ⟨(some 32), none, .ia none 2 (.tmp 30) (.tmp 31)⟩, ⟨(some 33), none, .load 2 true (.tmp 32)⟩, ⟨(some 34), none, .mv (.tmp 0)⟩, ⟨(some 35), none, .nilc (.tmp 34)⟩, ⟨(some 36), none, .fld 0 (.tmp 35)⟩, ⟨(some 37), none, .load 1 false (.tmp 36)⟩, ⟨(some 38), none, .mv (.tmp 5)⟩, ⟨(some 39), none, .ia none 2 (.tmp 37) (.tmp 38)⟩, ⟨(some 40), none, .load 2 true (.tmp 39)⟩, ⟨(some 41), none, .call 112 [(.tmp 33), (.tmp 40)]⟩])
 (.cond (.tmp 41) (.reg [0, 1, 6] [⟨(some 42), none, .mv (.tmp 6)⟩, ⟨(some 5), none, .mv (.tmp 42)⟩]) .skip)))
 (.reg [0, 1, 5, 6] [⟨(some 25), none, .mv (.tmp 6)⟩, ⟨(some 26), none, .bin .add 3 (.tmp 25) (.const (.int .i64 1))⟩, ⟨(some 6), none, .mv (.tmp 26)⟩])))
/- 114 (*waymark/heap.Heap).least: slots 0 h, 1 i, 2 h, 3 i, 5 best, 6 k -/
def sc_heap_Heap_least : SCode :=
 (.seq (.reg [0, 1] [⟨(some 4), none, .mv (.const (.int .i64 0))⟩])
 (.seq (.reg [0, 1] [⟨(some 7), none, .mv (.tmp 1)⟩, ⟨(some 5), none, .mv (.tmp 7)⟩])
 (.seq (.seq (.reg [0, 1, 5] [⟨(some 8), none, .mv (.tmp 1)⟩, ⟨(some 9), none, .bin .mul 3 (.const (.int .i64 2)) (.tmp 8)⟩, ⟨(some 10), none, .bin .add 3 (.tmp 9) (.const (.int .i64 1))⟩, ⟨(some 6), none, .mv (.tmp 10)⟩])
 (.block 0 (.loop [0, 1, 5, 6] [] sc_heap_Heap_least_L0)))
 (.seq (.reg [5] [⟨(some 43), none, .mv (.tmp 5)⟩, ⟨(some 4), none, .mv (.tmp 43)⟩])
 .ret))))
theorem fn_heap_Heap_least : FnOk Try.prog 114 Try.f114 sc_heap_Heap_least [.tmp 4] 2 := ⟨Try.func114, by kernel_rfl, by kernel_rfl, by kernel_rfl, by kernel_rfl, by kernel_rfl, by kernel_rfl⟩

end Go.Proofs.Ytejmcijcdhoogaa
end

section
namespace Go.Proofs.Ytejmcijcdhoogaa
open Go Abs

/- 42 waymark/opt.Goal: slots 0 w, 1 w -/
def sc_opt_Goal : SCode :=
 (.seq (.reg [0] [⟨(some 1), none, .box 27 (.tmp 0)⟩, ⟨(some 2), none, .alloc 82 [(.int .i64 0), (.int .i64 0)]⟩])
 (.seq (.draw [1, 2] [⟨(some 3), none, .fld 1 (.tmp 1)⟩, ⟨(some 4), none, .load 1 false (.tmp 3)⟩, ⟨(some 5), none, .load 7 true (.tmp 1)⟩, ⟨(some 6), none, .call 71 [(.tmp 5)]⟩, ⟨(some 7), none, .len false (.tmp 6)⟩, ⟨(some 8), none, .bin .sub 3 (.tmp 7) (.const (.int .i64 1))⟩, ⟨(some 9), none, .build [(.int .i64 0), (.int .i64 0)] [(0, 1, (.tmp 4)), (1, 1, (.tmp 8))]⟩, ⟨none, none, .store 2 (.tmp 2) (.tmp 9)⟩])
 .ret))
theorem fn_opt_Goal : FnOk Try.prog 42 Try.f42 sc_opt_Goal [.cell 2 2 true] 1 := ⟨Try.func42, by kernel_rfl, by kernel_rfl, by kernel_rfl, by kernel_rfl, by kernel_rfl, by kernel_rfl⟩

/- 43 waymark/opt.Start: slots 0 w, 1 w -/
def sc_opt_Start : SCode :=
 (.seq (.reg [0] [⟨(some 1), none, .box 27 (.tmp 0)⟩, ⟨(some 2), none, .alloc 82 [(.int .i64 0), (.int .i64 0)]⟩])
 (.seq (.draw [1, 2] [⟨(some 3), none, .load 7 true (.tmp 1)⟩, ⟨(some 4), none, .call 71 [(.tmp 3)]⟩, ⟨(some 5), none, .fld 0 (.tmp 1)⟩, ⟨(some 6), none, .load 1 false (.tmp 5)⟩, ⟨(some 7), none, .call 72 [(.tmp 4), (.tmp 6), (.const (.int .i64 0))]⟩, ⟨none, none, .store 2 (.tmp 2) (.tmp 7)⟩])
 .ret))
theorem fn_opt_Start : FnOk Try.prog 43 Try.f43 sc_opt_Start [.cell 2 2 true] 1 := ⟨Try.func43, by kernel_rfl, by kernel_rfl, by kernel_rfl, by kernel_rfl, by kernel_rfl, by kernel_rfl⟩

/- loop of waymark/opt.New, wants [3, 4, 9, 33, 34, 35] [] -/
def sc_opt_New_L0 : SCode :=
 (.seq (.reg [3, 4, 9, 33, 34, 35] [⟨(some 36), none, .bin .lss 3 (.tmp 35) (.tmp 34)⟩])
 (.seq (.cond (.tmp 36) .skip (.exit 0))
 (.seq (.block 1 (.seq (.reg [3, 4, 9, 33, 34, 35] [⟨(some 37), none, .mv (.tmp 35)⟩, ⟨(some 38), none, .ia none 1 (.tmp 33) (.tmp 35)⟩, ⟨(some 39), none, .load 1 false (.tmp 38)⟩, ⟨(some 10), none, .mv (.tmp 37)⟩, ⟨(some 11), none, .mv (.tmp 39)⟩])
 (.seq (.draw [3, 4, 9, 10, 11, 33, 34, 35] [⟨(some 40), none, .load 2 true (.tmp 3)⟩, ⟨(some 41), none, .mv (.tmp 9)⟩, ⟨(some 42), none, .nilc (.tmp 41)⟩, ⟨(some 43), none, .fld 3 (.tmp 42)⟩, ⟨(some 44), none, .hp (.load 1 false (.tmp 43))⟩, ⟨(some 45), none, .mv (.tmp 11)⟩, ⟨(some 46), none, .call 67 [(.tmp 40), (.tmp 44), (.tmp 45)]⟩, ⟨(some 12), none, .mv (.tmp 46)⟩])
 (.seq (.reg [3, 4, 9, 10, 12, 33, 34, 35] [⟨(some 47), none, .mv (.tmp 12)⟩, ⟨(some 48), none, .mv (.tmp 9)⟩, ⟨(some 49), none, .nilc (.tmp 48)⟩, ⟨(some 50), none, .fld 2 (.tmp 49)⟩, ⟨(some 51), none, .load 1 false (.tmp 50)⟩, ⟨(some 52), none, .mv (.tmp 10)⟩, ⟨(some 53), none, .ia none 1 (.tmp 51) (.tmp 52)⟩, ⟨(some 54), none, .load 1 false (.tmp 53)⟩, ⟨(some 55), none, .ia none 1 (.tmp 47) (.tmp 54)⟩, ⟨(some 56), none, .load 1 false (.tmp 55)⟩, ⟨(some 13), none, .mv (.tmp 56)⟩])
 (.seq (.seq (.reg [3, 4, 9, 12, 13, 33, 34, 35] [⟨(some 57), none, .mv (.tmp 13)⟩, ⟨(some 58), none, .bin .lss 3 (.tmp 57) (.const (.int .i64 0))⟩])
 (.cond (.tmp 58) (.seq (.reg [] [⟨(some 6), none, .mv (.const (.pointer none))⟩, ⟨(some 7), none, .mv (.const (.int .i64 8))⟩])
 .ret) .skip))
 (.seq (.reg [3, 4, 9, 12, 13, 33, 34, 35] [⟨(some 59), none, .mv (.tmp 9)⟩, ⟨(some 60), none, .mv (.tmp 9)⟩, ⟨(some 61), none, .nilc (.tmp 60)⟩, ⟨(some 62), none, .fld 4 (.tmp 61)⟩, ⟨(some 63), none, .load 1 false (.tmp 62)⟩, ⟨(some 64), none, .mv (.tmp 12)⟩, ⟨(some 65), none, .bsl 25 1 [(.slice none 0 0)] 1 [(0, 1, (.tmp 64))]⟩, ⟨(some 66), none, .hp (.app 98 25 1 24 (.slice none 0 0) (.tmp 63) (.tmp 65))⟩, ⟨(some 67), none, .nilc (.tmp 59)⟩, ⟨(some 68), none, .fld 4 (.tmp 67)⟩, ⟨none, none, .store 1 (.tmp 68) (.tmp 66)⟩])
 (.reg [3, 4, 9, 13, 33, 34, 35] [⟨(some 69), none, .mv (.tmp 9)⟩, ⟨(some 70), none, .nilc (.tmp 69)⟩, ⟨(some 71), none, .fld 5 (.tmp 70)⟩, ⟨(some 72), none, .load 1 false (.tmp 71)⟩, ⟨(some 73), none, .mv (.tmp 13)⟩, ⟨(some 74), none, .bin .add 3 (.tmp 72) (.tmp 73)⟩, ⟨(some 75), none, .nilc (.tmp 69)⟩, ⟨(some 76), none, .fld 5 (.tmp 75)⟩, ⟨none, none, .store 1 (.tmp 76) (.tmp 74)⟩])))))))
 (.reg [3, 4, 9, 33, 34, 35] [⟨(some 77), none, .bin .add 3 (.tmp 35) (.const (.int .i64 1))⟩, ⟨(some 35), none, .mv (.tmp 77)⟩]))))
/- 70 waymark/opt.New: slots 0 g, 1 w, 2 down, 3 g, 4 w, 5 down, 8 e, 9 x, 10 i, 11 p, 12 to, 13 far -/
def sc_opt_New : SCode :=
 (.seq (.reg [0, 1, 2] [⟨(some 3), none, .box 24 (.tmp 0)⟩, ⟨(some 4), none, .box 27 (.tmp 1)⟩, ⟨(some 6), none, .mv (.const (.pointer none))⟩, ⟨(some 7), none, .mv (.const (.int .i64 0))⟩])
 (.seq (.seq (.reg [2, 3, 4] [⟨(some 14), none, .load 2 true (.tmp 3)⟩, ⟨(some 15), none, .load 7 true (.tmp 4)⟩, ⟨(some 16), none, .call 90 [(.tmp 14), (.tmp 15)]⟩, ⟨(some 8), none, .mv (.tmp 16)⟩])
 (.seq (.reg [2, 3, 4, 8] [⟨(some 17), none, .mv (.tmp 8)⟩, ⟨(some 18), none, .bin .neq 37 (.tmp 17) (.const (.int .i64 0))⟩])
 (.cond (.tmp 18) (.seq (.reg [8] [⟨(some 19), none, .mv (.tmp 8)⟩, ⟨(some 6), none, .mv (.const (.pointer none))⟩, ⟨(some 7), none, .mv (.tmp 19)⟩])
 .ret) .skip)))
 (.seq (.draw [2, 3, 4] [⟨(some 20), none, .load 2 true (.tmp 3)⟩, ⟨(some 21), none, .load 7 true (.tmp 4)⟩, ⟨(some 22), none, .call 71 [(.tmp 21)]⟩, ⟨(some 23), none, .load 2 true (.tmp 3)⟩, ⟨(some 24), none, .load 7 true (.tmp 4)⟩, ⟨(some 25), none, .mv (.tmp 2)⟩, ⟨(some 26), none, .call 91 [(.tmp 23), (.tmp 24), (.tmp 25)]⟩, ⟨(some 27), none, .build [(.int .i64 0), (.slice none 0 0), (.slice none 0 0), (.slice none 0 0), (.slice none 0 0), (.int .i64 0)] [(0, 2, (.tmp 20)), (2, 1, (.tmp 22)), (3, 1, (.tmp 26))]⟩, ⟨(some 28), none, .hp (.box 152 (.tmp 27))⟩, ⟨(some 9), none, .mv (.tmp 28)⟩])
 (.seq (.seq (.reg [3, 4, 9] [⟨(some 29), none, .mv (.tmp 9)⟩, ⟨(some 30), none, .nilc (.tmp 29)⟩, ⟨(some 31), none, .fld 2 (.tmp 30)⟩, ⟨(some 32), none, .load 1 false (.tmp 31)⟩, ⟨(some 33), none, .slc (some 1) (.tmp 32) (some (.const (.int .i64 1))) none none⟩, ⟨(some 34), none, .len false (.tmp 33)⟩, ⟨(some 35), none, .mv (.const (.int .i64 0))⟩])
 (.block 0 (.loop [3, 4, 9, 33, 34, 35] [] sc_opt_New_L0)))
 (.seq (.seq (.draw [4, 9] [⟨(some 78), none, .fld 2 (.tmp 4)⟩, ⟨(some 79), none, .load 1 false (.tmp 78)⟩, ⟨(some 80), none, .bin .gtr 3 (.tmp 79) (.const (.int .i64 0))⟩, ⟨(some 81), none, .mv (.tmp 80)⟩, ⟨(some 82), (some (81, true)), .mv (.tmp 9)⟩, ⟨(some 83), (some (81, true)), .nilc (.tmp 82)⟩, ⟨(some 84), (some (81, true)), .fld 5 (.tmp 83)⟩, ⟨(some 85), (some (81, true)), .hp (.load 1 false (.tmp 84))⟩, ⟨(some 86), (some (81, true)), .fld 2 (.tmp 4)⟩, ⟨(some 87), (some (81, true)), .load 1 false (.tmp 86)⟩, ⟨(some 88), (some (81, true)), .bin .gtr 3 (.tmp 85) (.tmp 87)⟩, ⟨(some 89), none, .pick (.tmp 81) (.tmp 88) (.const (.bool false))⟩])
 (.cond (.tmp 89) (.seq (.reg [] [⟨(some 6), none, .mv (.const (.pointer none))⟩, ⟨(some 7), none, .mv (.const (.int .i64 8))⟩])
 .ret) .skip))
 (.seq (.reg [9] [⟨(some 90), none, .mv (.tmp 9)⟩, ⟨(some 6), none, .mv (.tmp 90)⟩, ⟨(some 7), none, .mv (.const (.int .i64 0))⟩])
 .ret))))))
theorem fn_opt_New : FnOk Try.prog 70 Try.f70 sc_opt_New [.tmp 6, .tmp 7] 3 := ⟨Try.func70, by kernel_rfl, by kernel_rfl, by kernel_rfl, by kernel_rfl, by kernel_rfl, by kernel_rfl⟩

/- 71 waymark/opt.points: slots 0 w, 1 w, 3 l -/
def sc_opt_points : SCode :=
 (.seq (.reg [0] [⟨(some 1), none, .box 27 (.tmp 0)⟩, ⟨(some 2), none, .mv (.const (.slice none 0 0))⟩])
 (.seq (.reg [1] [⟨(some 4), none, .fld 0 (.tmp 1)⟩, ⟨(some 5), none, .load 1 false (.tmp 4)⟩, ⟨(some 6), none, .ow (.bsl 3 1 [(.int .i64 0)] 1 [(0, 1, (.tmp 5))])⟩, ⟨(some 7), none, .fld 3 (.tmp 1)⟩, ⟨(some 8), none, .load 1 false (.tmp 7)⟩, ⟨(some 9), none, .app 25 3 1 8 (.int .i64 0) (.tmp 6) (.tmp 8)⟩, ⟨(some 3), none, .mv (.tmp 9)⟩])
 (.seq (.reg [1, 3] [⟨(some 10), none, .mv (.tmp 3)⟩, ⟨(some 11), none, .fld 1 (.tmp 1)⟩, ⟨(some 12), none, .load 1 false (.tmp 11)⟩, ⟨(some 13), none, .bsl 3 1 [(.int .i64 0)] 1 [(0, 1, (.tmp 12))]⟩, ⟨(some 14), none, .app 25 3 1 8 (.int .i64 0) (.tmp 10) (.tmp 13)⟩, ⟨(some 2), none, .mv (.tmp 14)⟩])
 .ret)))
theorem fn_opt_points : FnOk Try.prog 71 Try.f71 sc_opt_points [.tmp 2] 1 := ⟨Try.func71, by kernel_rfl, by kernel_rfl, by kernel_rfl, by kernel_rfl, by kernel_rfl, by kernel_rfl⟩

/- loop of waymark/opt.come, wants [0, 1, 2, 6] [] -/
def sc_opt_come_L0 : SCode :=
 (.seq (.seq (.reg [0, 1, 2, 6] [⟨(some 7), none, .mv (.tmp 2)⟩, ⟨(some 8), none, .bin .add 3 (.tmp 7) (.const (.int .i64 1))⟩, ⟨(some 9), none, .mv (.tmp 0)⟩, ⟨(some 10), none, .len false (.tmp 9)⟩, ⟨(some 11), none, .bin .lss 3 (.tmp 8) (.tmp 10)⟩, ⟨(some 12), none, .mv (.tmp 11)⟩, ⟨(some 13), (some (12, true)), .mv (.tmp 0)⟩, ⟨(some 14), (some (12, true)), .mv (.tmp 2)⟩, ⟨(some 15), (some (12, true)), .bin .add 3 (.tmp 14) (.const (.int .i64 1))⟩, ⟨(some 16), (some (12, true)), .ia none 1 (.tmp 13) (.tmp 15)⟩, ⟨(some 17), (some (12, true)), .load 1 false (.tmp 16)⟩, ⟨(some 18), (some (12, true)), .mv (.tmp 1)⟩, ⟨(some 19), (some (12, true)), .bin .eql 3 (.tmp 17) (.tmp 18)⟩, ⟨(some 20), none, .pick (.tmp 12) (.tmp 19) (.const (.bool false))⟩])
 (.cond (.tmp 20) .skip (.exit 0)))
 (.block 1 (.reg [0, 1, 2, 6] [⟨(some 21), none, .mv (.tmp 2)⟩, ⟨(some 22), none, .bin .add 3 (.tmp 21) (.const (.int .i64 1))⟩, ⟨(some 2), none, .mv (.tmp 22)⟩])))
/- 72 waymark/opt.come: slots 0 l, 1 node, 2 n, 3 l, 4 node, 5 n -/
def sc_opt_come : SCode :=
 (.seq (.reg [0, 1, 2] [⟨(some 6), none, .alloc 82 [(.int .i64 0), (.int .i64 0)]⟩])
 (.seq (.block 0 (.loop [0, 1, 2, 6] [] sc_opt_come_L0))
 (.seq (.reg [1, 2, 6] [⟨(some 23), none, .mv (.tmp 1)⟩, ⟨(some 24), none, .mv (.tmp 2)⟩, ⟨(some 25), none, .build [(.int .i64 0), (.int .i64 0)] [(0, 1, (.tmp 23)), (1, 1, (.tmp 24))]⟩, ⟨none, none, .store 2 (.tmp 6) (.tmp 25)⟩])
 .ret)))
theorem fn_opt_come : FnOk Try.prog 72 Try.f72 sc_opt_come [.cell 6 2 true] 3 := ⟨Try.func72, by kernel_rfl, by kernel_rfl, by kernel_rfl, by kernel_rfl, by kernel_rfl, by kernel_rfl⟩

/- 92 (*waymark/opt.Ways).Step: slots 0 x, 1 at, 2 edge, 3 x, 4 at, 5 edge, 8 node, 9 n, 10 from, 11 end, 12 ok, 13 to -/
def sc_opt_Ways_Step : SCode :=
 (.seq (.reg [0, 1, 2] [⟨(some 4), none, .box 82 (.tmp 1)⟩, ⟨(some 6), none, .alloc 82 [(.int .i64 0), (.int .i64 0)]⟩, ⟨(some 7), none, .mv (.const (.bool false))⟩])
 (.seq (.draw [0, 2, 4, 6] [⟨(some 14), none, .ia (some 2) 1 (.tmp 4) (.const (.int .i64 0))⟩, ⟨(some 15), none, .load 1 false (.tmp 14)⟩, ⟨(some 16), none, .ia (some 2) 1 (.tmp 4) (.const (.int .i64 1))⟩, ⟨(some 17), none, .load 1 false (.tmp 16)⟩, ⟨(some 8), none, .mv (.tmp 15)⟩, ⟨(some 9), none, .mv (.tmp 17)⟩])
 (.seq (.seq (.reg [0, 2, 6, 8, 9] [⟨(some 18), none, .mv (.tmp 0)⟩, ⟨(some 19), none, .isnil .p false (.tmp 18)⟩, ⟨(some 20), none, .mv (.tmp 19)⟩, ⟨(some 21), (some (20, false)), .mv (.tmp 9)⟩, ⟨(some 22), (some (20, false)), .bin .lss 3 (.tmp 21) (.const (.int .i64 0))⟩, ⟨(some 23), none, .pick (.tmp 20) (.const (.bool true)) (.tmp 22)⟩, ⟨(some 24), none, .mv (.tmp 23)⟩, ⟨(some 25), (some (24, false)), .mv (.tmp 9)⟩, ⟨(some 26), (some (24, false)), .mv (.tmp 0)⟩, ⟨(some 27), (some (24, false)), .nilc (.tmp 26)⟩, ⟨(some 28), (some (24, false)), .fld 2 (.tmp 27)⟩, ⟨(some 29), (some (24, false)), .load 1 false (.tmp 28)⟩, ⟨(some 30), (some (24, false)), .len false (.tmp 29)⟩, ⟨(some 31), (some (24, false)), .bin .sub 3 (.tmp 30) (.const (.int .i64 1))⟩, ⟨(some 32), (some (24, false)), .bin .geq 3 (.tmp 25) (.tmp 31)⟩, ⟨(some 33), none, .pick (.tmp 24) (.const (.bool true)) (.tmp 32)⟩, ⟨(some 34), none, .mv (.tmp 33)⟩, ⟨(some 35), (some (34, false)), .mv (.tmp 0)⟩, ⟨(some 36), (some (34, false)), .nilc (.tmp 35)⟩, ⟨(some 37), (some (34, false)), .fld 0 (.tmp 36)⟩, ⟨(some 38), (some (34, false)), .load 2 true (.tmp 37)⟩, ⟨(some 39), (some (34, false)), .mv (.tmp 8)⟩, ⟨(some 40), (some (34, false)), .call 62 [(.tmp 38), (.tmp 39)]⟩, ⟨(some 41), (some (34, false)), .un .not (.tmp 40)⟩, ⟨(some 42), none, .pick (.tmp 34) (.const (.bool true)) (.tmp 41)⟩, ⟨(some 43), none, .mv (.tmp 42)⟩, ⟨(some 44), (some (43, false)), .mv (.tmp 0)⟩, ⟨(some 45), (some (43, false)), .nilc (.tmp 44)⟩, ⟨(some 46), (some (43, false)), .fld 2 (.tmp 45)⟩, ⟨(some 47), (some (43, false)), .load 1 false (.tmp 46)⟩, ⟨(some 48), (some (43, false)), .mv (.tmp 9)⟩, ⟨(some 49), (some (43, false)), .bin .add 3 (.tmp 48) (.const (.int .i64 1))⟩, ⟨(some 50), (some (43, false)), .ia none 1 (.tmp 47) (.tmp 49)⟩, ⟨(some 51), (some (43, false)), .load 1 false (.tmp 50)⟩, ⟨(some 52), (some (43, false)), .mv (.tmp 8)⟩, ⟨(some 53), (some (43, false)), .bin .eql 3 (.tmp 51) (.tmp 52)⟩, ⟨(some 54), none, .pick (.tmp 43) (.const (.bool true)) (.tmp 53)⟩])
 (.cond (.tmp 54) (.seq (.reg [6] [⟨(some 55), none, .build [(.int .i64 0), (.int .i64 0)] []⟩, ⟨none, none, .store 2 (.tmp 6) (.tmp 55)⟩, ⟨(some 7), none, .mv (.const (.bool false))⟩])
 .ret) .skip))
 (.seq (.reg [0, 2, 6, 8, 9] [⟨(some 57), none, .mv (.tmp 0)⟩, ⟨(some 58), none, .nilc (.tmp 57)⟩, ⟨(some 59), none, .fld 0 (.tmp 58)⟩, ⟨(some 60), none, .load 2 true (.tmp 59)⟩, ⟨(some 61), none, .mv (.tmp 2)⟩, ⟨(some 62), none, .call 57 [(.tmp 60), (.tmp 61)]⟩, ⟨(some 56), none, .mv (.tmp 62)⟩, ⟨(some 63), none, .ext (.tmp 56) 0⟩, ⟨(some 64), none, .ext (.tmp 56) 1⟩, ⟨(some 65), none, .ext (.tmp 56) 2⟩, ⟨(some 10), none, .mv (.tmp 63)⟩, ⟨(some 11), none, .mv (.tmp 64)⟩, ⟨(some 12), none, .mv (.tmp 65)⟩])
 (.seq (.reg [0, 2, 6, 8, 9, 10, 11, 12] [⟨(some 66), none, .mv (.tmp 0)⟩, ⟨(some 67), none, .nilc (.tmp 66)⟩, ⟨(some 68), none, .fld 4 (.tmp 67)⟩, ⟨(some 69), none, .load 1 false (.tmp 68)⟩, ⟨(some 70), none, .mv (.tmp 9)⟩, ⟨(some 71), none, .ia none 1 (.tmp 69) (.tmp 70)⟩, ⟨(some 72), none, .load 1 false (.tmp 71)⟩, ⟨(some 13), none, .mv (.tmp 72)⟩])
 (.seq (.seq (.draw [0, 2, 6, 8, 9, 10, 11, 12, 13] [⟨(some 73), none, .mv (.tmp 12)⟩, ⟨(some 74), none, .un .not (.tmp 73)⟩, ⟨(some 75), none, .mv (.tmp 74)⟩, ⟨(some 76), (some (75, false)), .mv (.tmp 10)⟩, ⟨(some 77), (some (75, false)), .mv (.tmp 8)⟩, ⟨(some 78), (some (75, false)), .bin .neq 3 (.tmp 76) (.tmp 77)⟩, ⟨(some 79), none, .pick (.tmp 75) (.const (.bool true)) (.tmp 78)⟩, ⟨(some 80), none, .mv (.tmp 79)⟩, ⟨(some 81), (some (80, false)), .mv (.tmp 0)⟩, ⟨(some 82), (some (80, false)), .nilc (.tmp 81)⟩, ⟨(some 83), (some (80, false)), .fld 3 (.tmp 82)⟩, ⟨(some 84), (some (80, false)), .load 1 false (.tmp 83)⟩, ⟨(some 85), (some (80, false)), .mv (.tmp 2)⟩, ⟨(some 86), (some (80, false)), .call 83 [(.tmp 84), (.tmp 85)]⟩, ⟨(some 87), (some (80, false)), .un .not (.tmp 86)⟩, ⟨(some 88), none, .pick (.tmp 80) (.const (.bool true)) (.tmp 87)⟩, ⟨(some 89), none, .mv (.tmp 88)⟩, ⟨(some 90), (some (89, false)), .mv (.tmp 13)⟩, ⟨(some 91), (some (89, false)), .mv (.tmp 11)⟩, ⟨(some 92), (some (89, false)), .ia none 1 (.tmp 90) (.tmp 91)⟩, ⟨(some 93), (some (89, false)), .load 1 false (.tmp 92)⟩, ⟨(some 94), (some (89, false)), .bin .lss 3 (.tmp 93) (.const (.int .i64 0))⟩, ⟨(some 95), none, .pick (.tmp 89) (.const (.bool true)) (.tmp 94)⟩, ⟨(some 96), none, .mv (.tmp 95)⟩, ⟨(some 97), (some (96, false)), .mv (.tmp 13)⟩, ⟨(some 98), (some (96, false)), .mv (.tmp 8)⟩, ⟨(some 99), (some (96, false)), .ia none 1 (.tmp 97) (.tmp 98)⟩, ⟨(some 100), (some (96, false)), .load 1 false (.tmp 99)⟩, ⟨(some 101), (some (96, false)), .mv (.tmp 13)⟩, ⟨(some 102), (some (96, false)), .mv (.tmp 11)⟩, ⟨(some 103), (some (96, false)), .ia none 1 (.tmp 101) (.tmp 102)⟩, ⟨(some 104), (some (96, false)), .load 1 false (.tmp 103)⟩, ⟨(some 105), (some (96, false)), .mv (.tmp 0)⟩, ⟨(some 106), (some (96, false)), .nilc (.tmp 105)⟩, ⟨(some 107), (some (96, false)), .fld 0 (.tmp 106)⟩, ⟨(some 108), (some (96, false)), .fld 1 (.tmp 107)⟩, ⟨(some 109), (some (96, false)), .load 1 false (.tmp 108)⟩, ⟨(some 110), (some (96, false)), .mv (.tmp 2)⟩, ⟨(some 111), (some (96, false)), .bin .quo 3 (.tmp 110) (.const (.int .i64 2))⟩, ⟨(some 112), (some (96, false)), .ia none 4 (.tmp 109) (.tmp 111)⟩, ⟨(some 113), (some (96, false)), .fld 2 (.tmp 112)⟩, ⟨(some 114), (some (96, false)), .load 1 false (.tmp 113)⟩, ⟨(some 115), (some (96, false)), .bin .add 3 (.tmp 104) (.tmp 114)⟩, ⟨(some 116), (some (96, false)), .bin .neq 3 (.tmp 100) (.tmp 115)⟩, ⟨(some 117), none, .pick (.tmp 96) (.const (.bool true)) (.tmp 116)⟩])
 (.cond (.tmp 117) (.seq (.reg [6] [⟨(some 118), none, .build [(.int .i64 0), (.int .i64 0)] []⟩, ⟨none, none, .store 2 (.tmp 6) (.tmp 118)⟩, ⟨(some 7), none, .mv (.const (.bool false))⟩])
 .ret) .skip))
 (.seq (.reg [0, 6, 9, 11] [⟨(some 119), none, .mv (.tmp 0)⟩, ⟨(some 120), none, .nilc (.tmp 119)⟩, ⟨(some 121), none, .fld 2 (.tmp 120)⟩, ⟨(some 122), none, .load 1 false (.tmp 121)⟩, ⟨(some 123), none, .mv (.tmp 11)⟩, ⟨(some 124), none, .mv (.tmp 9)⟩, ⟨(some 125), none, .call 72 [(.tmp 122), (.tmp 123), (.tmp 124)]⟩, ⟨none, none, .store 2 (.tmp 6) (.tmp 125)⟩, ⟨(some 7), none, .mv (.const (.bool true))⟩])
 .ret)))))))
theorem fn_opt_Ways_Step : FnOk Try.prog 92 Try.f92 sc_opt_Ways_Step [.cell 6 2 true, .tmp 7] 3 := ⟨Try.func92, by kernel_rfl, by kernel_rfl, by kernel_rfl, by kernel_rfl, by kernel_rfl, by kernel_rfl⟩

end Go.Proofs.Ytejmcijcdhoogaa
end

section
namespace Go.Proofs.Ytejmcijcdhoogaa
open Go Abs

/- 90 waymark/prune.Right: slots 0 g, 1 w, 2 g, 3 w, 5 _, 6 e, 7 noNode, 8 noLink, 9 noColour -/
def sc_prune_Right : SCode :=
 (.seq (.reg [0, 1] [⟨(some 2), none, .box 24 (.tmp 0)⟩, ⟨(some 3), none, .box 27 (.tmp 1)⟩, ⟨(some 4), none, .mv (.const (.int .i64 0))⟩])
 (.seq (.seq (.reg [2, 3] [⟨(some 11), none, .load 2 true (.tmp 2)⟩, ⟨(some 12), none, .call 65 [(.tmp 11)]⟩, ⟨(some 10), none, .mv (.tmp 12)⟩, ⟨(some 13), none, .ext (.tmp 10) 0⟩, ⟨(some 14), none, .ext (.tmp 10) 1⟩, ⟨(some 5), none, .mv (.tmp 13)⟩, ⟨(some 6), none, .mv (.tmp 14)⟩])
 (.seq (.reg [2, 3, 6] [⟨(some 15), none, .mv (.tmp 6)⟩, ⟨(some 16), none, .bin .neq 37 (.tmp 15) (.const (.int .i64 0))⟩])
 (.cond (.tmp 16) (.seq (.reg [6] [⟨(some 17), none, .mv (.tmp 6)⟩, ⟨(some 4), none, .mv (.tmp 17)⟩])
 .ret) .skip)))
 (.seq (.reg [2, 3] [⟨(some 18), none, .mkfn (.func 100) [] [(.tmp 2)]⟩, ⟨(some 7), none, .mv (.tmp 18)⟩])
 (.seq (.reg [2, 3, 7] [⟨(some 19), none, .mkfn (.func 101) [] [(.tmp 2)]⟩, ⟨(some 8), none, .mv (.tmp 19)⟩])
 (.seq (.reg [3, 7, 8] [⟨(some 9), none, .mv (.func 102)⟩])
 (.seq (.block 0 (.seq (.reg [3, 7, 8, 9] [⟨(some 21), none, .mv (.tmp 7)⟩, ⟨(some 22), none, .fld 0 (.tmp 3)⟩, ⟨(some 23), none, .load 1 false (.tmp 22)⟩, ⟨(some 24), none, .cald (.tmp 21) [(.tmp 23)]⟩, ⟨(some 25), none, .mv (.tmp 24)⟩, ⟨(some 26), (some (25, false)), .mv (.tmp 7)⟩, ⟨(some 27), (some (25, false)), .fld 1 (.tmp 3)⟩, ⟨(some 28), (some (25, false)), .load 1 false (.tmp 27)⟩, ⟨(some 29), (some (25, false)), .cald (.tmp 26) [(.tmp 28)]⟩, ⟨(some 30), none, .pick (.tmp 25) (.const (.bool true)) (.tmp 29)⟩, ⟨(some 31), none, .mv (.tmp 30)⟩, ⟨(some 32), (some (31, false)), .fld 3 (.tmp 3)⟩, ⟨(some 33), (some (31, false)), .load 1 false (.tmp 32)⟩, ⟨(some 34), (some (31, false)), .mv (.tmp 7)⟩, ⟨(some 35), (some (31, false)), .call 103 [(.tmp 33), (.tmp 34)]⟩, ⟨(some 36), none, .pick (.tmp 31) (.const (.bool true)) (.tmp 35)⟩, ⟨(some 37), none, .mv (.tmp 36)⟩, ⟨(some 38), (some (37, false)), .fld 4 (.tmp 3)⟩, ⟨(some 39), (some (37, false)), .load 1 false (.tmp 38)⟩, ⟨(some 40), (some (37, false)), .mv (.tmp 7)⟩, ⟨(some 41), (some (37, false)), .call 103 [(.tmp 39), (.tmp 40)]⟩, ⟨(some 42), none, .pick (.tmp 37) (.const (.bool true)) (.tmp 41)⟩, ⟨(some 20), none, .mv (.tmp 42)⟩])
 (.cond (.tmp 20) (.seq (.reg [] [⟨(some 4), none, .mv (.const (.int .i64 4))⟩])
 .ret) (.seq (.reg [3, 8, 9] [⟨(some 44), none, .fld 5 (.tmp 3)⟩, ⟨(some 45), none, .load 1 false (.tmp 44)⟩, ⟨(some 46), none, .mv (.tmp 8)⟩, ⟨(some 47), none, .call 103 [(.tmp 45), (.tmp 46)]⟩, ⟨(some 43), none, .mv (.tmp 47)⟩])
 (.cond (.tmp 43) (.seq (.reg [] [⟨(some 4), none, .mv (.const (.int .i64 5))⟩])
 .ret) (.seq (.reg [3, 9] [⟨(some 49), none, .fld 6 (.tmp 3)⟩, ⟨(some 50), none, .load 1 false (.tmp 49)⟩, ⟨(some 51), none, .mv (.tmp 9)⟩, ⟨(some 52), none, .call 103 [(.tmp 50), (.tmp 51)]⟩, ⟨(some 53), none, .mv (.tmp 52)⟩, ⟨(some 54), (some (53, false)), .fld 2 (.tmp 3)⟩, ⟨(some 55), (some (53, false)), .load 1 false (.tmp 54)⟩, ⟨(some 56), (some (53, false)), .bin .lss 3 (.tmp 55) (.const (.int .i64 0))⟩, ⟨(some 57), none, .pick (.tmp 53) (.const (.bool true)) (.tmp 56)⟩, ⟨(some 48), none, .mv (.tmp 57)⟩])
 (.cond (.tmp 48) (.seq (.reg [] [⟨(some 4), none, .mv (.const (.int .i64 1))⟩])
 .ret) (.seq (.reg [3] [⟨(some 59), none, .fld 3 (.tmp 3)⟩, ⟨(some 60), none, .load 1 false (.tmp 59)⟩, ⟨(some 61), none, .len false (.tmp 60)⟩, ⟨(some 62), none, .bin .gtr 3 (.tmp 61) (.const (.int .i64 4))⟩, ⟨(some 58), none, .mv (.tmp 62)⟩])
 (.cond (.tmp 58) (.seq (.reg [] [⟨(some 4), none, .mv (.const (.int .i64 6))⟩])
 .ret) .skip)))))))))
 (.seq (.reg [] [⟨(some 4), none, .mv (.const (.int .i64 0))⟩])
 .ret)))))))
theorem fn_prune_Right : FnOk Try.prog 90 Try.f90 sc_prune_Right [.tmp 4] 2 := ⟨Try.func90, by kernel_rfl, by kernel_rfl, by kernel_rfl, by kernel_rfl, by kernel_rfl, by kernel_rfl⟩

/- loop of waymark/prune.Down, wants [2, 4, 7, 19, 20, 21] [] -/
def sc_prune_Down_L0 : SCode :=
 (.seq (.reg [2, 4, 7, 19, 20, 21] [⟨(some 22), none, .bin .lss 3 (.tmp 21) (.tmp 20)⟩])
 (.seq (.cond (.tmp 22) .skip (.exit 0))
 (.seq (.block 1 (.seq (.reg [2, 4, 7, 19, 20, 21] [⟨(some 23), none, .mv (.tmp 21)⟩, ⟨(some 24), none, .ia none 4 (.tmp 19) (.tmp 21)⟩, ⟨(some 25), none, .load 4 true (.tmp 24)⟩, ⟨(some 9), none, .alloc 48 [(.int .i64 0), (.int .i64 0), (.int .i64 0), (.int .i64 0)]⟩, ⟨(some 8), none, .mv (.tmp 23)⟩, ⟨none, none, .store 4 (.tmp 9) (.tmp 25)⟩])
 (.reg [2, 4, 7, 8, 9, 19, 20, 21] [⟨(some 26), none, .mv (.tmp 7)⟩, ⟨(some 27), none, .mv (.tmp 8)⟩, ⟨(some 28), none, .mv (.tmp 8)⟩, ⟨(some 29), none, .mv (.tmp 2)⟩, ⟨(some 30), none, .len false (.tmp 29)⟩, ⟨(some 31), none, .bin .lss 3 (.tmp 28) (.tmp 30)⟩, ⟨(some 32), none, .mv (.tmp 31)⟩, ⟨(some 33), (some (32, true)), .mv (.tmp 2)⟩, ⟨(some 34), (some (32, true)), .mv (.tmp 8)⟩, ⟨(some 35), (some (32, true)), .ia none 1 (.tmp 33) (.tmp 34)⟩, ⟨(some 36), (some (32, true)), .load 1 false (.tmp 35)⟩, ⟨(some 37), none, .pick (.tmp 32) (.tmp 36) (.const (.bool false))⟩, ⟨(some 38), none, .mv (.tmp 37)⟩, ⟨(some 39), (some (38, false)), .fld 5 (.tmp 4)⟩, ⟨(some 40), (some (38, false)), .load 1 false (.tmp 39)⟩, ⟨(some 41), (some (38, false)), .mv (.tmp 8)⟩, ⟨(some 42), (some (38, false)), .call 104 [(.tmp 40), (.tmp 41)]⟩, ⟨(some 43), none, .pick (.tmp 38) (.const (.bool true)) (.tmp 42)⟩, ⟨(some 44), none, .mv (.tmp 43)⟩, ⟨(some 45), (some (44, false)), .fld 6 (.tmp 4)⟩, ⟨(some 46), (some (44, false)), .load 1 false (.tmp 45)⟩, ⟨(some 47), (some (44, false)), .fld 3 (.tmp 9)⟩, ⟨(some 48), (some (44, false)), .load 1 false (.tmp 47)⟩, ⟨(some 49), (some (44, false)), .call 104 [(.tmp 46), (.tmp 48)]⟩, ⟨(some 50), none, .pick (.tmp 44) (.const (.bool true)) (.tmp 49)⟩, ⟨(some 51), none, .mv (.tmp 50)⟩, ⟨(some 52), (some (51, false)), .fld 4 (.tmp 4)⟩, ⟨(some 53), (some (51, false)), .load 1 false (.tmp 52)⟩, ⟨(some 54), (some (51, false)), .fld 0 (.tmp 9)⟩, ⟨(some 55), (some (51, false)), .load 1 false (.tmp 54)⟩, ⟨(some 56), (some (51, false)), .call 104 [(.tmp 53), (.tmp 55)]⟩, ⟨(some 57), none, .pick (.tmp 51) (.const (.bool true)) (.tmp 56)⟩, ⟨(some 58), none, .mv (.tmp 57)⟩, ⟨(some 59), (some (58, false)), .fld 4 (.tmp 4)⟩, ⟨(some 60), (some (58, false)), .load 1 false (.tmp 59)⟩, ⟨(some 61), (some (58, false)), .fld 1 (.tmp 9)⟩, ⟨(some 62), (some (58, false)), .load 1 false (.tmp 61)⟩, ⟨(some 63), (some (58, false)), .call 104 [(.tmp 60), (.tmp 62)]⟩, ⟨(some 64), none, .pick (.tmp 58) (.const (.bool true)) (.tmp 63)⟩, ⟨(some 65), none, .ia none 1 (.tmp 26) (.tmp 27)⟩, ⟨none, none, .store 1 (.tmp 65) (.tmp 64)⟩])))
 (.reg [2, 4, 7, 19, 20, 21] [⟨(some 66), none, .bin .add 3 (.tmp 21) (.const (.int .i64 1))⟩, ⟨(some 21), none, .mv (.tmp 66)⟩]))))
/- 91 waymark/prune.Down: slots 0 g, 1 w, 2 down, 3 g, 4 w, 5 down, 7 out, 8 i, 9 l -/
def sc_prune_Down : SCode :=
 (.seq (.reg [0, 1, 2] [⟨(some 3), none, .box 24 (.tmp 0)⟩, ⟨(some 4), none, .box 27 (.tmp 1)⟩, ⟨(some 6), none, .mv (.const (.slice none 0 0))⟩])
 (.seq (.seq (.reg [2, 3, 4] [⟨(some 10), none, .load 2 true (.tmp 3)⟩, ⟨(some 11), none, .load 7 true (.tmp 4)⟩, ⟨(some 12), none, .call 90 [(.tmp 10), (.tmp 11)]⟩, ⟨(some 13), none, .bin .neq 37 (.tmp 12) (.const (.int .i64 0))⟩])
 (.cond (.tmp 13) (.seq (.reg [] [⟨(some 6), none, .mv (.const (.slice none 0 0))⟩])
 .ret) .skip))
 (.seq (.reg [2, 3, 4] [⟨(some 14), none, .fld 1 (.tmp 3)⟩, ⟨(some 15), none, .load 1 false (.tmp 14)⟩, ⟨(some 16), none, .len false (.tmp 15)⟩, ⟨(some 17), none, .mksl 4 1 1 [(.bool false)] (.tmp 16) (.tmp 16)⟩, ⟨(some 7), none, .mv (.tmp 17)⟩])
 (.seq (.seq (.reg [2, 3, 4, 7] [⟨(some 18), none, .fld 1 (.tmp 3)⟩, ⟨(some 19), none, .load 1 false (.tmp 18)⟩, ⟨(some 20), none, .len false (.tmp 19)⟩, ⟨(some 21), none, .mv (.const (.int .i64 0))⟩])
 (.block 0 (.loop [2, 4, 7, 19, 20, 21] [] sc_prune_Down_L0)))
 (.seq (.reg [7] [⟨(some 67), none, .mv (.tmp 7)⟩, ⟨(some 6), none, .mv (.tmp 67)⟩])
 .ret)))))
theorem fn_prune_Down : FnOk Try.prog 91 Try.f91 sc_prune_Down [.tmp 6] 3 := ⟨Try.func91, by kernel_rfl, by kernel_rfl, by kernel_rfl, by kernel_rfl, by kernel_rfl, by kernel_rfl⟩

/- 100 waymark/prune.Right$1: slots 0 n, 2 n -/
def sc_prune_Right_d1 : SCode :=
 (.seq (.reg [0, 1] [⟨(some 3), none, .mv (.const (.bool false))⟩])
 (.seq (.reg [0, 1] [⟨(some 4), none, .load 2 true (.tmp 1)⟩, ⟨(some 5), none, .mv (.tmp 0)⟩, ⟨(some 6), none, .call 62 [(.tmp 4), (.tmp 5)]⟩, ⟨(some 7), none, .un .not (.tmp 6)⟩, ⟨(some 3), none, .mv (.tmp 7)⟩])
 .ret))
theorem fn_prune_Right_d1 : FnOk Try.prog 100 Try.f100 sc_prune_Right_d1 [.tmp 3] 2 := ⟨Try.func100, by kernel_rfl, by kernel_rfl, by kernel_rfl, by kernel_rfl, by kernel_rfl, by kernel_rfl⟩

/- 101 waymark/prune.Right$2: slots 0 n, 2 n -/
def sc_prune_Right_d2 : SCode :=
 (.seq (.reg [0, 1] [⟨(some 3), none, .mv (.const (.bool false))⟩])
 (.seq (.reg [0, 1] [⟨(some 4), none, .mv (.tmp 0)⟩, ⟨(some 5), none, .bin .lss 3 (.tmp 4) (.const (.int .i64 0))⟩, ⟨(some 6), none, .mv (.tmp 5)⟩, ⟨(some 7), (some (6, false)), .mv (.tmp 0)⟩, ⟨(some 8), (some (6, false)), .fld 1 (.tmp 1)⟩, ⟨(some 9), (some (6, false)), .load 1 false (.tmp 8)⟩, ⟨(some 10), (some (6, false)), .len false (.tmp 9)⟩, ⟨(some 11), (some (6, false)), .bin .geq 3 (.tmp 7) (.tmp 10)⟩, ⟨(some 12), none, .pick (.tmp 6) (.const (.bool true)) (.tmp 11)⟩, ⟨(some 3), none, .mv (.tmp 12)⟩])
 .ret))
theorem fn_prune_Right_d2 : FnOk Try.prog 101 Try.f101 sc_prune_Right_d2 [.tmp 3] 2 := ⟨Try.func101, by kernel_rfl, by kernel_rfl, by kernel_rfl, by kernel_rfl, by kernel_rfl, by kernel_rfl⟩

/- 102 waymark/prune.Right$3: slots 0 n, 1 n -/
def sc_prune_Right_d3 : SCode :=
 (.seq (.reg [0] [⟨(some 2), none, .mv (.const (.bool false))⟩])
 (.seq (.reg [0] [⟨(some 3), none, .mv (.tmp 0)⟩, ⟨(some 4), none, .bin .lss 3 (.tmp 3) (.const (.int .i64 0))⟩, ⟨(some 5), none, .mv (.tmp 4)⟩, ⟨(some 6), (some (5, false)), .mv (.tmp 0)⟩, ⟨(some 7), (some (5, false)), .bin .gtr 3 (.tmp 6) (.const (.int .i64 62))⟩, ⟨(some 8), none, .pick (.tmp 5) (.const (.bool true)) (.tmp 7)⟩, ⟨(some 2), none, .mv (.tmp 8)⟩])
 .ret))
theorem fn_prune_Right_d3 : FnOk Try.prog 102 Try.f102 sc_prune_Right_d3 [.tmp 2] 1 := ⟨Try.func102, by kernel_rfl, by kernel_rfl, by kernel_rfl, by kernel_rfl, by kernel_rfl, by kernel_rfl⟩

end Go.Proofs.Ytejmcijcdhoogaa
end

section
namespace Go.Proofs.Ytejmcijcdhoogaa
open Go Abs

/- 26 waymark/repair.Around: slots 0 t, 1 edge, 2 to, 3 depth, 4 t, 5 edge, 6 to, 7 depth, 10 g, 11 from, 12 _, 13 ok, 14 down -/
def sc_repair_Around : SCode :=
 (.seq (.reg [0, 1, 2, 3] [⟨(some 8), none, .mv (.const (.slice none 0 0))⟩, ⟨(some 9), none, .mv (.const (.int .i64 0))⟩])
 (.seq (.seq (.reg [0, 1, 2, 3] [⟨(some 15), none, .mv (.tmp 0)⟩, ⟨(some 16), none, .isnil .p false (.tmp 15)⟩])
 (.cond (.tmp 16) (.seq (.reg [] [⟨(some 8), none, .mv (.const (.slice none 0 0))⟩, ⟨(some 9), none, .mv (.const (.int .i64 1))⟩])
 .ret) .skip))
 (.seq (.reg [0, 1, 2, 3] [⟨(some 17), none, .mv (.tmp 0)⟩, ⟨(some 18), none, .call 56 [(.tmp 17)]⟩, ⟨(some 10), none, .alloc 24 [(.int .i64 0), (.slice none 0 0)]⟩, ⟨none, none, .store 2 (.tmp 10) (.tmp 18)⟩])
 (.seq (.reg [0, 1, 2, 3, 10] [⟨(some 20), none, .load 2 true (.tmp 10)⟩, ⟨(some 21), none, .mv (.tmp 1)⟩, ⟨(some 22), none, .call 57 [(.tmp 20), (.tmp 21)]⟩, ⟨(some 19), none, .mv (.tmp 22)⟩, ⟨(some 23), none, .ext (.tmp 19) 0⟩, ⟨(some 24), none, .ext (.tmp 19) 1⟩, ⟨(some 25), none, .ext (.tmp 19) 2⟩, ⟨(some 11), none, .mv (.tmp 23)⟩, ⟨(some 12), none, .mv (.tmp 24)⟩, ⟨(some 13), none, .mv (.tmp 25)⟩])
 (.seq (.seq (.reg [0, 1, 2, 3, 10, 11, 13] [⟨(some 26), none, .mv (.tmp 13)⟩, ⟨(some 27), none, .un .not (.tmp 26)⟩])
 (.cond (.tmp 27) (.seq (.reg [] [⟨(some 8), none, .mv (.const (.slice none 0 0))⟩, ⟨(some 9), none, .mv (.const (.int .i64 5))⟩])
 .ret) .skip))
 (.seq (.reg [0, 1, 2, 3, 10, 11] [⟨(some 28), none, .fld 1 (.tmp 10)⟩, ⟨(some 29), none, .load 1 false (.tmp 28)⟩, ⟨(some 30), none, .len false (.tmp 29)⟩, ⟨(some 31), none, .mksl 4 1 1 [(.bool false)] (.tmp 30) (.tmp 30)⟩, ⟨(some 14), none, .mv (.tmp 31)⟩])
 (.seq (.reg [0, 1, 2, 3, 11, 14] [⟨(some 32), none, .mv (.tmp 14)⟩, ⟨(some 33), none, .mv (.tmp 1)⟩, ⟨(some 34), none, .bin .quo 3 (.tmp 33) (.const (.int .i64 2))⟩, ⟨(some 35), none, .ia none 1 (.tmp 32) (.tmp 34)⟩, ⟨none, none, .store 1 (.tmp 35) (.const (.bool true))⟩])
 (.seq (.reg [0, 2, 3, 11, 14] [⟨(some 36), none, .mv (.tmp 0)⟩, ⟨(some 37), none, .mv (.tmp 11)⟩, ⟨(some 38), none, .mv (.tmp 2)⟩, ⟨(some 39), none, .build [(.int .i64 0), (.int .i64 0), (.int .i64 0), (.slice none 0 0), (.slice none 0 0), (.slice none 0 0), (.slice none 0 0)] [(0, 1, (.tmp 37)), (1, 1, (.tmp 38))]⟩, ⟨(some 40), none, .mv (.tmp 14)⟩, ⟨(some 41), none, .mv (.tmp 3)⟩, ⟨(some 42), none, .call 20 [(.tmp 36), (.tmp 39), (.tmp 40), (.tmp 41)]⟩, ⟨(some 43), none, .ext (.tmp 42) 0⟩, ⟨(some 44), none, .ext (.tmp 42) 1⟩, ⟨(some 8), none, .mv (.tmp 43)⟩, ⟨(some 9), none, .mv (.tmp 44)⟩])
 .ret))))))))
theorem fn_repair_Around : FnOk Try.prog 26 Try.f26 sc_repair_Around [.tmp 8, .tmp 9] 4 := ⟨Try.func26, by kernel_rfl, by kernel_rfl, by kernel_rfl, by kernel_rfl, by kernel_rfl, by kernel_rfl⟩

end Go.Proofs.Ytejmcijcdhoogaa
end

section
namespace Go.Proofs.Ytejmcijcdhoogaa
open Go Abs

/- 66 slices.Clone[[]waymark/api.Link,waymark/api.Link]: slots 0 s, 1 s -/
def sc_slices_Clone_api_Link_api_Link : SCode :=
 (.seq (.reg [0] [⟨(some 2), none, .mv (.const (.slice none 0 0))⟩])
 (.seq (.seq (.reg [0] [⟨(some 3), none, .mv (.tmp 0)⟩, ⟨(some 4), none, .isnil .s false (.tmp 3)⟩])
 (.cond (.tmp 4) (.seq (.reg [] [⟨(some 2), none, .mv (.const (.slice none 0 0))⟩])
 .ret) .skip))
 (.seq (.reg [0] [⟨(some 5), none, .hp (.bsl 48 4 [(.int .i64 0), (.int .i64 0), (.int .i64 0), (.int .i64 0)] 0 [])⟩, ⟨(some 6), none, .mv (.tmp 0)⟩, ⟨(some 7), none, .hp (.app 22 48 4 32 (.agg #[(.int .i64 0), (.int .i64 0), (.int .i64 0), (.int .i64 0)]) (.tmp 5) (.tmp 6))⟩, ⟨(some 2), none, .mv (.tmp 7)⟩])
 .ret)))
theorem fn_slices_Clone_api_Link_api_Link : FnOk Try.prog 66 Try.f66 sc_slices_Clone_api_Link_api_Link [.tmp 2] 1 := ⟨Try.func66, by kernel_rfl, by kernel_rfl, by kernel_rfl, by kernel_rfl, by kernel_rfl, by kernel_rfl⟩

/- loop of slices.Concat[[]waymark/api.Seg,waymark/api.Seg], wants [6, 25, 26, 27] [] -/
def sc_slices_Concat_api_Seg_api_Seg_L0 : SCode :=
 (.seq (.reg [6, 25, 26, 27] [⟨(some 28), none, .bin .lss 3 (.tmp 27) (.tmp 26)⟩])
 (.seq (.cond (.tmp 28) .skip (.exit 2))
 (.seq (.block 3 (.seq (.reg [6, 25, 26, 27] [⟨(some 29), none, .ia none 1 (.tmp 25) (.tmp 27)⟩, ⟨(some 30), none, .load 1 false (.tmp 29)⟩, ⟨(some 8), none, .mv (.tmp 30)⟩])
 (.reg [6, 8, 25, 26, 27] [⟨(some 31), none, .mv (.tmp 6)⟩, ⟨(some 32), none, .mv (.tmp 8)⟩, ⟨(some 33), none, .hp (.app 36 50 2 16 (.agg #[(.bool false), (.int .i64 0)]) (.tmp 31) (.tmp 32))⟩, ⟨(some 6), none, .mv (.tmp 33)⟩])))
 (.reg [6, 25, 26, 27] [⟨(some 34), none, .bin .add 3 (.tmp 27) (.const (.int .i64 1))⟩, ⟨(some 27), none, .mv (.tmp 34)⟩]))))
/- loop of slices.Concat[[]waymark/api.Seg,waymark/api.Seg], wants [0, 3, 9, 10, 11] [] -/
def sc_slices_Concat_api_Seg_api_Seg_L1 : SCode :=
 (.seq (.reg [0, 3, 9, 10, 11] [⟨(some 12), none, .bin .lss 3 (.tmp 11) (.tmp 10)⟩])
 (.seq (.cond (.tmp 12) .skip (.exit 0))
 (.seq (.block 1 (.seq (.reg [0, 3, 9, 10, 11] [⟨(some 13), none, .ia none 1 (.tmp 9) (.tmp 11)⟩, ⟨(some 14), none, .load 1 false (.tmp 13)⟩, ⟨(some 5), none, .mv (.tmp 14)⟩])
 (.seq (.reg [0, 3, 5, 9, 10, 11] [⟨(some 15), none, .mv (.tmp 3)⟩, ⟨(some 16), none, .mv (.tmp 5)⟩, ⟨(some 17), none, .len false (.tmp 16)⟩, ⟨(some 18), none, .bin .add 3 (.tmp 15) (.tmp 17)⟩, ⟨(some 3), none, .mv (.tmp 18)⟩])
 (.seq (.reg [0, 3, 9, 10, 11] [⟨(some 19), none, .mv (.tmp 3)⟩, ⟨(some 20), none, .bin .lss 3 (.tmp 19) (.const (.int .i64 0))⟩])
 (.cond (.tmp 20) (.reg [0, 3, 9, 10, 11] [⟨(some 21), none, .halt⟩, ⟨none, none, .halt⟩]) .skip)))))
 (.reg [0, 3, 9, 10, 11] [⟨(some 22), none, .bin .add 3 (.tmp 11) (.const (.int .i64 1))⟩, ⟨(some 11), none, .mv (.tmp 22)⟩]))))
/- 97 slices.Concat[[]waymark/api.Seg,waymark/api.Seg]: slots 0 slices, 1 slices, 3 size, 4 _, 5 s, 6 newslice, 7 _, 8 s -/
def sc_slices_Concat_api_Seg_api_Seg : SCode :=
 (.seq (.reg [0] [⟨(some 2), none, .mv (.const (.slice none 0 0))⟩])
 (.seq (.reg [0] [⟨(some 3), none, .mv (.const (.int .i64 0))⟩])
 (.seq (.seq (.reg [0, 3] [⟨(some 9), none, .mv (.tmp 0)⟩, ⟨(some 10), none, .len false (.tmp 9)⟩, ⟨(some 11), none, .mv (.const (.int .i64 0))⟩])
 (.block 0 (.loop [0, 3, 9, 10, 11] [] sc_slices_Concat_api_Seg_api_Seg_L1)))
 (.seq (.reg [0, 3] [⟨(some 23), none, .mv (.tmp 3)⟩, ⟨(some 24), none, .call 111 [(.const (.slice none 0 0)), (.tmp 23)]⟩, ⟨(some 6), none, .mv (.tmp 24)⟩])
 (.seq (.seq (.reg [0, 6] [⟨(some 25), none, .mv (.tmp 0)⟩, ⟨(some 26), none, .len false (.tmp 25)⟩, ⟨(some 27), none, .mv (.const (.int .i64 0))⟩])
 (.block 2 (.loop [6, 25, 26, 27] [] sc_slices_Concat_api_Seg_api_Seg_L0)))
 (.seq (.reg [6] [⟨(some 35), none, .mv (.tmp 6)⟩, ⟨(some 2), none, .mv (.tmp 35)⟩])
 .ret))))))
theorem fn_slices_Concat_api_Seg_api_Seg : FnOk Try.prog 97 Try.f97 sc_slices_Concat_api_Seg_api_Seg [.tmp 2] 1 := ⟨Try.func97, by kernel_rfl, by kernel_rfl, by kernel_rfl, by kernel_rfl, by kernel_rfl, by kernel_rfl⟩

/- 103 slices.ContainsFunc[[]int,int]: slots 0 s, 1 f, 2 s, 3 f -/
def sc_slices_ContainsFunc_int_int : SCode :=
 (.seq (.reg [0, 1] [⟨(some 4), none, .mv (.const (.bool false))⟩])
 (.seq (.reg [0, 1] [⟨(some 5), none, .mv (.tmp 0)⟩, ⟨(some 6), none, .mv (.tmp 1)⟩, ⟨(some 7), none, .call 115 [(.tmp 5), (.tmp 6)]⟩, ⟨(some 8), none, .bin .geq 3 (.tmp 7) (.const (.int .i64 0))⟩, ⟨(some 4), none, .mv (.tmp 8)⟩])
 .ret))
theorem fn_slices_ContainsFunc_int_int : FnOk Try.prog 103 Try.f103 sc_slices_ContainsFunc_int_int [.tmp 4] 2 := ⟨Try.func103, by kernel_rfl, by kernel_rfl, by kernel_rfl, by kernel_rfl, by kernel_rfl, by kernel_rfl⟩

/- 104 slices.Contains[[]int,int]: slots 0 s, 1 v, 2 s, 3 v -/
def sc_slices_Contains_int_int : SCode :=
 (.seq (.reg [0, 1] [⟨(some 4), none, .mv (.const (.bool false))⟩])
 (.seq (.reg [0, 1] [⟨(some 5), none, .mv (.tmp 0)⟩, ⟨(some 6), none, .mv (.tmp 1)⟩, ⟨(some 7), none, .call 116 [(.tmp 5), (.tmp 6)]⟩, ⟨(some 8), none, .bin .geq 3 (.tmp 7) (.const (.int .i64 0))⟩, ⟨(some 4), none, .mv (.tmp 8)⟩])
 .ret))
theorem fn_slices_Contains_int_int : FnOk Try.prog 104 Try.f104 sc_slices_Contains_int_int [.tmp 4] 2 := ⟨Try.func104, by kernel_rfl, by kernel_rfl, by kernel_rfl, by kernel_rfl, by kernel_rfl, by kernel_rfl⟩

/- 110 slices.Clone[[]int,int]: slots 0 s, 1 s -/
def sc_slices_Clone_int_int : SCode :=
 (.seq (.reg [0] [⟨(some 2), none, .mv (.const (.slice none 0 0))⟩])
 (.seq (.seq (.reg [0] [⟨(some 3), none, .mv (.tmp 0)⟩, ⟨(some 4), none, .isnil .s false (.tmp 3)⟩])
 (.cond (.tmp 4) (.seq (.reg [] [⟨(some 2), none, .mv (.const (.slice none 0 0))⟩])
 .ret) .skip))
 (.seq (.reg [0] [⟨(some 5), none, .hp (.bsl 3 1 [(.int .i64 0)] 0 [])⟩, ⟨(some 6), none, .mv (.tmp 0)⟩, ⟨(some 7), none, .hp (.app 25 3 1 8 (.int .i64 0) (.tmp 5) (.tmp 6))⟩, ⟨(some 2), none, .mv (.tmp 7)⟩])
 .ret)))
theorem fn_slices_Clone_int_int : FnOk Try.prog 110 Try.f110 sc_slices_Clone_int_int [.tmp 2] 1 := ⟨Try.func110, by kernel_rfl, by kernel_rfl, by kernel_rfl, by kernel_rfl, by kernel_rfl, by kernel_rfl⟩

/- 111 slices.Grow[[]waymark/api.Seg,waymark/api.Seg]: slots 0 s, 1 n, 2 s, 3 n -/
def sc_slices_Grow_api_Seg_api_Seg : SCode :=
 (.seq (.reg [0, 1] [⟨(some 4), none, .mv (.const (.slice none 0 0))⟩])
 (.seq (.seq (.reg [0, 1] [⟨(some 5), none, .mv (.tmp 1)⟩, ⟨(some 6), none, .bin .lss 3 (.tmp 5) (.const (.int .i64 0))⟩])
 (.cond (.tmp 6) (.reg [0, 1] [⟨(some 7), none, .halt⟩, ⟨none, none, .halt⟩]) .skip))
 (.seq (.seq (.reg [0, 1] [⟨(some 8), none, .mv (.tmp 1)⟩, ⟨(some 9), none, .mv (.tmp 0)⟩, ⟨(some 10), none, .cap (.tmp 9)⟩, ⟨(some 11), none, .mv (.tmp 0)⟩, ⟨(some 12), none, .len false (.tmp 11)⟩, ⟨(some 13), none, .bin .sub 3 (.tmp 10) (.tmp 12)⟩, ⟨(some 14), none, .bin .sub 3 (.tmp 8) (.tmp 13)⟩, ⟨(some 1), none, .mv (.tmp 14)⟩])
 (.seq (.reg [0, 1] [⟨(some 15), none, .mv (.tmp 1)⟩, ⟨(some 16), none, .bin .gtr 3 (.tmp 15) (.const (.int .i64 0))⟩])
 (.cond (.tmp 16) (.reg [0, 1] [⟨(some 17), none, .mv (.tmp 0)⟩, ⟨(some 18), none, .mv (.tmp 0)⟩, ⟨(some 19), none, .cap (.tmp 18)⟩, ⟨(some 20), none, .slc (some 2) (.tmp 17) none (some (.tmp 19)) none⟩, ⟨(some 21), none, .mv (.tmp 1)⟩, ⟨(some 22), none, .hp (.appz 36 50 2 16 [(.bool false), (.int .i64 0)] (.tmp 20) (.tmp 21))⟩, ⟨(some 23), none, .mv (.tmp 0)⟩, ⟨(some 24), none, .len false (.tmp 23)⟩, ⟨(some 25), none, .slc (some 2) (.tmp 22) none (some (.tmp 24)) none⟩, ⟨(some 0), none, .mv (.tmp 25)⟩]) .skip)))
 (.seq (.reg [0] [⟨(some 26), none, .mv (.tmp 0)⟩, ⟨(some 4), none, .mv (.tmp 26)⟩])
 .ret))))
theorem fn_slices_Grow_api_Seg_api_Seg : FnOk Try.prog 111 Try.f111 sc_slices_Grow_api_Seg_api_Seg [.tmp 4] 2 := ⟨Try.func111, by kernel_rfl, by kernel_rfl, by kernel_rfl, by kernel_rfl, by kernel_rfl, by kernel_rfl⟩

/- loop of slices.IndexFunc[[]int,int], wants [0, 1, 7, 8] [] -/
def sc_slices_IndexFunc_int_int_L0 : SCode :=
 (.seq (.reg [0, 1, 7, 8] [⟨(some 9), none, .bin .lss 3 (.tmp 8) (.tmp 7)⟩])
 (.seq (.cond (.tmp 9) .skip (.exit 0))
 (.seq (.block 1 (.seq (.reg [0, 1, 7, 8] [⟨(some 10), none, .mv (.tmp 8)⟩, ⟨(some 5), none, .mv (.tmp 10)⟩])
 (.seq (.reg [0, 1, 5, 7, 8] [⟨(some 11), none, .mv (.tmp 1)⟩, ⟨(some 12), none, .mv (.tmp 0)⟩, ⟨(some 13), none, .mv (.tmp 5)⟩, ⟨(some 14), none, .ia none 1 (.tmp 12) (.tmp 13)⟩, ⟨(some 15), none, .load 1 false (.tmp 14)⟩, ⟨(some 16), none, .cald (.tmp 11) [(.tmp 15)]⟩])
 (.cond (.tmp 16) (.seq (.reg [5] [⟨(some 17), none, .mv (.tmp 5)⟩, ⟨(some 4), none, .mv (.tmp 17)⟩])
 .ret) .skip))))
 (.reg [0, 1, 7, 8] [⟨(some 18), none, .bin .add 3 (.tmp 8) (.const (.int .i64 1))⟩, ⟨(some 8), none, .mv (.tmp 18)⟩]))))
/- 115 slices.IndexFunc[[]int,int]: slots 0 s, 1 f, 2 s, 3 f, 5 i -/
def sc_slices_IndexFunc_int_int : SCode :=
 (.seq (.reg [0, 1] [⟨(some 4), none, .mv (.const (.int .i64 0))⟩])
 (.seq (.seq (.reg [0, 1] [⟨(some 6), none, .mv (.tmp 0)⟩, ⟨(some 7), none, .len false (.tmp 6)⟩, ⟨(some 8), none, .mv (.const (.int .i64 0))⟩])
 (.block 0 (.loop [0, 1, 7, 8] [] sc_slices_IndexFunc_int_int_L0)))
 (.seq (.reg [] [⟨(some 4), none, .mv (.const (.int .i64 (-1)))⟩])
 .ret)))
theorem fn_slices_IndexFunc_int_int : FnOk Try.prog 115 Try.f115 sc_slices_IndexFunc_int_int [.tmp 4] 2 := ⟨Try.func115, by kernel_rfl, by kernel_rfl, by kernel_rfl, by kernel_rfl, by kernel_rfl, by kernel_rfl⟩

/- loop of slices.Index[[]int,int], wants [0, 1, 7, 8] [] -/
def sc_slices_Index_int_int_L0 : SCode :=
 (.seq (.reg [0, 1, 7, 8] [⟨(some 9), none, .bin .lss 3 (.tmp 8) (.tmp 7)⟩])
 (.seq (.cond (.tmp 9) .skip (.exit 0))
 (.seq (.block 1 (.seq (.reg [0, 1, 7, 8] [⟨(some 10), none, .mv (.tmp 8)⟩, ⟨(some 5), none, .mv (.tmp 10)⟩])
 (.seq (.reg [0, 1, 5, 7, 8] [⟨(some 11), none, .mv (.tmp 1)⟩, ⟨(some 12), none, .mv (.tmp 0)⟩, ⟨(some 13), none, .mv (.tmp 5)⟩, ⟨(some 14), none, .ia none 1 (.tmp 12) (.tmp 13)⟩, ⟨(some 15), none, .load 1 false (.tmp 14)⟩, ⟨(some 16), none, .bin .eql 3 (.tmp 11) (.tmp 15)⟩])
 (.cond (.tmp 16) (.seq (.reg [5] [⟨(some 17), none, .mv (.tmp 5)⟩, ⟨(some 4), none, .mv (.tmp 17)⟩])
 .ret) .skip))))
 (.reg [0, 1, 7, 8] [⟨(some 18), none, .bin .add 3 (.tmp 8) (.const (.int .i64 1))⟩, ⟨(some 8), none, .mv (.tmp 18)⟩]))))
/- 116 slices.Index[[]int,int]: slots 0 s, 1 v, 2 s, 3 v, 5 i -/
def sc_slices_Index_int_int : SCode :=
 (.seq (.reg [0, 1] [⟨(some 4), none, .mv (.const (.int .i64 0))⟩])
 (.seq (.seq (.reg [0, 1] [⟨(some 6), none, .mv (.tmp 0)⟩, ⟨(some 7), none, .len false (.tmp 6)⟩, ⟨(some 8), none, .mv (.const (.int .i64 0))⟩])
 (.block 0 (.loop [0, 1, 7, 8] [] sc_slices_Index_int_int_L0)))
 (.seq (.reg [] [⟨(some 4), none, .mv (.const (.int .i64 (-1)))⟩])
 .ret)))
theorem fn_slices_Index_int_int : FnOk Try.prog 116 Try.f116 sc_slices_Index_int_int [.tmp 4] 2 := ⟨Try.func116, by kernel_rfl, by kernel_rfl, by kernel_rfl, by kernel_rfl, by kernel_rfl, by kernel_rfl⟩

end Go.Proofs.Ytejmcijcdhoogaa
end

section
namespace Go.Proofs.Ytejmcijcdhoogaa
open Go Abs

/- 67 waymark/spf.To: slots 0 g, 1 down, 2 node, 3 g, 4 down, 5 node -/
def sc_spf_To : SCode :=
 (.seq (.reg [0, 1, 2] [⟨(some 3), none, .box 24 (.tmp 0)⟩, ⟨(some 6), none, .mv (.const (.slice none 0 0))⟩])
 (.seq (.reg [1, 2, 3] [⟨(some 7), none, .load 2 true (.tmp 3)⟩, ⟨(some 8), none, .mv (.tmp 1)⟩, ⟨(some 9), none, .mv (.tmp 2)⟩, ⟨(some 10), none, .call 87 [(.tmp 7), (.tmp 8), (.tmp 9)]⟩, ⟨(some 6), none, .mv (.tmp 10)⟩])
 .ret))
theorem fn_spf_To : FnOk Try.prog 67 Try.f67 sc_spf_To [.tmp 6] 3 := ⟨Try.func67, by kernel_rfl, by kernel_rfl, by kernel_rfl, by kernel_rfl, by kernel_rfl, by kernel_rfl⟩

/- loop of waymark/spf.Next, wants [1, 2, 3, 4, 9, 40, 41, 42] [(9, 85, 3, 1)] -/
def sc_spf_Next_L0 : SCode :=
 (.seq (.reg [1, 2, 3, 4, 9, 40, 41, 42] [⟨(some 43), none, .bin .lss 3 (.tmp 42) (.tmp 41)⟩])
 (.seq (.cond (.tmp 43) .skip (.exit 0))
 (.seq (.block 1 (.seq (.reg [1, 2, 3, 4, 9, 40, 41, 42] [⟨(some 44), none, .ia none 1 (.tmp 40) (.tmp 42)⟩, ⟨(some 45), none, .load 1 false (.tmp 44)⟩, ⟨(some 11), none, .mv (.tmp 45)⟩])
 (.seq (.reg [1, 2, 3, 4, 9, 11, 40, 41, 42] [⟨(some 47), none, .load 2 true (.tmp 4)⟩, ⟨(some 48), none, .mv (.tmp 11)⟩, ⟨(some 49), none, .call 57 [(.tmp 47), (.tmp 48)]⟩, ⟨(some 46), none, .mv (.tmp 49)⟩, ⟨(some 50), none, .ext (.tmp 46) 0⟩, ⟨(some 51), none, .ext (.tmp 46) 1⟩, ⟨(some 52), none, .ext (.tmp 46) 2⟩, ⟨(some 12), none, .mv (.tmp 50)⟩, ⟨(some 13), none, .mv (.tmp 51)⟩, ⟨(some 14), none, .mv (.tmp 52)⟩])
 (.seq (.draw [1, 2, 3, 4, 9, 11, 13, 40, 41, 42] [⟨(some 53), none, .mv (.tmp 1)⟩, ⟨(some 54), none, .mv (.tmp 11)⟩, ⟨(some 55), none, .call 83 [(.tmp 53), (.tmp 54)]⟩, ⟨(some 56), none, .mv (.tmp 55)⟩, ⟨(some 57), (some (56, true)), .mv (.tmp 2)⟩, ⟨(some 58), (some (56, true)), .mv (.tmp 13)⟩, ⟨(some 59), (some (56, true)), .ia none 1 (.tmp 57) (.tmp 58)⟩, ⟨(some 60), (some (56, true)), .load 1 false (.tmp 59)⟩, ⟨(some 61), (some (56, true)), .bin .geq 3 (.tmp 60) (.const (.int .i64 0))⟩, ⟨(some 62), none, .pick (.tmp 56) (.tmp 61) (.const (.bool false))⟩, ⟨(some 63), none, .mv (.tmp 62)⟩, ⟨(some 64), (some (63, true)), .mv (.tmp 2)⟩, ⟨(some 65), (some (63, true)), .mv (.tmp 3)⟩, ⟨(some 66), (some (63, true)), .ia none 1 (.tmp 64) (.tmp 65)⟩, ⟨(some 67), (some (63, true)), .load 1 false (.tmp 66)⟩, ⟨(some 68), (some (63, true)), .fld 1 (.tmp 4)⟩, ⟨(some 69), (some (63, true)), .load 1 false (.tmp 68)⟩, ⟨(some 70), (some (63, true)), .mv (.tmp 11)⟩, ⟨(some 71), (some (63, true)), .bin .quo 3 (.tmp 70) (.const (.int .i64 2))⟩, ⟨(some 72), (some (63, true)), .ia none 4 (.tmp 69) (.tmp 71)⟩, ⟨(some 73), (some (63, true)), .fld 2 (.tmp 72)⟩, ⟨(some 74), (some (63, true)), .load 1 false (.tmp 73)⟩, ⟨(some 75), (some (63, true)), .bin .sub 3 (.tmp 67) (.tmp 74)⟩, ⟨(some 76), (some (63, true)), .mv (.tmp 2)⟩, ⟨(some 77), (some (63, true)), .mv (.tmp 13)⟩, ⟨(some 78), (some (63, true)), .ia none 1 (.tmp 76) (.tmp 77)⟩, ⟨(some 79), (some (63, true)), .load 1 false (.tmp 78)⟩, ⟨(some 80), (some (63, true)), .bin .eql 3 (.tmp 75) (.tmp 79)⟩, ⟨(some 81), none, .pick (.tmp 63) (.tmp 80) (.const (.bool false))⟩])
 (.cond (.tmp 81) (.reg [1, 2, 3, 4, 9, 11, 40, 41, 42] [⟨(some 82), none, .mv (.tmp 9)⟩, ⟨(some 83), none, .mv (.tmp 11)⟩, ⟨(some 84), none, .bsl 3 1 [(.int .i64 0)] 1 [(0, 1, (.tmp 83))]⟩, ⟨(some 85), none, .app 25 3 1 8 (.int .i64 0) (.tmp 82) (.tmp 84)⟩, ⟨(some 9), none, .mv (.tmp 85)⟩]) .skip)))))
 (.reg [1, 2, 3, 4, 9, 40, 41, 42] [⟨(some 86), none, .bin .add 3 (.tmp 42) (.const (.int .i64 1))⟩, ⟨(some 42), none, .mv (.tmp 86)⟩]))))
/- 68 waymark/spf.Next: slots 0 g, 1 down, 2 to, 3 node, 4 g, 5 down, 6 to, 7 node, 9 out, 10 _, 11 edge, 12 _, 13 end, 14 _ -/
def sc_spf_Next : SCode :=
 (.seq (.reg [0, 1, 2, 3] [⟨(some 4), none, .box 24 (.tmp 0)⟩, ⟨(some 8), none, .mv (.const (.slice none 0 0))⟩])
 (.seq (.seq (.reg [1, 2, 3, 4] [⟨(some 15), none, .load 2 true (.tmp 4)⟩, ⟨(some 16), none, .call 88 [(.tmp 15)]⟩, ⟨(some 17), none, .un .not (.tmp 16)⟩, ⟨(some 18), none, .mv (.tmp 17)⟩, ⟨(some 19), (some (18, false)), .mv (.tmp 2)⟩, ⟨(some 20), (some (18, false)), .len false (.tmp 19)⟩, ⟨(some 21), (some (18, false)), .fld 0 (.tmp 4)⟩, ⟨(some 22), (some (18, false)), .load 1 false (.tmp 21)⟩, ⟨(some 23), (some (18, false)), .bin .neq 3 (.tmp 20) (.tmp 22)⟩, ⟨(some 24), none, .pick (.tmp 18) (.const (.bool true)) (.tmp 23)⟩, ⟨(some 25), none, .mv (.tmp 24)⟩, ⟨(some 26), (some (25, false)), .load 2 true (.tmp 4)⟩, ⟨(some 27), (some (25, false)), .mv (.tmp 3)⟩, ⟨(some 28), (some (25, false)), .call 62 [(.tmp 26), (.tmp 27)]⟩, ⟨(some 29), (some (25, false)), .un .not (.tmp 28)⟩, ⟨(some 30), none, .pick (.tmp 25) (.const (.bool true)) (.tmp 29)⟩, ⟨(some 31), none, .mv (.tmp 30)⟩, ⟨(some 32), (some (31, false)), .mv (.tmp 2)⟩, ⟨(some 33), (some (31, false)), .mv (.tmp 3)⟩, ⟨(some 34), (some (31, false)), .ia none 1 (.tmp 32) (.tmp 33)⟩, ⟨(some 35), (some (31, false)), .load 1 false (.tmp 34)⟩, ⟨(some 36), (some (31, false)), .bin .leq 3 (.tmp 35) (.const (.int .i64 0))⟩, ⟨(some 37), none, .pick (.tmp 31) (.const (.bool true)) (.tmp 36)⟩])
 (.cond (.tmp 37) (.seq (.reg [] [⟨(some 8), none, .mv (.const (.slice none 0 0))⟩])
 .ret) .skip))
 (.seq (.reg [1, 2, 3, 4] [⟨(some 9), none, .mv (.const (.slice none 0 0))⟩])
 (.seq (.seq (.reg [1, 2, 3, 4, 9] [⟨(some 38), none, .load 2 true (.tmp 4)⟩, ⟨(some 39), none, .mv (.tmp 3)⟩, ⟨(some 40), none, .call 89 [(.tmp 38), (.tmp 39)]⟩, ⟨(some 41), none, .len false (.tmp 40)⟩, ⟨(some 42), none, .mv (.const (.int .i64 0))⟩])
 (.block 0 (.loop [1, 2, 3, 4, 9, 40, 41, 42] [(9, 85, 3, 1)] sc_spf_Next_L0)))
 (.seq (.reg [9] [⟨(some 87), none, .mv (.tmp 9)⟩, ⟨(some 8), none, .mv (.tmp 87)⟩])
 .ret)))))
theorem fn_spf_Next : FnOk Try.prog 68 Try.f68 sc_spf_Next [.tmp 8] 4 := ⟨Try.func68, by kernel_rfl, by kernel_rfl, by kernel_rfl, by kernel_rfl, by kernel_rfl, by kernel_rfl⟩

/- 83 waymark/spf.Up: slots 0 down, 1 edge, 2 down, 3 edge -/
def sc_spf_Up : SCode :=
 (.seq (.reg [0, 1] [⟨(some 4), none, .mv (.const (.bool false))⟩])
 (.seq (.reg [0, 1] [⟨(some 5), none, .mv (.tmp 1)⟩, ⟨(some 6), none, .bin .quo 3 (.tmp 5) (.const (.int .i64 2))⟩, ⟨(some 7), none, .mv (.tmp 0)⟩, ⟨(some 8), none, .len false (.tmp 7)⟩, ⟨(some 9), none, .bin .geq 3 (.tmp 6) (.tmp 8)⟩, ⟨(some 10), none, .mv (.tmp 9)⟩, ⟨(some 11), (some (10, false)), .mv (.tmp 0)⟩, ⟨(some 12), (some (10, false)), .mv (.tmp 1)⟩, ⟨(some 13), (some (10, false)), .bin .quo 3 (.tmp 12) (.const (.int .i64 2))⟩, ⟨(some 14), (some (10, false)), .ia none 1 (.tmp 11) (.tmp 13)⟩, ⟨(some 15), (some (10, false)), .load 1 false (.tmp 14)⟩, ⟨(some 16), (some (10, false)), .un .not (.tmp 15)⟩, ⟨(some 17), none, .pick (.tmp 10) (.const (.bool true)) (.tmp 16)⟩, ⟨(some 4), none, .mv (.tmp 17)⟩])
 .ret))
theorem fn_spf_Up : FnOk Try.prog 83 Try.f83 sc_spf_Up [.tmp 4] 2 := ⟨Try.func83, by kernel_rfl, by kernel_rfl, by kernel_rfl, by kernel_rfl, by kernel_rfl, by kernel_rfl⟩

/- loop of waymark/spf.From, wants [1, 3, 7, 9, 10, 64, 65, 66] [] -/
def sc_spf_From_L0 : SCode :=
 (.seq (.reg [1, 3, 7, 9, 10, 64, 65, 66] [⟨(some 67), none, .bin .lss 3 (.tmp 66) (.tmp 65)⟩])
 (.seq (.cond (.tmp 67) .skip (.exit 4))
 (.seq (.block 5 (.seq (.reg [1, 3, 7, 9, 10, 64, 65, 66] [⟨(some 68), none, .ia none 1 (.tmp 64) (.tmp 66)⟩, ⟨(some 69), none, .load 1 false (.tmp 68)⟩, ⟨(some 14), none, .mv (.tmp 69)⟩])
 (.seq (.reg [1, 3, 7, 9, 10, 14, 64, 65, 66] [⟨(some 71), none, .load 2 true (.tmp 3)⟩, ⟨(some 72), none, .mv (.tmp 14)⟩, ⟨(some 73), none, .call 57 [(.tmp 71), (.tmp 72)]⟩, ⟨(some 70), none, .mv (.tmp 73)⟩, ⟨(some 74), none, .ext (.tmp 70) 0⟩, ⟨(some 75), none, .ext (.tmp 70) 1⟩, ⟨(some 76), none, .ext (.tmp 70) 2⟩, ⟨(some 15), none, .mv (.tmp 74)⟩, ⟨(some 16), none, .mv (.tmp 75)⟩, ⟨(some 17), none, .mv (.tmp 76)⟩])
 (.seq (.reg [1, 3, 7, 9, 10, 14, 16, 64, 65, 66] [⟨(some 77), none, .mv (.tmp 1)⟩, ⟨(some 78), none, .mv (.tmp 14)⟩, ⟨(some 79), none, .call 83 [(.tmp 77), (.tmp 78)]⟩, ⟨(some 80), none, .mv (.tmp 79)⟩, ⟨(some 81), (some (80, true)), .mv (.tmp 7)⟩, ⟨(some 82), (some (80, true)), .mv (.tmp 16)⟩, ⟨(some 83), (some (80, true)), .ia none 1 (.tmp 81) (.tmp 82)⟩, ⟨(some 84), (some (80, true)), .load 1 false (.tmp 83)⟩, ⟨(some 85), (some (80, true)), .bin .eql 3 (.tmp 84) (.const (.int .i64 (-1)))⟩, ⟨(some 86), none, .pick (.tmp 80) (.tmp 85) (.const (.bool false))⟩])
 (.cond (.tmp 86) (.reg [1, 3, 7, 9, 10, 14, 16, 64, 65, 66] [⟨(some 87), none, .mv (.tmp 9)⟩, ⟨(some 88), none, .mv (.tmp 10)⟩, ⟨(some 89), none, .fld 1 (.tmp 3)⟩, ⟨(some 90), none, .load 1 false (.tmp 89)⟩, ⟨(some 91), none, .mv (.tmp 14)⟩, ⟨(some 92), none, .bin .quo 3 (.tmp 91) (.const (.int .i64 2))⟩, ⟨(some 93), none, .ia none 4 (.tmp 90) (.tmp 92)⟩, ⟨(some 94), none, .fld 2 (.tmp 93)⟩, ⟨(some 95), none, .load 1 false (.tmp 94)⟩, ⟨(some 96), none, .bin .add 3 (.tmp 88) (.tmp 95)⟩, ⟨(some 97), none, .mv (.tmp 16)⟩, ⟨(some 98), none, .call 98 [(.tmp 87), (.tmp 96), (.tmp 97)]⟩]) .skip)))))
 (.reg [1, 3, 7, 9, 10, 64, 65, 66] [⟨(some 99), none, .bin .add 3 (.tmp 66) (.const (.int .i64 1))⟩, ⟨(some 66), none, .mv (.tmp 99)⟩]))))
/- loop of waymark/spf.From, wants [1, 3, 7, 9] [] -/
def sc_spf_From_L1 : SCode :=
 (.block 3 (.seq (.reg [1, 3, 7, 9] [⟨(some 45), none, .mv (.tmp 9)⟩, ⟨(some 46), none, .call 99 [(.tmp 45)]⟩, ⟨(some 44), none, .mv (.tmp 46)⟩, ⟨(some 47), none, .ext (.tmp 44) 0⟩, ⟨(some 48), none, .ext (.tmp 44) 1⟩, ⟨(some 49), none, .ext (.tmp 44) 2⟩, ⟨(some 10), none, .mv (.tmp 47)⟩, ⟨(some 11), none, .mv (.tmp 48)⟩, ⟨(some 12), none, .mv (.tmp 49)⟩])
 (.seq (.seq (.reg [1, 3, 7, 9, 10, 11, 12] [⟨(some 50), none, .mv (.tmp 12)⟩, ⟨(some 51), none, .un .not (.tmp 50)⟩])
 (.cond (.tmp 51) (.seq (.reg [7] [⟨(some 52), none, .mv (.tmp 7)⟩, ⟨(some 6), none, .mv (.tmp 52)⟩])
 .ret) .skip))
 (.seq (.seq (.reg [1, 3, 7, 9, 10, 11] [⟨(some 53), none, .mv (.tmp 7)⟩, ⟨(some 54), none, .mv (.tmp 11)⟩, ⟨(some 55), none, .ia none 1 (.tmp 53) (.tmp 54)⟩, ⟨(some 56), none, .load 1 false (.tmp 55)⟩, ⟨(some 57), none, .bin .neq 3 (.tmp 56) (.const (.int .i64 (-1)))⟩])
 (.cond (.tmp 57) (.exit 3) .skip))
 (.seq (.reg [1, 3, 7, 9, 10, 11] [⟨(some 58), none, .mv (.tmp 7)⟩, ⟨(some 59), none, .mv (.tmp 11)⟩, ⟨(some 60), none, .mv (.tmp 10)⟩, ⟨(some 61), none, .ia none 1 (.tmp 58) (.tmp 59)⟩, ⟨none, none, .store 1 (.tmp 61) (.tmp 60)⟩])
 (.seq (.reg [1, 3, 7, 9, 10, 11] [⟨(some 62), none, .load 2 true (.tmp 3)⟩, ⟨(some 63), none, .mv (.tmp 11)⟩, ⟨(some 64), none, .call 89 [(.tmp 62), (.tmp 63)]⟩, ⟨(some 65), none, .len false (.tmp 64)⟩, ⟨(some 66), none, .mv (.const (.int .i64 0))⟩])
 (.block 4 (.loop [1, 3, 7, 9, 10, 64, 65, 66] [] sc_spf_From_L0))))))))
/- loop of waymark/spf.From, wants [1, 2, 3, 7, 31, 32] [] -/
def sc_spf_From_L2 : SCode :=
 (.seq (.reg [1, 2, 3, 7, 31, 32] [⟨(some 33), none, .bin .lss 3 (.tmp 32) (.tmp 31)⟩])
 (.seq (.cond (.tmp 33) .skip (.exit 0))
 (.seq (.block 1 (.seq (.reg [1, 2, 3, 7, 31, 32] [⟨(some 34), none, .mv (.tmp 32)⟩, ⟨(some 8), none, .mv (.tmp 34)⟩])
 (.reg [1, 2, 3, 7, 8, 31, 32] [⟨(some 35), none, .mv (.tmp 7)⟩, ⟨(some 36), none, .mv (.tmp 8)⟩, ⟨(some 37), none, .ia none 1 (.tmp 35) (.tmp 36)⟩, ⟨none, none, .store 1 (.tmp 37) (.const (.int .i64 (-1)))⟩])))
 (.reg [1, 2, 3, 7, 31, 32] [⟨(some 38), none, .bin .add 3 (.tmp 32) (.const (.int .i64 1))⟩, ⟨(some 32), none, .mv (.tmp 38)⟩]))))
/- 87 waymark/spf.From: slots 0 g, 1 down, 2 node, 3 g, 4 down, 5 node, 7 out, 8 i, 9 h, 10 far, 11 at, 12 ok, 13 _, 14 edge, 15 _, 16 to, 17 _ -/
def sc_spf_From : SCode :=
 (.seq (.reg [0, 1, 2] [⟨(some 3), none, .box 24 (.tmp 0)⟩, ⟨(some 6), none, .mv (.const (.slice none 0 0))⟩])
 (.seq (.seq (.reg [1, 2, 3] [⟨(some 18), none, .load 2 true (.tmp 3)⟩, ⟨(some 19), none, .call 88 [(.tmp 18)]⟩, ⟨(some 20), none, .un .not (.tmp 19)⟩, ⟨(some 21), none, .mv (.tmp 20)⟩, ⟨(some 22), (some (21, false)), .load 2 true (.tmp 3)⟩, ⟨(some 23), (some (21, false)), .mv (.tmp 2)⟩, ⟨(some 24), (some (21, false)), .call 62 [(.tmp 22), (.tmp 23)]⟩, ⟨(some 25), (some (21, false)), .un .not (.tmp 24)⟩, ⟨(some 26), none, .pick (.tmp 21) (.const (.bool true)) (.tmp 25)⟩])
 (.cond (.tmp 26) (.seq (.reg [] [⟨(some 6), none, .mv (.const (.slice none 0 0))⟩])
 .ret) .skip))
 (.seq (.reg [1, 2, 3] [⟨(some 27), none, .fld 0 (.tmp 3)⟩, ⟨(some 28), none, .load 1 false (.tmp 27)⟩, ⟨(some 29), none, .mksl 3 1 8 [(.int .i64 0)] (.tmp 28) (.tmp 28)⟩, ⟨(some 7), none, .mv (.tmp 29)⟩])
 (.seq (.seq (.reg [1, 2, 3, 7] [⟨(some 30), none, .mv (.tmp 7)⟩, ⟨(some 31), none, .len false (.tmp 30)⟩, ⟨(some 32), none, .mv (.const (.int .i64 0))⟩])
 (.block 0 (.loop [1, 2, 3, 7, 31, 32] [] sc_spf_From_L2)))
 (.seq (.reg [1, 2, 3, 7] [⟨(some 39), none, .build [(.slice none 0 0)] []⟩, ⟨(some 40), none, .hp (.box 158 (.tmp 39))⟩, ⟨(some 9), none, .mv (.tmp 40)⟩])
 (.seq (.reg [1, 2, 3, 7, 9] [⟨(some 41), none, .mv (.tmp 9)⟩, ⟨(some 42), none, .mv (.tmp 2)⟩, ⟨(some 43), none, .call 98 [(.tmp 41), (.const (.int .i64 0)), (.tmp 42)]⟩])
 (.block 2 (.loop [1, 3, 7, 9] [] sc_spf_From_L1))))))))
theorem fn_spf_From : FnOk Try.prog 87 Try.f87 sc_spf_From [.tmp 6] 3 := ⟨Try.func87, by kernel_rfl, by kernel_rfl, by kernel_rfl, by kernel_rfl, by kernel_rfl, by kernel_rfl⟩

end Go.Proofs.Ytejmcijcdhoogaa
end

section
namespace Go.Proofs.Ytejmcijcdhoogaa
open Go Abs

/- loop of waymark/tables.New, wants [1, 6, 8, 9, 28, 29, 39, 40] [(9, 52, 25, 1)] -/
def sc_tables_New_L0 : SCode :=
 (.seq (.reg [1, 6, 8, 9, 28, 29, 39, 40] [⟨(some 41), none, .bin .lss 3 (.tmp 40) (.tmp 39)⟩])
 (.seq (.cond (.tmp 41) .skip (.exit 2))
 (.seq (.block 3 (.seq (.reg [1, 6, 8, 9, 28, 29, 39, 40] [⟨(some 42), none, .mv (.tmp 40)⟩, ⟨(some 10), none, .mv (.tmp 42)⟩])
 (.reg [1, 6, 8, 9, 10, 28, 29, 39, 40] [⟨(some 43), none, .mv (.tmp 9)⟩, ⟨(some 44), none, .mv (.tmp 6)⟩, ⟨(some 45), none, .nilc (.tmp 44)⟩, ⟨(some 46), none, .fld 0 (.tmp 45)⟩, ⟨(some 47), none, .load 2 true (.tmp 46)⟩, ⟨(some 48), none, .mv (.tmp 8)⟩, ⟨(some 49), none, .mv (.tmp 10)⟩, ⟨(some 50), none, .call 68 [(.tmp 47), (.const (.slice none 0 0)), (.tmp 48), (.tmp 49)]⟩, ⟨(some 51), none, .bsl 25 1 [(.slice none 0 0)] 1 [(0, 1, (.tmp 50))]⟩, ⟨(some 52), none, .app 98 25 1 24 (.slice none 0 0) (.tmp 43) (.tmp 51)⟩, ⟨(some 9), none, .mv (.tmp 52)⟩])))
 (.reg [1, 6, 8, 9, 28, 29, 39, 40] [⟨(some 53), none, .bin .add 3 (.tmp 40) (.const (.int .i64 1))⟩, ⟨(some 40), none, .mv (.tmp 53)⟩]))))
/- loop of waymark/tables.New, wants [1, 6, 28, 29] [] -/
def sc_tables_New_L1 : SCode :=
 (.seq (.reg [1, 6, 28, 29] [⟨(some 30), none, .bin .lss 3 (.tmp 29) (.tmp 28)⟩])
 (.seq (.cond (.tmp 30) .skip (.exit 0))
 (.seq (.block 1 (.seq (.reg [1, 6, 28, 29] [⟨(some 31), none, .mv (.tmp 29)⟩, ⟨(some 7), none, .mv (.tmp 31)⟩])
 (.seq (.reg [1, 6, 7, 28, 29] [⟨(some 32), none, .mv (.tmp 6)⟩, ⟨(some 33), none, .nilc (.tmp 32)⟩, ⟨(some 34), none, .fld 0 (.tmp 33)⟩, ⟨(some 35), none, .load 2 true (.tmp 34)⟩, ⟨(some 36), none, .mv (.tmp 7)⟩, ⟨(some 37), none, .call 67 [(.tmp 35), (.const (.slice none 0 0)), (.tmp 36)]⟩, ⟨(some 8), none, .mv (.tmp 37)⟩])
 (.seq (.reg [1, 6, 8, 28, 29] [⟨(some 9), none, .mv (.const (.slice none 0 0))⟩])
 (.seq (.seq (.reg [1, 6, 8, 9, 28, 29] [⟨(some 38), none, .fld 0 (.tmp 1)⟩, ⟨(some 39), none, .load 1 false (.tmp 38)⟩, ⟨(some 40), none, .mv (.const (.int .i64 0))⟩])
 (.block 2 (.loop [1, 6, 8, 9, 28, 29, 39, 40] [(9, 52, 25, 1)] sc_tables_New_L0)))
 (.fz [9] (.draw [1, 6, 8, 9, 28, 29] [⟨(some 54), none, .mv (.tmp 6)⟩, ⟨(some 55), none, .mv (.tmp 6)⟩, ⟨(some 56), none, .mv (.tmp 6)⟩, ⟨(some 57), none, .nilc (.tmp 56)⟩, ⟨(some 58), none, .fld 2 (.tmp 57)⟩, ⟨(some 59), none, .load 1 false (.tmp 58)⟩, ⟨(some 60), none, .mv (.tmp 8)⟩, ⟨(some 61), none, .bsl 25 1 [(.slice none 0 0)] 1 [(0, 1, (.tmp 60))]⟩, ⟨(some 62), none, .hp (.app 98 25 1 24 (.slice none 0 0) (.tmp 59) (.tmp 61))⟩, ⟨(some 63), none, .mv (.tmp 6)⟩, ⟨(some 64), none, .nilc (.tmp 63)⟩, ⟨(some 65), none, .fld 3 (.tmp 64)⟩, ⟨(some 66), none, .hp (.load 1 false (.tmp 65))⟩, ⟨(some 67), none, .mv (.tmp 9)⟩, ⟨(some 68), none, .bsl 98 1 [(.slice none 0 0)] 1 [(0, 1, (.tmp 67))]⟩, ⟨(some 69), none, .hp (.app 124 98 1 24 (.slice none 0 0) (.tmp 66) (.tmp 68))⟩, ⟨(some 70), none, .nilc (.tmp 54)⟩, ⟨(some 71), none, .fld 2 (.tmp 70)⟩, ⟨none, none, .store 1 (.tmp 71) (.tmp 62)⟩, ⟨(some 72), none, .nilc (.tmp 55)⟩, ⟨(some 73), none, .fld 3 (.tmp 72)⟩, ⟨none, none, .store 1 (.tmp 73) (.tmp 69)⟩])))))))
 (.reg [1, 6, 28, 29] [⟨(some 74), none, .bin .add 3 (.tmp 29) (.const (.int .i64 1))⟩, ⟨(some 29), none, .mv (.tmp 74)⟩]))))
/- 39 waymark/tables.New: slots 0 g, 1 g, 4 _, 5 e, 6 t, 7 n, 8 to, 9 next, 10 from -/
def sc_tables_New : SCode :=
 (.seq (.reg [0] [⟨(some 1), none, .box 24 (.tmp 0)⟩, ⟨(some 2), none, .mv (.const (.pointer none))⟩, ⟨(some 3), none, .mv (.const (.int .i64 0))⟩])
 (.seq (.seq (.reg [1] [⟨(some 12), none, .load 2 true (.tmp 1)⟩, ⟨(some 13), none, .call 65 [(.tmp 12)]⟩, ⟨(some 11), none, .mv (.tmp 13)⟩, ⟨(some 14), none, .ext (.tmp 11) 0⟩, ⟨(some 15), none, .ext (.tmp 11) 1⟩, ⟨(some 4), none, .mv (.tmp 14)⟩, ⟨(some 5), none, .mv (.tmp 15)⟩])
 (.seq (.reg [1, 5] [⟨(some 16), none, .mv (.tmp 5)⟩, ⟨(some 17), none, .bin .neq 37 (.tmp 16) (.const (.int .i64 0))⟩])
 (.cond (.tmp 17) (.seq (.reg [5] [⟨(some 18), none, .mv (.tmp 5)⟩, ⟨(some 2), none, .mv (.const (.pointer none))⟩, ⟨(some 3), none, .mv (.tmp 18)⟩])
 .ret) .skip)))
 (.seq (.draw [1] [⟨(some 19), none, .fld 0 (.tmp 1)⟩, ⟨(some 20), none, .load 1 false (.tmp 19)⟩, ⟨(some 21), none, .fld 1 (.tmp 1)⟩, ⟨(some 22), none, .load 1 false (.tmp 21)⟩, ⟨(some 23), none, .call 66 [(.tmp 22)]⟩, ⟨(some 24), none, .build [(.int .i64 0), (.slice none 0 0)] [(0, 1, (.tmp 20)), (1, 1, (.tmp 23))]⟩, ⟨(some 25), none, .build [(.int .i64 0), (.slice none 0 0), (.slice none 0 0), (.slice none 0 0)] [(0, 2, (.tmp 24))]⟩, ⟨(some 26), none, .hp (.box 126 (.tmp 25))⟩, ⟨(some 6), none, .mv (.tmp 26)⟩])
 (.seq (.seq (.reg [1, 6] [⟨(some 27), none, .fld 0 (.tmp 1)⟩, ⟨(some 28), none, .load 1 false (.tmp 27)⟩, ⟨(some 29), none, .mv (.const (.int .i64 0))⟩])
 (.block 0 (.loop [1, 6, 28, 29] [] sc_tables_New_L1)))
 (.seq (.reg [6] [⟨(some 75), none, .mv (.tmp 6)⟩, ⟨(some 2), none, .mv (.tmp 75)⟩, ⟨(some 3), none, .mv (.const (.int .i64 0))⟩])
 .ret)))))
theorem fn_tables_New : FnOk Try.prog 39 Try.f39 sc_tables_New [.tmp 2, .tmp 3] 1 := ⟨Try.func39, by kernel_rfl, by kernel_rfl, by kernel_rfl, by kernel_rfl, by kernel_rfl, by kernel_rfl⟩

/- 56 (*waymark/tables.Tables).Graph: slots 0 t, 1 t -/
def sc_tables_Tables_Graph : SCode :=
 (.seq (.reg [0] [⟨(some 2), none, .alloc 24 [(.int .i64 0), (.slice none 0 0)]⟩])
 (.seq (.seq (.reg [0, 2] [⟨(some 3), none, .mv (.tmp 0)⟩, ⟨(some 4), none, .isnil .p false (.tmp 3)⟩])
 (.cond (.tmp 4) (.seq (.reg [2] [⟨(some 5), none, .build [(.int .i64 0), (.slice none 0 0)] []⟩, ⟨none, none, .store 2 (.tmp 2) (.tmp 5)⟩])
 .ret) .skip))
 (.seq (.draw [0, 2] [⟨(some 6), none, .mv (.tmp 0)⟩, ⟨(some 7), none, .nilc (.tmp 6)⟩, ⟨(some 8), none, .fld 0 (.tmp 7)⟩, ⟨(some 9), none, .fld 0 (.tmp 8)⟩, ⟨(some 10), none, .load 1 false (.tmp 9)⟩, ⟨(some 11), none, .mv (.tmp 0)⟩, ⟨(some 12), none, .nilc (.tmp 11)⟩, ⟨(some 13), none, .fld 0 (.tmp 12)⟩, ⟨(some 14), none, .fld 1 (.tmp 13)⟩, ⟨(some 15), none, .load 1 false (.tmp 14)⟩, ⟨(some 16), none, .call 66 [(.tmp 15)]⟩, ⟨(some 17), none, .build [(.int .i64 0), (.slice none 0 0)] [(0, 1, (.tmp 10)), (1, 1, (.tmp 16))]⟩, ⟨none, none, .store 2 (.tmp 2) (.tmp 17)⟩])
 .ret)))
theorem fn_tables_Tables_Graph : FnOk Try.prog 56 Try.f56 sc_tables_Tables_Graph [.cell 2 2 true] 1 := ⟨Try.func56, by kernel_rfl, by kernel_rfl, by kernel_rfl, by kernel_rfl, by kernel_rfl, by kernel_rfl⟩

/- 95 (*waymark/tables.Tables).Next: slots 0 t, 1 from, 2 to, 3 t, 4 from, 5 to -/
def sc_tables_Tables_Next : SCode :=
 (.seq (.reg [0, 1, 2] [⟨(some 6), none, .mv (.const (.slice none 0 0))⟩])
 (.seq (.seq (.reg [0, 1, 2] [⟨(some 7), none, .mv (.tmp 0)⟩, ⟨(some 8), none, .mv (.tmp 1)⟩, ⟨(some 9), none, .call 109 [(.tmp 7), (.tmp 8)]⟩, ⟨(some 10), none, .un .not (.tmp 9)⟩, ⟨(some 11), none, .mv (.tmp 10)⟩, ⟨(some 12), (some (11, false)), .mv (.tmp 0)⟩, ⟨(some 13), (some (11, false)), .mv (.tmp 2)⟩, ⟨(some 14), (some (11, false)), .call 109 [(.tmp 12), (.tmp 13)]⟩, ⟨(some 15), (some (11, false)), .un .not (.tmp 14)⟩, ⟨(some 16), none, .pick (.tmp 11) (.const (.bool true)) (.tmp 15)⟩])
 (.cond (.tmp 16) (.seq (.reg [] [⟨(some 6), none, .mv (.const (.slice none 0 0))⟩])
 .ret) .skip))
 (.seq (.reg [0, 1, 2] [⟨(some 17), none, .mv (.tmp 0)⟩, ⟨(some 18), none, .nilc (.tmp 17)⟩, ⟨(some 19), none, .fld 3 (.tmp 18)⟩, ⟨(some 20), none, .load 1 false (.tmp 19)⟩, ⟨(some 21), none, .mv (.tmp 2)⟩, ⟨(some 22), none, .ia none 1 (.tmp 20) (.tmp 21)⟩, ⟨(some 23), none, .load 1 false (.tmp 22)⟩, ⟨(some 24), none, .mv (.tmp 1)⟩, ⟨(some 25), none, .ia none 1 (.tmp 23) (.tmp 24)⟩, ⟨(some 26), none, .load 1 false (.tmp 25)⟩, ⟨(some 27), none, .call 110 [(.tmp 26)]⟩, ⟨(some 6), none, .mv (.tmp 27)⟩])
 .ret)))
theorem fn_tables_Tables_Next : FnOk Try.prog 95 Try.f95 sc_tables_Tables_Next [.tmp 6] 3 := ⟨Try.func95, by kernel_rfl, by kernel_rfl, by kernel_rfl, by kernel_rfl, by kernel_rfl, by kernel_rfl⟩

/- 105 (*waymark/tables.Tables).Dist: slots 0 t, 1 from, 2 to, 3 t, 4 from, 5 to -/
def sc_tables_Tables_Dist : SCode :=
 (.seq (.reg [0, 1, 2] [⟨(some 6), none, .mv (.const (.int .i64 0))⟩])
 (.seq (.seq (.reg [0, 1, 2] [⟨(some 7), none, .mv (.tmp 0)⟩, ⟨(some 8), none, .mv (.tmp 1)⟩, ⟨(some 9), none, .call 109 [(.tmp 7), (.tmp 8)]⟩, ⟨(some 10), none, .un .not (.tmp 9)⟩, ⟨(some 11), none, .mv (.tmp 10)⟩, ⟨(some 12), (some (11, false)), .mv (.tmp 0)⟩, ⟨(some 13), (some (11, false)), .mv (.tmp 2)⟩, ⟨(some 14), (some (11, false)), .call 109 [(.tmp 12), (.tmp 13)]⟩, ⟨(some 15), (some (11, false)), .un .not (.tmp 14)⟩, ⟨(some 16), none, .pick (.tmp 11) (.const (.bool true)) (.tmp 15)⟩])
 (.cond (.tmp 16) (.seq (.reg [] [⟨(some 6), none, .mv (.const (.int .i64 (-1)))⟩])
 .ret) .skip))
 (.seq (.reg [0, 1, 2] [⟨(some 17), none, .mv (.tmp 0)⟩, ⟨(some 18), none, .nilc (.tmp 17)⟩, ⟨(some 19), none, .fld 2 (.tmp 18)⟩, ⟨(some 20), none, .load 1 false (.tmp 19)⟩, ⟨(some 21), none, .mv (.tmp 2)⟩, ⟨(some 22), none, .ia none 1 (.tmp 20) (.tmp 21)⟩, ⟨(some 23), none, .load 1 false (.tmp 22)⟩, ⟨(some 24), none, .mv (.tmp 1)⟩, ⟨(some 25), none, .ia none 1 (.tmp 23) (.tmp 24)⟩, ⟨(some 26), none, .load 1 false (.tmp 25)⟩, ⟨(some 6), none, .mv (.tmp 26)⟩])
 .ret)))
theorem fn_tables_Tables_Dist : FnOk Try.prog 105 Try.f105 sc_tables_Tables_Dist [.tmp 6] 3 := ⟨Try.func105, by kernel_rfl, by kernel_rfl, by kernel_rfl, by kernel_rfl, by kernel_rfl, by kernel_rfl⟩

/- 109 (*waymark/tables.Tables).is: slots 0 t, 1 node, 2 t, 3 node -/
def sc_tables_Tables_is : SCode :=
 (.seq (.reg [0, 1] [⟨(some 4), none, .mv (.const (.bool false))⟩])
 (.seq (.reg [0, 1] [⟨(some 5), none, .mv (.tmp 0)⟩, ⟨(some 6), none, .isnil .p true (.tmp 5)⟩, ⟨(some 7), none, .mv (.tmp 6)⟩, ⟨(some 8), (some (7, true)), .mv (.tmp 0)⟩, ⟨(some 9), (some (7, true)), .nilc (.tmp 8)⟩, ⟨(some 10), (some (7, true)), .fld 0 (.tmp 9)⟩, ⟨(some 11), (some (7, true)), .load 2 true (.tmp 10)⟩, ⟨(some 12), (some (7, true)), .mv (.tmp 1)⟩, ⟨(some 13), (some (7, true)), .call 62 [(.tmp 11), (.tmp 12)]⟩, ⟨(some 14), none, .pick (.tmp 7) (.tmp 13) (.const (.bool false))⟩, ⟨(some 4), none, .mv (.tmp 14)⟩])
 .ret))
theorem fn_tables_Tables_is : FnOk Try.prog 109 Try.f109 sc_tables_Tables_is [.tmp 4] 2 := ⟨Try.func109, by kernel_rfl, by kernel_rfl, by kernel_rfl, by kernel_rfl, by kernel_rfl, by kernel_rfl⟩

end Go.Proofs.Ytejmcijcdhoogaa
end

section
namespace Go.Proofs.Ytejmcijcdhoogaa
open Go Abs

/- loop of waymark/walk.Run, wants [14, 16] [] -/
def sc_walk_Run_L0 : SCode :=
 (.seq (.seq (.reg [14, 16] [⟨(some 46), none, .mv (.tmp 16)⟩, ⟨(some 47), none, .nilc (.tmp 46)⟩, ⟨(some 48), none, .fld 8 (.tmp 47)⟩, ⟨(some 49), none, .fld 2 (.tmp 48)⟩, ⟨(some 50), none, .load 1 false (.tmp 49)⟩, ⟨(some 51), none, .bin .eql 3 (.tmp 50) (.const (.int .i64 0))⟩])
 (.cond (.tmp 51) .skip (.exit 0)))
 (.block 1 (.reg [14, 16] [⟨(some 52), none, .mv (.tmp 16)⟩, ⟨(some 53), none, .mv (.tmp 16)⟩, ⟨(some 54), none, .call 63 [(.tmp 53)]⟩, ⟨(some 55), none, .nilc (.tmp 52)⟩, ⟨(some 56), none, .fld 8 (.tmp 55)⟩, ⟨(some 57), none, .fld 2 (.tmp 56)⟩, ⟨none, none, .store 1 (.tmp 57) (.tmp 54)⟩])))
/- 34 waymark/walk.Run: slots 0 t, 1 from, 2 l, 3 hash, 4 down, 5 strict, 6 depth, 7 t, 8 from, 9 l, 10 hash, 11 down, 12 strict, 13 depth, 15 g, 16 p -/
def sc_walk_Run : SCode :=
 (.seq (.reg [0, 1, 2, 3, 4, 5, 6] [⟨(some 14), none, .alloc 64 [(.slice none 0 0), (.int .i64 0), (.int .i64 0), (.int .i64 0), (.int .i64 0)]⟩])
 (.seq (.reg [0, 1, 2, 3, 4, 5, 6, 14] [⟨(some 17), none, .mv (.tmp 0)⟩, ⟨(some 18), none, .call 56 [(.tmp 17)]⟩, ⟨(some 15), none, .alloc 24 [(.int .i64 0), (.slice none 0 0)]⟩, ⟨none, none, .store 2 (.tmp 15) (.tmp 18)⟩])
 (.seq (.seq (.reg [0, 1, 2, 3, 4, 5, 6, 14, 15] [⟨(some 19), none, .load 2 true (.tmp 15)⟩, ⟨(some 20), none, .mv (.tmp 1)⟩, ⟨(some 21), none, .call 62 [(.tmp 19), (.tmp 20)]⟩, ⟨(some 22), none, .un .not (.tmp 21)⟩])
 (.cond (.tmp 22) (.seq (.reg [14] [⟨(some 23), none, .build [(.slice none 0 0), (.int .i64 0), (.int .i64 0), (.int .i64 0), (.int .i64 0)] [(1, 1, (.const (.int .i64 (-1)))), (2, 1, (.const (.int .i64 4)))]⟩, ⟨none, none, .store 5 (.tmp 14) (.tmp 23)⟩])
 .ret) .skip))
 (.seq (.reg [0, 1, 2, 3, 4, 5, 6, 14, 15] [⟨(some 24), none, .mv (.tmp 0)⟩, ⟨(some 25), none, .load 2 true (.tmp 15)⟩, ⟨(some 26), none, .mv (.tmp 2)⟩, ⟨(some 27), none, .mv (.tmp 3)⟩, ⟨(some 28), none, .mv (.tmp 4)⟩, ⟨(some 29), none, .mv (.tmp 5)⟩, ⟨(some 30), none, .mv (.tmp 6)⟩, ⟨(some 31), none, .mnx false (.tmp 30) (.const (.int .i64 10))⟩, ⟨(some 32), none, .mnx true (.const (.int .i64 0)) (.tmp 31)⟩, ⟨(some 33), none, .build [(.pointer none), (.int .i64 0), (.slice none 0 0), (.slice none 0 0), (.int .i64 0), (.slice none 0 0), (.bool false), (.int .i64 0), (.slice none 0 0), (.int .i64 0), (.int .i64 0), (.int .i64 0), (.int .i64 0)] [(0, 1, (.tmp 24)), (1, 2, (.tmp 25)), (3, 1, (.tmp 26)), (4, 1, (.tmp 27)), (5, 1, (.tmp 28)), (6, 1, (.tmp 29)), (7, 1, (.tmp 32))]⟩, ⟨(some 34), none, .hp (.box 118 (.tmp 33))⟩, ⟨(some 16), none, .mv (.tmp 34)⟩])
 (.seq (.reg [1, 2, 14, 16] [⟨(some 35), none, .mv (.tmp 16)⟩, ⟨(some 36), none, .mv (.tmp 16)⟩, ⟨(some 37), none, .mv (.tmp 1)⟩, ⟨(some 38), none, .mv (.tmp 2)⟩, ⟨(some 39), none, .len false (.tmp 38)⟩, ⟨(some 40), none, .nilc (.tmp 35)⟩, ⟨(some 41), none, .fld 8 (.tmp 40)⟩, ⟨(some 42), none, .fld 1 (.tmp 41)⟩, ⟨none, none, .store 1 (.tmp 42) (.tmp 37)⟩, ⟨(some 43), none, .nilc (.tmp 36)⟩, ⟨(some 44), none, .fld 8 (.tmp 43)⟩, ⟨(some 45), none, .fld 4 (.tmp 44)⟩, ⟨none, none, .store 1 (.tmp 45) (.tmp 39)⟩])
 (.seq (.block 0 (.loop [14, 16] [] sc_walk_Run_L0))
 (.seq (.reg [14, 16] [⟨(some 58), none, .mv (.tmp 16)⟩, ⟨(some 59), none, .nilc (.tmp 58)⟩, ⟨(some 60), none, .fld 8 (.tmp 59)⟩, ⟨(some 61), none, .load 5 true (.tmp 60)⟩, ⟨none, none, .store 5 (.tmp 14) (.tmp 61)⟩])
 .ret)))))))
theorem fn_walk_Run : FnOk Try.prog 34 Try.f34 sc_walk_Run [.cell 14 5 true] 7 := ⟨Try.func34, by kernel_rfl, by kernel_rfl, by kernel_rfl, by kernel_rfl, by kernel_rfl, by kernel_rfl⟩

/- 63 (*waymark/walk.packet).step: slots 0 p, 1 p, 3 edge, 4 ok -/
def sc_walk_packet_step : SCode :=
 (.seq (.reg [0] [⟨(some 2), none, .mv (.const (.int .i64 0))⟩])
 (.seq (.block 0 (.seq (.reg [0] [⟨(some 6), none, .mv (.tmp 0)⟩, ⟨(some 7), none, .nilc (.tmp 6)⟩, ⟨(some 8), none, .fld 3 (.tmp 7)⟩, ⟨(some 9), none, .load 1 false (.tmp 8)⟩, ⟨(some 10), none, .len false (.tmp 9)⟩, ⟨(some 11), none, .bin .eql 3 (.tmp 10) (.const (.int .i64 0))⟩, ⟨(some 5), none, .mv (.tmp 11)⟩])
 (.cond (.tmp 5) (.seq (.reg [] [⟨(some 2), none, .mv (.const (.int .i64 1))⟩])
 .ret) (.seq (.draw [0] [⟨(some 13), none, .mv (.tmp 0)⟩, ⟨(some 14), none, .nilc (.tmp 13)⟩, ⟨(some 15), none, .fld 3 (.tmp 14)⟩, ⟨(some 16), none, .load 1 false (.tmp 15)⟩, ⟨(some 17), none, .ia none 2 (.tmp 16) (.const (.int .i64 0))⟩, ⟨(some 18), none, .fld 0 (.tmp 17)⟩, ⟨(some 19), none, .load 1 false (.tmp 18)⟩, ⟨(some 20), none, .un .not (.tmp 19)⟩, ⟨(some 21), none, .mv (.tmp 20)⟩, ⟨(some 22), (some (21, true)), .mv (.tmp 0)⟩, ⟨(some 23), (some (21, true)), .nilc (.tmp 22)⟩, ⟨(some 24), (some (21, true)), .fld 3 (.tmp 23)⟩, ⟨(some 25), (some (21, true)), .load 1 false (.tmp 24)⟩, ⟨(some 26), (some (21, true)), .ia none 2 (.tmp 25) (.const (.int .i64 0))⟩, ⟨(some 27), (some (21, true)), .fld 1 (.tmp 26)⟩, ⟨(some 28), (some (21, true)), .load 1 false (.tmp 27)⟩, ⟨(some 29), (some (21, true)), .mv (.tmp 0)⟩, ⟨(some 30), (some (21, true)), .nilc (.tmp 29)⟩, ⟨(some 31), (some (21, true)), .fld 8 (.tmp 30)⟩, ⟨(some 32), (some (21, true)), .fld 1 (.tmp 31)⟩, ⟨(some 33), (some (21, true)), .load 1 false (.tmp 32)⟩, ⟨(some 34), (some (21, true)), .bin .eql 3 (.tmp 28) (.tmp 33)⟩, ⟨(some 35), none, .pick (.tmp 21) (.tmp 34) (.const (.bool false))⟩, ⟨(some 12), none, .mv (.tmp 35)⟩])
 (.cond (.tmp 12) (.seq (.reg [0] [⟨(some 36), none, .mv (.tmp 0)⟩, ⟨(some 37), none, .mv (.tmp 0)⟩, ⟨(some 38), none, .nilc (.tmp 37)⟩, ⟨(some 39), none, .fld 3 (.tmp 38)⟩, ⟨(some 40), none, .load 1 false (.tmp 39)⟩, ⟨(some 41), none, .slc (some 2) (.tmp 40) (some (.const (.int .i64 1))) none none⟩, ⟨(some 42), none, .nilc (.tmp 36)⟩, ⟨(some 43), none, .fld 3 (.tmp 42)⟩, ⟨none, none, .store 1 (.tmp 43) (.tmp 41)⟩])
 (.seq (.reg [] [⟨(some 2), none, .mv (.const (.int .i64 0))⟩])
 .ret)) (.seq (.reg [0] [⟨(some 45), none, .mv (.tmp 0)⟩, ⟨(some 46), none, .nilc (.tmp 45)⟩, ⟨(some 47), none, .fld 8 (.tmp 46)⟩, ⟨(some 48), none, .fld 0 (.tmp 47)⟩, ⟨(some 49), none, .load 1 false (.tmp 48)⟩, ⟨(some 50), none, .len false (.tmp 49)⟩, ⟨(some 51), none, .bin .eql 3 (.tmp 50) (.const (.int .i64 255))⟩, ⟨(some 44), none, .mv (.tmp 51)⟩])
 (.cond (.tmp 44) (.seq (.reg [] [⟨(some 2), none, .mv (.const (.int .i64 2))⟩])
 .ret) (.seq (.reg [0] [⟨(some 53), none, .mv (.tmp 0)⟩, ⟨(some 54), none, .call 81 [(.tmp 53)]⟩, ⟨(some 52), none, .mv (.tmp 54)⟩])
 (.cond (.tmp 52) (.seq (.reg [] [⟨(some 2), none, .mv (.const (.int .i64 5))⟩])
 .ret) .skip)))))))))
 (.seq (.reg [0] [⟨(some 56), none, .mv (.tmp 0)⟩, ⟨(some 57), none, .call 82 [(.tmp 56)]⟩, ⟨(some 55), none, .mv (.tmp 57)⟩, ⟨(some 58), none, .ext (.tmp 55) 0⟩, ⟨(some 59), none, .ext (.tmp 55) 1⟩, ⟨(some 3), none, .mv (.tmp 58)⟩, ⟨(some 4), none, .mv (.tmp 59)⟩])
 (.seq (.block 1 (.seq (.reg [0, 3, 4] [⟨(some 61), none, .mv (.tmp 4)⟩, ⟨(some 62), none, .un .not (.tmp 61)⟩, ⟨(some 60), none, .mv (.tmp 62)⟩])
 (.cond (.tmp 60) (.seq (.reg [] [⟨(some 2), none, .mv (.const (.int .i64 4))⟩])
 .ret) (.seq (.reg [0, 3] [⟨(some 64), none, .mv (.tmp 0)⟩, ⟨(some 65), none, .nilc (.tmp 64)⟩, ⟨(some 66), none, .fld 5 (.tmp 65)⟩, ⟨(some 67), none, .load 1 false (.tmp 66)⟩, ⟨(some 68), none, .mv (.tmp 3)⟩, ⟨(some 69), none, .call 83 [(.tmp 67), (.tmp 68)]⟩, ⟨(some 63), none, .mv (.tmp 69)⟩])
 (.cond (.tmp 63) (.seq (.reg [0, 3] [⟨(some 70), none, .mv (.tmp 0)⟩, ⟨(some 71), none, .mv (.tmp 3)⟩, ⟨(some 72), none, .call 84 [(.tmp 70), (.tmp 71)]⟩])
 (.seq (.reg [] [⟨(some 2), none, .mv (.const (.int .i64 0))⟩])
 .ret)) (.seq (.reg [0, 3] [⟨(some 74), none, .mv (.tmp 0)⟩, ⟨(some 75), none, .nilc (.tmp 74)⟩, ⟨(some 76), none, .fld 6 (.tmp 75)⟩, ⟨(some 77), none, .load 1 false (.tmp 76)⟩, ⟨(some 78), none, .mv (.tmp 77)⟩, ⟨(some 79), (some (78, false)), .mv (.tmp 0)⟩, ⟨(some 80), (some (78, false)), .mv (.tmp 3)⟩, ⟨(some 81), (some (78, false)), .call 85 [(.tmp 79), (.tmp 80)]⟩, ⟨(some 82), (some (78, false)), .un .not (.tmp 81)⟩, ⟨(some 83), none, .pick (.tmp 78) (.const (.bool true)) (.tmp 82)⟩, ⟨(some 73), none, .mv (.tmp 83)⟩])
 (.cond (.tmp 73) (.seq (.reg [] [⟨(some 2), none, .mv (.const (.int .i64 3))⟩])
 .ret) (.seq (.reg [0] [⟨(some 85), none, .mv (.tmp 0)⟩, ⟨(some 86), none, .nilc (.tmp 85)⟩, ⟨(some 87), none, .fld 8 (.tmp 86)⟩, ⟨(some 88), none, .fld 3 (.tmp 87)⟩, ⟨(some 89), none, .load 1 false (.tmp 88)⟩, ⟨(some 90), none, .bin .eql 3 (.tmp 89) (.const (.int .i64 255))⟩, ⟨(some 84), none, .mv (.tmp 90)⟩])
 (.cond (.tmp 84) (.seq (.reg [] [⟨(some 2), none, .mv (.const (.int .i64 2))⟩])
 .ret) .skip)))))))))
 (.seq (.reg [] [⟨(some 2), none, .mv (.const (.int .i64 0))⟩])
 .ret)))))
theorem fn_walk_packet_step : FnOk Try.prog 63 Try.f63 sc_walk_packet_step [.tmp 2] 1 := ⟨Try.func63, by kernel_rfl, by kernel_rfl, by kernel_rfl, by kernel_rfl, by kernel_rfl, by kernel_rfl⟩

/- 81 (*waymark/walk.packet).label: slots 0 p, 1 p, 3 from, 4 _, 5 _ -/
def sc_walk_packet_label : SCode :=
 (.seq (.reg [0] [⟨(some 2), none, .mv (.const (.bool false))⟩])
 (.seq (.seq (.draw [0] [⟨(some 6), none, .mv (.tmp 0)⟩, ⟨(some 7), none, .nilc (.tmp 6)⟩, ⟨(some 8), none, .fld 1 (.tmp 7)⟩, ⟨(some 9), none, .load 2 true (.tmp 8)⟩, ⟨(some 10), none, .mv (.tmp 0)⟩, ⟨(some 11), none, .nilc (.tmp 10)⟩, ⟨(some 12), none, .fld 3 (.tmp 11)⟩, ⟨(some 13), none, .load 1 false (.tmp 12)⟩, ⟨(some 14), none, .ia none 2 (.tmp 13) (.const (.int .i64 0))⟩, ⟨(some 15), none, .load 2 true (.tmp 14)⟩, ⟨(some 16), none, .call 94 [(.tmp 9), (.tmp 15)]⟩, ⟨(some 17), none, .un .not (.tmp 16)⟩])
 (.cond (.tmp 17) (.seq (.reg [] [⟨(some 2), none, .mv (.const (.bool true))⟩])
 .ret) .skip))
 (.seq (.draw [0] [⟨(some 19), none, .mv (.tmp 0)⟩, ⟨(some 20), none, .nilc (.tmp 19)⟩, ⟨(some 21), none, .fld 1 (.tmp 20)⟩, ⟨(some 22), none, .load 2 true (.tmp 21)⟩, ⟨(some 23), none, .mv (.tmp 0)⟩, ⟨(some 24), none, .nilc (.tmp 23)⟩, ⟨(some 25), none, .fld 3 (.tmp 24)⟩, ⟨(some 26), none, .load 1 false (.tmp 25)⟩, ⟨(some 27), none, .ia none 2 (.tmp 26) (.const (.int .i64 0))⟩, ⟨(some 28), none, .fld 1 (.tmp 27)⟩, ⟨(some 29), none, .load 1 false (.tmp 28)⟩, ⟨(some 30), none, .call 57 [(.tmp 22), (.tmp 29)]⟩, ⟨(some 18), none, .mv (.tmp 30)⟩, ⟨(some 31), none, .ext (.tmp 18) 0⟩, ⟨(some 32), none, .ext (.tmp 18) 1⟩, ⟨(some 33), none, .ext (.tmp 18) 2⟩, ⟨(some 3), none, .mv (.tmp 31)⟩, ⟨(some 4), none, .mv (.tmp 32)⟩, ⟨(some 5), none, .mv (.tmp 33)⟩])
 (.seq (.reg [0, 3] [⟨(some 34), none, .mv (.tmp 0)⟩, ⟨(some 35), none, .nilc (.tmp 34)⟩, ⟨(some 36), none, .fld 3 (.tmp 35)⟩, ⟨(some 37), none, .load 1 false (.tmp 36)⟩, ⟨(some 38), none, .ia none 2 (.tmp 37) (.const (.int .i64 0))⟩, ⟨(some 39), none, .fld 0 (.tmp 38)⟩, ⟨(some 40), none, .load 1 false (.tmp 39)⟩, ⟨(some 41), none, .mv (.tmp 40)⟩, ⟨(some 42), (some (41, true)), .mv (.tmp 3)⟩, ⟨(some 43), (some (41, true)), .mv (.tmp 0)⟩, ⟨(some 44), (some (41, true)), .nilc (.tmp 43)⟩, ⟨(some 45), (some (41, true)), .fld 8 (.tmp 44)⟩, ⟨(some 46), (some (41, true)), .fld 1 (.tmp 45)⟩, ⟨(some 47), (some (41, true)), .load 1 false (.tmp 46)⟩, ⟨(some 48), (some (41, true)), .bin .neq 3 (.tmp 42) (.tmp 47)⟩, ⟨(some 49), none, .pick (.tmp 41) (.tmp 48) (.const (.bool false))⟩, ⟨(some 2), none, .mv (.tmp 49)⟩])
 .ret))))
theorem fn_walk_packet_label : FnOk Try.prog 81 Try.f81 sc_walk_packet_label [.tmp 2] 1 := ⟨Try.func81, by kernel_rfl, by kernel_rfl, by kernel_rfl, by kernel_rfl, by kernel_rfl, by kernel_rfl⟩

/- 82 (*waymark/walk.packet).hop: slots 0 p, 1 p, 4 next, 5 k -/
def sc_walk_packet_hop : SCode :=
 (.seq (.reg [0] [⟨(some 2), none, .mv (.const (.int .i64 0))⟩, ⟨(some 3), none, .mv (.const (.bool false))⟩])
 (.seq (.seq (.reg [0] [⟨(some 6), none, .mv (.tmp 0)⟩, ⟨(some 7), none, .nilc (.tmp 6)⟩, ⟨(some 8), none, .fld 3 (.tmp 7)⟩, ⟨(some 9), none, .load 1 false (.tmp 8)⟩, ⟨(some 10), none, .ia none 2 (.tmp 9) (.const (.int .i64 0))⟩, ⟨(some 11), none, .fld 0 (.tmp 10)⟩, ⟨(some 12), none, .load 1 false (.tmp 11)⟩])
 (.cond (.tmp 12) (.seq (.reg [0] [⟨(some 13), none, .mv (.tmp 0)⟩, ⟨(some 14), none, .nilc (.tmp 13)⟩, ⟨(some 15), none, .fld 3 (.tmp 14)⟩, ⟨(some 16), none, .load 1 false (.tmp 15)⟩, ⟨(some 17), none, .ia none 2 (.tmp 16) (.const (.int .i64 0))⟩, ⟨(some 18), none, .fld 1 (.tmp 17)⟩, ⟨(some 19), none, .load 1 false (.tmp 18)⟩, ⟨(some 2), none, .mv (.tmp 19)⟩, ⟨(some 3), none, .mv (.const (.bool true))⟩])
 .ret) .skip))
 (.seq (.draw [0] [⟨(some 20), none, .mv (.tmp 0)⟩, ⟨(some 21), none, .nilc (.tmp 20)⟩, ⟨(some 22), none, .fld 0 (.tmp 21)⟩, ⟨(some 23), none, .load 1 false (.tmp 22)⟩, ⟨(some 24), none, .mv (.tmp 0)⟩, ⟨(some 25), none, .nilc (.tmp 24)⟩, ⟨(some 26), none, .fld 8 (.tmp 25)⟩, ⟨(some 27), none, .fld 1 (.tmp 26)⟩, ⟨(some 28), none, .load 1 false (.tmp 27)⟩, ⟨(some 29), none, .mv (.tmp 0)⟩, ⟨(some 30), none, .nilc (.tmp 29)⟩, ⟨(some 31), none, .fld 3 (.tmp 30)⟩, ⟨(some 32), none, .load 1 false (.tmp 31)⟩, ⟨(some 33), none, .ia none 2 (.tmp 32) (.const (.int .i64 0))⟩, ⟨(some 34), none, .fld 1 (.tmp 33)⟩, ⟨(some 35), none, .load 1 false (.tmp 34)⟩, ⟨(some 36), none, .call 95 [(.tmp 23), (.tmp 28), (.tmp 35)]⟩, ⟨(some 4), none, .mv (.tmp 36)⟩])
 (.seq (.reg [0, 4] [⟨(some 37), none, .mv (.tmp 4)⟩, ⟨(some 38), none, .len false (.tmp 37)⟩, ⟨(some 5), none, .mv (.tmp 38)⟩])
 (.seq (.seq (.reg [0, 4, 5] [⟨(some 39), none, .mv (.tmp 5)⟩, ⟨(some 40), none, .bin .eql 3 (.tmp 39) (.const (.int .i64 0))⟩])
 (.cond (.tmp 40) (.seq (.reg [] [⟨(some 2), none, .mv (.const (.int .i64 0))⟩, ⟨(some 3), none, .mv (.const (.bool false))⟩])
 .ret) .skip))
 (.seq (.reg [0, 4, 5] [⟨(some 41), none, .mv (.tmp 4)⟩, ⟨(some 42), none, .mv (.tmp 0)⟩, ⟨(some 43), none, .nilc (.tmp 42)⟩, ⟨(some 44), none, .fld 4 (.tmp 43)⟩, ⟨(some 45), none, .load 1 false (.tmp 44)⟩, ⟨(some 46), none, .mv (.tmp 5)⟩, ⟨(some 47), none, .bin .rem 3 (.tmp 45) (.tmp 46)⟩, ⟨(some 48), none, .mv (.tmp 5)⟩, ⟨(some 49), none, .bin .add 3 (.tmp 47) (.tmp 48)⟩, ⟨(some 50), none, .mv (.tmp 5)⟩, ⟨(some 51), none, .bin .rem 3 (.tmp 49) (.tmp 50)⟩, ⟨(some 52), none, .ia none 1 (.tmp 41) (.tmp 51)⟩, ⟨(some 53), none, .load 1 false (.tmp 52)⟩, ⟨(some 2), none, .mv (.tmp 53)⟩, ⟨(some 3), none, .mv (.const (.bool true))⟩])
 .ret))))))
theorem fn_walk_packet_hop : FnOk Try.prog 82 Try.f82 sc_walk_packet_hop [.tmp 2, .tmp 3] 1 := ⟨Try.func82, by kernel_rfl, by kernel_rfl, by kernel_rfl, by kernel_rfl, by kernel_rfl, by kernel_rfl⟩

/- 84 (*waymark/walk.packet).cross: slots 0 p, 1 edge, 2 p, 3 edge -/
def sc_walk_packet_cross : SCode :=
 (.seq (.seq (.reg [0, 1] [⟨(some 4), none, .mv (.tmp 0)⟩, ⟨(some 5), none, .nilc (.tmp 4)⟩, ⟨(some 6), none, .fld 3 (.tmp 5)⟩, ⟨(some 7), none, .load 1 false (.tmp 6)⟩, ⟨(some 8), none, .ia none 2 (.tmp 7) (.const (.int .i64 0))⟩, ⟨(some 9), none, .fld 0 (.tmp 8)⟩, ⟨(some 10), none, .load 1 false (.tmp 9)⟩])
 (.cond (.tmp 10) (.reg [0, 1] [⟨(some 11), none, .mv (.tmp 0)⟩, ⟨(some 12), none, .mv (.tmp 0)⟩, ⟨(some 13), none, .nilc (.tmp 12)⟩, ⟨(some 14), none, .fld 3 (.tmp 13)⟩, ⟨(some 15), none, .load 1 false (.tmp 14)⟩, ⟨(some 16), none, .slc (some 2) (.tmp 15) (some (.const (.int .i64 1))) none none⟩, ⟨(some 17), none, .nilc (.tmp 11)⟩, ⟨(some 18), none, .fld 3 (.tmp 17)⟩, ⟨none, none, .store 1 (.tmp 18) (.tmp 16)⟩]) .skip))
 (.seq (.reg [0, 1] [⟨(some 19), none, .mv (.tmp 0)⟩, ⟨(some 20), none, .mv (.tmp 0)⟩, ⟨(some 21), none, .nilc (.tmp 20)⟩, ⟨(some 22), none, .fld 8 (.tmp 21)⟩, ⟨(some 23), none, .fld 0 (.tmp 22)⟩, ⟨(some 24), none, .load 1 false (.tmp 23)⟩, ⟨(some 25), none, .mv (.tmp 1)⟩, ⟨(some 26), none, .bsl 3 1 [(.int .i64 0)] 1 [(0, 1, (.tmp 25))]⟩, ⟨(some 27), none, .hp (.app 25 3 1 8 (.int .i64 0) (.tmp 24) (.tmp 26))⟩, ⟨(some 28), none, .nilc (.tmp 19)⟩, ⟨(some 29), none, .fld 8 (.tmp 28)⟩, ⟨(some 30), none, .fld 0 (.tmp 29)⟩, ⟨none, none, .store 1 (.tmp 30) (.tmp 27)⟩])
 (.reg [0, 1] [⟨(some 32), none, .mv (.tmp 0)⟩, ⟨(some 33), none, .mv (.tmp 0)⟩, ⟨(some 34), none, .nilc (.tmp 33)⟩, ⟨(some 35), none, .fld 1 (.tmp 34)⟩, ⟨(some 36), none, .load 2 true (.tmp 35)⟩, ⟨(some 37), none, .mv (.tmp 1)⟩, ⟨(some 38), none, .call 57 [(.tmp 36), (.tmp 37)]⟩, ⟨(some 31), none, .mv (.tmp 38)⟩, ⟨(some 39), none, .ext (.tmp 31) 0⟩, ⟨(some 40), none, .ext (.tmp 31) 1⟩, ⟨(some 41), none, .ext (.tmp 31) 2⟩, ⟨(some 42), none, .nilc (.tmp 32)⟩, ⟨(some 43), none, .fld 8 (.tmp 42)⟩, ⟨(some 44), none, .fld 1 (.tmp 43)⟩, ⟨none, none, .store 1 (.tmp 44) (.tmp 40)⟩])))
theorem fn_walk_packet_cross : FnOk Try.prog 84 Try.f84 sc_walk_packet_cross [] 2 := ⟨Try.func84, by kernel_rfl, by kernel_rfl, by kernel_rfl, by kernel_rfl, by kernel_rfl, by kernel_rfl⟩

/- 85 (*waymark/walk.packet).around: slots 0 p, 1 edge, 2 p, 3 edge, 5 l, 6 e -/
def sc_walk_packet_around : SCode :=
 (.seq (.reg [0, 1] [⟨(some 4), none, .mv (.const (.bool false))⟩])
 (.seq (.draw [0, 1] [⟨(some 8), none, .mv (.tmp 0)⟩, ⟨(some 9), none, .nilc (.tmp 8)⟩, ⟨(some 10), none, .fld 0 (.tmp 9)⟩, ⟨(some 11), none, .load 1 false (.tmp 10)⟩, ⟨(some 12), none, .mv (.tmp 1)⟩, ⟨(some 13), none, .mv (.tmp 0)⟩, ⟨(some 14), none, .call 96 [(.tmp 13)]⟩, ⟨(some 15), none, .mv (.tmp 0)⟩, ⟨(some 16), none, .nilc (.tmp 15)⟩, ⟨(some 17), none, .fld 7 (.tmp 16)⟩, ⟨(some 18), none, .load 1 false (.tmp 17)⟩, ⟨(some 19), none, .call 26 [(.tmp 11), (.tmp 12), (.tmp 14), (.tmp 18)]⟩, ⟨(some 7), none, .mv (.tmp 19)⟩, ⟨(some 20), none, .ext (.tmp 7) 0⟩, ⟨(some 21), none, .ext (.tmp 7) 1⟩, ⟨(some 5), none, .mv (.tmp 20)⟩, ⟨(some 6), none, .mv (.tmp 21)⟩])
 (.seq (.seq (.draw [0, 5, 6] [⟨(some 22), none, .mv (.tmp 6)⟩, ⟨(some 23), none, .bin .neq 37 (.tmp 22) (.const (.int .i64 0))⟩, ⟨(some 24), none, .mv (.tmp 23)⟩, ⟨(some 25), (some (24, false)), .mv (.tmp 5)⟩, ⟨(some 26), (some (24, false)), .len false (.tmp 25)⟩, ⟨(some 27), (some (24, false)), .mv (.tmp 0)⟩, ⟨(some 28), (some (24, false)), .nilc (.tmp 27)⟩, ⟨(some 29), (some (24, false)), .fld 3 (.tmp 28)⟩, ⟨(some 30), (some (24, false)), .load 1 false (.tmp 29)⟩, ⟨(some 31), (some (24, false)), .len false (.tmp 30)⟩, ⟨(some 32), (some (24, false)), .bin .add 3 (.tmp 26) (.tmp 31)⟩, ⟨(some 33), (some (24, false)), .bin .sub 3 (.tmp 32) (.const (.int .i64 1))⟩, ⟨(some 34), (some (24, false)), .mv (.tmp 0)⟩, ⟨(some 35), (some (24, false)), .nilc (.tmp 34)⟩, ⟨(some 36), (some (24, false)), .fld 7 (.tmp 35)⟩, ⟨(some 37), (some (24, false)), .load 1 false (.tmp 36)⟩, ⟨(some 38), (some (24, false)), .bin .gtr 3 (.tmp 33) (.tmp 37)⟩, ⟨(some 39), none, .pick (.tmp 24) (.const (.bool true)) (.tmp 38)⟩])
 (.cond (.tmp 39) (.seq (.reg [] [⟨(some 4), none, .mv (.const (.bool false))⟩])
 .ret) .skip))
 (.seq (.reg [0, 5] [⟨(some 40), none, .mv (.tmp 0)⟩, ⟨(some 41), none, .mv (.tmp 5)⟩, ⟨(some 42), none, .mv (.tmp 0)⟩, ⟨(some 43), none, .nilc (.tmp 42)⟩, ⟨(some 44), none, .fld 3 (.tmp 43)⟩, ⟨(some 45), none, .load 1 false (.tmp 44)⟩, ⟨(some 46), none, .slc (some 2) (.tmp 45) (some (.const (.int .i64 1))) none none⟩, ⟨(some 47), none, .bsl 36 1 [(.slice none 0 0)] 2 [(0, 1, (.tmp 41)), (1, 1, (.tmp 46))]⟩, ⟨(some 48), none, .call 97 [(.tmp 47)]⟩, ⟨(some 49), none, .nilc (.tmp 40)⟩, ⟨(some 50), none, .fld 3 (.tmp 49)⟩, ⟨none, none, .store 1 (.tmp 50) (.tmp 48)⟩])
 (.seq (.reg [0] [⟨(some 51), none, .mv (.tmp 0)⟩, ⟨(some 52), none, .nilc (.tmp 51)⟩, ⟨(some 53), none, .fld 8 (.tmp 52)⟩, ⟨(some 54), none, .fld 3 (.tmp 53)⟩, ⟨(some 55), none, .load 1 false (.tmp 54)⟩, ⟨(some 56), none, .bin .add 3 (.tmp 55) (.const (.int .i64 1))⟩, ⟨(some 57), none, .nilc (.tmp 51)⟩, ⟨(some 58), none, .fld 8 (.tmp 57)⟩, ⟨(some 59), none, .fld 3 (.tmp 58)⟩, ⟨none, none, .store 1 (.tmp 59) (.tmp 56)⟩])
 (.seq (.draw [0] [⟨(some 60), none, .mv (.tmp 0)⟩, ⟨(some 61), none, .mv (.tmp 0)⟩, ⟨(some 62), none, .nilc (.tmp 61)⟩, ⟨(some 63), none, .fld 8 (.tmp 62)⟩, ⟨(some 64), none, .fld 4 (.tmp 63)⟩, ⟨(some 65), none, .load 1 false (.tmp 64)⟩, ⟨(some 66), none, .mv (.tmp 0)⟩, ⟨(some 67), none, .nilc (.tmp 66)⟩, ⟨(some 68), none, .fld 3 (.tmp 67)⟩, ⟨(some 69), none, .load 1 false (.tmp 68)⟩, ⟨(some 70), none, .len false (.tmp 69)⟩, ⟨(some 71), none, .mnx true (.tmp 65) (.tmp 70)⟩, ⟨(some 72), none, .nilc (.tmp 60)⟩, ⟨(some 73), none, .fld 8 (.tmp 72)⟩, ⟨(some 74), none, .fld 4 (.tmp 73)⟩, ⟨none, none, .store 1 (.tmp 74) (.tmp 71)⟩])
 (.seq (.reg [] [⟨(some 4), none, .mv (.const (.bool true))⟩])
 .ret)))))))
theorem fn_walk_packet_around : FnOk Try.prog 85 Try.f85 sc_walk_packet_around [.tmp 4] 2 := ⟨Try.func85, by kernel_rfl, by kernel_rfl, by kernel_rfl, by kernel_rfl, by kernel_rfl, by kernel_rfl⟩

/- 96 (*waymark/walk.packet).end: slots 0 p, 1 p, 3 _, 4 to, 5 _ -/
def sc_walk_packet_end : SCode :=
 (.seq (.reg [0] [⟨(some 2), none, .mv (.const (.int .i64 0))⟩])
 (.seq (.seq (.reg [0] [⟨(some 6), none, .mv (.tmp 0)⟩, ⟨(some 7), none, .nilc (.tmp 6)⟩, ⟨(some 8), none, .fld 3 (.tmp 7)⟩, ⟨(some 9), none, .load 1 false (.tmp 8)⟩, ⟨(some 10), none, .ia none 2 (.tmp 9) (.const (.int .i64 0))⟩, ⟨(some 11), none, .fld 0 (.tmp 10)⟩, ⟨(some 12), none, .load 1 false (.tmp 11)⟩, ⟨(some 13), none, .un .not (.tmp 12)⟩])
 (.cond (.tmp 13) (.seq (.reg [0] [⟨(some 14), none, .mv (.tmp 0)⟩, ⟨(some 15), none, .nilc (.tmp 14)⟩, ⟨(some 16), none, .fld 3 (.tmp 15)⟩, ⟨(some 17), none, .load 1 false (.tmp 16)⟩, ⟨(some 18), none, .ia none 2 (.tmp 17) (.const (.int .i64 0))⟩, ⟨(some 19), none, .fld 1 (.tmp 18)⟩, ⟨(some 20), none, .load 1 false (.tmp 19)⟩, ⟨(some 2), none, .mv (.tmp 20)⟩])
 .ret) .skip))
 (.seq (.draw [0] [⟨(some 22), none, .mv (.tmp 0)⟩, ⟨(some 23), none, .nilc (.tmp 22)⟩, ⟨(some 24), none, .fld 1 (.tmp 23)⟩, ⟨(some 25), none, .load 2 true (.tmp 24)⟩, ⟨(some 26), none, .mv (.tmp 0)⟩, ⟨(some 27), none, .nilc (.tmp 26)⟩, ⟨(some 28), none, .fld 3 (.tmp 27)⟩, ⟨(some 29), none, .load 1 false (.tmp 28)⟩, ⟨(some 30), none, .ia none 2 (.tmp 29) (.const (.int .i64 0))⟩, ⟨(some 31), none, .fld 1 (.tmp 30)⟩, ⟨(some 32), none, .load 1 false (.tmp 31)⟩, ⟨(some 33), none, .call 57 [(.tmp 25), (.tmp 32)]⟩, ⟨(some 21), none, .mv (.tmp 33)⟩, ⟨(some 34), none, .ext (.tmp 21) 0⟩, ⟨(some 35), none, .ext (.tmp 21) 1⟩, ⟨(some 36), none, .ext (.tmp 21) 2⟩, ⟨(some 3), none, .mv (.tmp 34)⟩, ⟨(some 4), none, .mv (.tmp 35)⟩, ⟨(some 5), none, .mv (.tmp 36)⟩])
 (.seq (.reg [4] [⟨(some 37), none, .mv (.tmp 4)⟩, ⟨(some 2), none, .mv (.tmp 37)⟩])
 .ret))))
theorem fn_walk_packet_end : FnOk Try.prog 96 Try.f96 sc_walk_packet_end [.tmp 2] 1 := ⟨Try.func96, by kernel_rfl, by kernel_rfl, by kernel_rfl, by kernel_rfl, by kernel_rfl, by kernel_rfl⟩

end Go.Proofs.Ytejmcijcdhoogaa
end

section
namespace Go.Proofs.Ytejmcijcdhoogaa
open Go Abs

/- 17 waymark/waymarklaw15.Small: slots 0 g, 1 g -/
def sc_waymarklaw15_Small : SCode :=
 (.seq (.reg [0] [⟨(some 1), none, .box 24 (.tmp 0)⟩, ⟨(some 2), none, .mv (.const (.bool false))⟩])
 (.seq (.reg [1] [⟨(some 3), none, .fld 0 (.tmp 1)⟩, ⟨(some 4), none, .load 1 false (.tmp 3)⟩, ⟨(some 5), none, .bin .leq 3 (.tmp 4) (.const (.int .i64 10))⟩, ⟨(some 6), none, .mv (.tmp 5)⟩, ⟨(some 7), (some (6, true)), .fld 1 (.tmp 1)⟩, ⟨(some 8), (some (6, true)), .load 1 false (.tmp 7)⟩, ⟨(some 9), (some (6, true)), .len false (.tmp 8)⟩, ⟨(some 10), (some (6, true)), .bin .leq 3 (.tmp 9) (.const (.int .i64 16))⟩, ⟨(some 11), none, .pick (.tmp 6) (.tmp 10) (.const (.bool false))⟩, ⟨(some 2), none, .mv (.tmp 11)⟩])
 .ret))
theorem fn_waymarklaw15_Small : FnOk Try.prog 17 Try.f17 sc_waymarklaw15_Small [.tmp 2] 1 := ⟨Try.func17, by kernel_rfl, by kernel_rfl, by kernel_rfl, by kernel_rfl, by kernel_rfl, by kernel_rfl⟩

end Go.Proofs.Ytejmcijcdhoogaa
end

section
namespace Go.Proofs.Ytejmcijcdhoogaa
open Go Abs

/- 19 waymark/waymarklaw16.Tables: slots 0 g, 1 g, 5 t, 6 _, 7 r, 8 f -/
def sc_waymarklaw16_Tables : SCode :=
 (.seq (.reg [0] [⟨(some 1), none, .box 24 (.tmp 0)⟩, ⟨(some 2), none, .mv (.const (.pointer none))⟩, ⟨(some 3), none, .mv (.const (.pointer none))⟩, ⟨(some 4), none, .mv (.const (.bool false))⟩])
 (.seq (.reg [1] [⟨(some 10), none, .load 2 true (.tmp 1)⟩, ⟨(some 11), none, .call 39 [(.tmp 10)]⟩, ⟨(some 9), none, .mv (.tmp 11)⟩, ⟨(some 12), none, .ext (.tmp 9) 0⟩, ⟨(some 13), none, .ext (.tmp 9) 1⟩, ⟨(some 5), none, .mv (.tmp 12)⟩, ⟨(some 6), none, .mv (.tmp 13)⟩])
 (.seq (.reg [1, 5] [⟨(some 15), none, .load 2 true (.tmp 1)⟩, ⟨(some 16), none, .call 40 [(.tmp 15)]⟩, ⟨(some 14), none, .mv (.tmp 16)⟩, ⟨(some 17), none, .ext (.tmp 14) 0⟩, ⟨(some 18), none, .ext (.tmp 14) 1⟩, ⟨(some 7), none, .mv (.tmp 17)⟩, ⟨(some 8), none, .mv (.tmp 18)⟩])
 (.seq (.reg [5, 7, 8] [⟨(some 19), none, .mv (.tmp 5)⟩, ⟨(some 20), none, .mv (.tmp 7)⟩, ⟨(some 21), none, .mv (.tmp 8)⟩, ⟨(some 22), none, .bin .eql 3 (.tmp 21) (.const (.int .i64 0))⟩, ⟨(some 23), none, .mv (.tmp 22)⟩, ⟨(some 24), (some (23, true)), .mv (.tmp 5)⟩, ⟨(some 25), (some (23, true)), .isnil .p true (.tmp 24)⟩, ⟨(some 26), none, .pick (.tmp 23) (.tmp 25) (.const (.bool false))⟩, ⟨(some 2), none, .mv (.tmp 19)⟩, ⟨(some 3), none, .mv (.tmp 20)⟩, ⟨(some 4), none, .mv (.tmp 26)⟩])
 .ret))))
theorem fn_waymarklaw16_Tables : FnOk Try.prog 19 Try.f19 sc_waymarklaw16_Tables [.tmp 2, .tmp 3, .tmp 4] 1 := ⟨Try.func19, by kernel_rfl, by kernel_rfl, by kernel_rfl, by kernel_rfl, by kernel_rfl, by kernel_rfl⟩

end Go.Proofs.Ytejmcijcdhoogaa
end

section
namespace Go.Proofs.Ytejmcijcdhoogaa
open Go Abs

end Go.Proofs.Ytejmcijcdhoogaa
end

section
namespace Go.Proofs.Ytejmcijcdhoogaa
open Go Abs

end Go.Proofs.Ytejmcijcdhoogaa
end

section
namespace Go.Proofs.Ytejmcijcdhoogaa
open Go Abs

/- loop of waymark/waymarklaw21.WalkHops, wants [4, 6, 17, 18, 19] [] -/
def sc_waymarklaw21_WalkHops_L0 : SCode :=
 (.seq (.seq (.reg [4, 6, 17, 18, 19] [⟨(some 80), none, .mv (.tmp 19)⟩, ⟨(some 81), none, .fld 0 (.tmp 17)⟩, ⟨(some 82), none, .load 1 false (.tmp 81)⟩, ⟨(some 83), none, .len false (.tmp 82)⟩, ⟨(some 84), none, .bin .lss 3 (.tmp 80) (.tmp 83)⟩])
 (.cond (.tmp 84) .skip (.exit 0)))
 (.seq (.block 1 (.seq (.draw [4, 6, 17, 18, 19] [⟨(some 88), none, .load 2 true (.tmp 6)⟩, ⟨(some 89), none, .fld 0 (.tmp 17)⟩, ⟨(some 90), none, .load 1 false (.tmp 89)⟩, ⟨(some 91), none, .mv (.tmp 19)⟩, ⟨(some 92), none, .ia none 1 (.tmp 90) (.tmp 91)⟩, ⟨(some 93), none, .load 1 false (.tmp 92)⟩, ⟨(some 94), none, .call 29 [(.tmp 88), (.tmp 93)]⟩, ⟨(some 87), none, .mv (.tmp 94)⟩, ⟨(some 95), none, .ext (.tmp 87) 0⟩, ⟨(some 96), none, .ext (.tmp 87) 1⟩, ⟨(some 97), none, .ext (.tmp 87) 2⟩, ⟨(some 20), none, .mv (.tmp 95)⟩, ⟨(some 21), none, .mv (.tmp 96)⟩, ⟨(some 22), none, .mv (.tmp 97)⟩])
 (.seq (.seq (.reg [4, 6, 17, 18, 19, 20, 21, 22] [⟨(some 98), none, .mv (.tmp 22)⟩, ⟨(some 99), none, .un .not (.tmp 98)⟩, ⟨(some 100), none, .mv (.tmp 99)⟩, ⟨(some 101), (some (100, false)), .mv (.tmp 20)⟩, ⟨(some 102), (some (100, false)), .mv (.tmp 18)⟩, ⟨(some 103), (some (100, false)), .bin .neq 3 (.tmp 101) (.tmp 102)⟩, ⟨(some 104), none, .pick (.tmp 100) (.const (.bool true)) (.tmp 103)⟩, ⟨(some 105), none, .mv (.tmp 104)⟩, ⟨(some 106), (some (105, false)), .mv (.tmp 4)⟩, ⟨(some 107), (some (105, false)), .fld 0 (.tmp 17)⟩, ⟨(some 108), (some (105, false)), .load 1 false (.tmp 107)⟩, ⟨(some 109), (some (105, false)), .mv (.tmp 19)⟩, ⟨(some 110), (some (105, false)), .ia none 1 (.tmp 108) (.tmp 109)⟩, ⟨(some 111), (some (105, false)), .load 1 false (.tmp 110)⟩, ⟨(some 112), (some (105, false)), .bin .quo 3 (.tmp 111) (.const (.int .i64 2))⟩, ⟨(some 113), (some (105, false)), .call 38 [(.tmp 106), (.tmp 112)]⟩, ⟨(some 114), none, .pick (.tmp 105) (.const (.bool true)) (.tmp 113)⟩])
 (.cond (.tmp 114) (.seq (.reg [] [⟨(some 12), none, .mv (.const (.bool false))⟩])
 .ret) .skip))
 (.reg [4, 6, 17, 19, 21] [⟨(some 115), none, .mv (.tmp 21)⟩, ⟨(some 18), none, .mv (.tmp 115)⟩]))))
 (.reg [4, 6, 17, 18, 19] [⟨(some 85), none, .mv (.tmp 19)⟩, ⟨(some 86), none, .bin .add 3 (.tmp 85) (.const (.int .i64 1))⟩, ⟨(some 19), none, .mv (.tmp 86)⟩])))
/- 13 waymark/waymarklaw21.WalkHops: slots 0 g, 1 from, 2 l, 3 hash, 4 down, 5 depth, 6 g, 7 from, 8 l, 9 hash, 10 down, 11 depth, 13 live, 14 t, 15 _, 16 ok, 17 x, 18 now, 19 i, 20 a, 21 b, 22 is -/
def sc_waymarklaw21_WalkHops : SCode :=
 (.seq (.reg [0, 1, 2, 3, 4, 5] [⟨(some 6), none, .box 24 (.tmp 0)⟩, ⟨(some 12), none, .mv (.const (.bool false))⟩])
 (.seq (.reg [1, 2, 3, 4, 5, 6] [⟨(some 23), none, .call 32 []⟩, ⟨(some 13), none, .mv (.tmp 23)⟩])
 (.seq (.seq (.reg [1, 2, 3, 4, 5, 6, 13] [⟨(some 24), none, .mv (.tmp 13)⟩, ⟨(some 25), none, .un .not (.tmp 24)⟩, ⟨(some 26), none, .mv (.tmp 25)⟩, ⟨(some 27), (some (26, false)), .load 2 true (.tmp 6)⟩, ⟨(some 28), (some (26, false)), .call 17 [(.tmp 27)]⟩, ⟨(some 29), (some (26, false)), .un .not (.tmp 28)⟩, ⟨(some 30), none, .pick (.tmp 26) (.const (.bool true)) (.tmp 29)⟩, ⟨(some 31), none, .mv (.tmp 30)⟩, ⟨(some 32), (some (31, false)), .mv (.tmp 2)⟩, ⟨(some 33), (some (31, false)), .len false (.tmp 32)⟩, ⟨(some 34), (some (31, false)), .bin .gtr 3 (.tmp 33) (.const (.int .i64 30))⟩, ⟨(some 35), none, .pick (.tmp 31) (.const (.bool true)) (.tmp 34)⟩, ⟨(some 36), none, .mv (.tmp 35)⟩, ⟨(some 37), (some (36, false)), .mv (.tmp 4)⟩, ⟨(some 38), (some (36, false)), .len false (.tmp 37)⟩, ⟨(some 39), (some (36, false)), .bin .gtr 3 (.tmp 38) (.const (.int .i64 200))⟩, ⟨(some 40), none, .pick (.tmp 36) (.const (.bool true)) (.tmp 39)⟩])
 (.cond (.tmp 40) (.seq (.reg [13] [⟨(some 41), none, .mv (.tmp 13)⟩, ⟨(some 12), none, .mv (.tmp 41)⟩])
 .ret) .skip))
 (.seq (.reg [1, 2, 3, 4, 5, 6] [⟨(some 43), none, .load 2 true (.tmp 6)⟩, ⟨(some 44), none, .call 19 [(.tmp 43)]⟩, ⟨(some 42), none, .mv (.tmp 44)⟩, ⟨(some 45), none, .ext (.tmp 42) 0⟩, ⟨(some 46), none, .ext (.tmp 42) 1⟩, ⟨(some 47), none, .ext (.tmp 42) 2⟩, ⟨(some 14), none, .mv (.tmp 45)⟩, ⟨(some 15), none, .mv (.tmp 46)⟩, ⟨(some 16), none, .mv (.tmp 47)⟩])
 (.seq (.seq (.reg [1, 2, 3, 4, 5, 6, 14, 16] [⟨(some 48), none, .mv (.tmp 16)⟩, ⟨(some 49), none, .un .not (.tmp 48)⟩])
 (.cond (.tmp 49) (.seq (.reg [] [⟨(some 12), none, .mv (.const (.bool true))⟩])
 .ret) .skip))
 (.seq (.reg [1, 2, 3, 4, 5, 6, 14] [⟨(some 50), none, .mv (.tmp 14)⟩, ⟨(some 51), none, .mv (.tmp 1)⟩, ⟨(some 52), none, .mv (.tmp 2)⟩, ⟨(some 53), none, .mv (.tmp 3)⟩, ⟨(some 54), none, .mv (.tmp 4)⟩, ⟨(some 55), none, .mv (.tmp 5)⟩, ⟨(some 56), none, .call 34 [(.tmp 50), (.tmp 51), (.tmp 52), (.tmp 53), (.tmp 54), (.const (.bool false)), (.tmp 55)]⟩, ⟨(some 17), none, .alloc 64 [(.slice none 0 0), (.int .i64 0), (.int .i64 0), (.int .i64 0), (.int .i64 0)]⟩, ⟨none, none, .store 5 (.tmp 17) (.tmp 56)⟩])
 (.seq (.seq (.reg [1, 4, 6, 17] [⟨(some 57), none, .mv (.tmp 1)⟩, ⟨(some 58), none, .bin .lss 3 (.tmp 57) (.const (.int .i64 0))⟩, ⟨(some 59), none, .mv (.tmp 58)⟩, ⟨(some 60), (some (59, false)), .mv (.tmp 1)⟩, ⟨(some 61), (some (59, false)), .fld 0 (.tmp 6)⟩, ⟨(some 62), (some (59, false)), .load 1 false (.tmp 61)⟩, ⟨(some 63), (some (59, false)), .bin .geq 3 (.tmp 60) (.tmp 62)⟩, ⟨(some 64), none, .pick (.tmp 59) (.const (.bool true)) (.tmp 63)⟩])
 (.cond (.tmp 64) (.seq (.reg [17] [⟨(some 65), none, .fld 2 (.tmp 17)⟩, ⟨(some 66), none, .load 1 false (.tmp 65)⟩, ⟨(some 67), none, .bin .eql 3 (.tmp 66) (.const (.int .i64 4))⟩, ⟨(some 68), none, .mv (.tmp 67)⟩, ⟨(some 69), (some (68, true)), .fld 1 (.tmp 17)⟩, ⟨(some 70), (some (68, true)), .load 1 false (.tmp 69)⟩, ⟨(some 71), (some (68, true)), .bin .eql 3 (.tmp 70) (.const (.int .i64 (-1)))⟩, ⟨(some 72), none, .pick (.tmp 68) (.tmp 71) (.const (.bool false))⟩, ⟨(some 73), none, .mv (.tmp 72)⟩, ⟨(some 74), (some (73, true)), .fld 0 (.tmp 17)⟩, ⟨(some 75), (some (73, true)), .load 1 false (.tmp 74)⟩, ⟨(some 76), (some (73, true)), .len false (.tmp 75)⟩, ⟨(some 77), (some (73, true)), .bin .eql 3 (.tmp 76) (.const (.int .i64 0))⟩, ⟨(some 78), none, .pick (.tmp 73) (.tmp 77) (.const (.bool false))⟩, ⟨(some 12), none, .mv (.tmp 78)⟩])
 .ret) .skip))
 (.seq (.reg [1, 4, 6, 17] [⟨(some 79), none, .mv (.tmp 1)⟩, ⟨(some 18), none, .mv (.tmp 79)⟩])
 (.seq (.seq (.reg [4, 6, 17, 18] [⟨(some 19), none, .mv (.const (.int .i64 0))⟩])
 (.block 0 (.loop [4, 6, 17, 18, 19] [] sc_waymarklaw21_WalkHops_L0)))
 (.seq (.reg [17, 18] [⟨(some 116), none, .fld 0 (.tmp 17)⟩, ⟨(some 117), none, .load 1 false (.tmp 116)⟩, ⟨(some 118), none, .len false (.tmp 117)⟩, ⟨(some 119), none, .bin .leq 3 (.tmp 118) (.const (.int .i64 255))⟩, ⟨(some 120), none, .mv (.tmp 119)⟩, ⟨(some 121), (some (120, true)), .fld 1 (.tmp 17)⟩, ⟨(some 122), (some (120, true)), .load 1 false (.tmp 121)⟩, ⟨(some 123), (some (120, true)), .mv (.tmp 18)⟩, ⟨(some 124), (some (120, true)), .bin .eql 3 (.tmp 122) (.tmp 123)⟩, ⟨(some 125), none, .pick (.tmp 120) (.tmp 124) (.const (.bool false))⟩, ⟨(some 126), none, .mv (.tmp 125)⟩, ⟨(some 127), (some (126, true)), .fld 2 (.tmp 17)⟩, ⟨(some 128), (some (126, true)), .load 1 false (.tmp 127)⟩, ⟨(some 129), (some (126, true)), .bin .geq 3 (.tmp 128) (.const (.int .i64 1))⟩, ⟨(some 130), none, .pick (.tmp 126) (.tmp 129) (.const (.bool false))⟩, ⟨(some 131), none, .mv (.tmp 130)⟩, ⟨(some 132), (some (131, true)), .fld 2 (.tmp 17)⟩, ⟨(some 133), (some (131, true)), .load 1 false (.tmp 132)⟩, ⟨(some 134), (some (131, true)), .bin .leq 3 (.tmp 133) (.const (.int .i64 5))⟩, ⟨(some 135), none, .pick (.tmp 131) (.tmp 134) (.const (.bool false))⟩, ⟨(some 136), none, .mv (.tmp 135)⟩, ⟨(some 137), (some (136, true)), .fld 3 (.tmp 17)⟩, ⟨(some 138), (some (136, true)), .load 1 false (.tmp 137)⟩, ⟨(some 139), (some (136, true)), .bin .geq 3 (.tmp 138) (.const (.int .i64 0))⟩, ⟨(some 140), none, .pick (.tmp 136) (.tmp 139) (.const (.bool false))⟩, ⟨(some 141), none, .mv (.tmp 140)⟩, ⟨(some 142), (some (141, true)), .fld 4 (.tmp 17)⟩, ⟨(some 143), (some (141, true)), .load 1 false (.tmp 142)⟩, ⟨(some 144), (some (141, true)), .bin .geq 3 (.tmp 143) (.const (.int .i64 0))⟩, ⟨(some 145), none, .pick (.tmp 141) (.tmp 144) (.const (.bool false))⟩, ⟨(some 12), none, .mv (.tmp 145)⟩])
 .ret))))))))))
theorem fn_waymarklaw21_WalkHops : FnOk Try.prog 13 Try.f13 sc_waymarklaw21_WalkHops [.tmp 12] 6 := ⟨Try.func13, by kernel_rfl, by kernel_rfl, by kernel_rfl, by kernel_rfl, by kernel_rfl, by kernel_rfl⟩

/- loop of waymark/waymarklaw21.WalkSpreads, wants [0, 1, 8, 11, 12] [] -/
def sc_waymarklaw21_WalkSpreads_L0 : SCode :=
 (.seq (.seq (.reg [0, 1, 8, 11, 12] [⟨(some 50), none, .mv (.tmp 12)⟩, ⟨(some 51), none, .mv (.tmp 0)⟩, ⟨(some 52), none, .bin .lss 3 (.tmp 50) (.tmp 51)⟩])
 (.cond (.tmp 52) .skip (.exit 2)))
 (.seq (.block 3 (.seq (.reg [0, 1, 8, 11, 12] [⟨(some 55), none, .mv (.tmp 8)⟩, ⟨(some 56), none, .build [(.bool false), (.int .i64 0)] [(1, 1, (.const (.int .i64 1)))]⟩, ⟨(some 57), none, .bsl 50 2 [(.bool false), (.int .i64 0)] 1 [(0, 2, (.tmp 56))]⟩, ⟨(some 58), none, .mv (.tmp 12)⟩, ⟨(some 59), none, .call 34 [(.tmp 55), (.const (.int .i64 0)), (.tmp 57), (.tmp 58), (.const (.slice none 0 0)), (.const (.bool false)), (.const (.int .i64 3))]⟩, ⟨(some 13), none, .alloc 64 [(.slice none 0 0), (.int .i64 0), (.int .i64 0), (.int .i64 0), (.int .i64 0)]⟩, ⟨none, none, .store 5 (.tmp 13) (.tmp 59)⟩])
 (.seq (.seq (.reg [0, 1, 8, 11, 12, 13] [⟨(some 60), none, .fld 2 (.tmp 13)⟩, ⟨(some 61), none, .load 1 false (.tmp 60)⟩, ⟨(some 62), none, .bin .neq 3 (.tmp 61) (.const (.int .i64 1))⟩, ⟨(some 63), none, .mv (.tmp 62)⟩, ⟨(some 64), (some (63, false)), .fld 0 (.tmp 13)⟩, ⟨(some 65), (some (63, false)), .load 1 false (.tmp 64)⟩, ⟨(some 66), (some (63, false)), .len false (.tmp 65)⟩, ⟨(some 67), (some (63, false)), .bin .neq 3 (.tmp 66) (.const (.int .i64 1))⟩, ⟨(some 68), none, .pick (.tmp 63) (.const (.bool true)) (.tmp 67)⟩, ⟨(some 69), none, .mv (.tmp 68)⟩, ⟨(some 70), (some (69, false)), .fld 0 (.tmp 13)⟩, ⟨(some 71), (some (69, false)), .load 1 false (.tmp 70)⟩, ⟨(some 72), (some (69, false)), .ia none 1 (.tmp 71) (.const (.int .i64 0))⟩, ⟨(some 73), (some (69, false)), .load 1 false (.tmp 72)⟩, ⟨(some 74), (some (69, false)), .bin .lss 3 (.tmp 73) (.const (.int .i64 0))⟩, ⟨(some 75), none, .pick (.tmp 69) (.const (.bool true)) (.tmp 74)⟩, ⟨(some 76), none, .mv (.tmp 75)⟩, ⟨(some 77), (some (76, false)), .fld 0 (.tmp 13)⟩, ⟨(some 78), (some (76, false)), .load 1 false (.tmp 77)⟩, ⟨(some 79), (some (76, false)), .ia none 1 (.tmp 78) (.const (.int .i64 0))⟩, ⟨(some 80), (some (76, false)), .load 1 false (.tmp 79)⟩, ⟨(some 81), (some (76, false)), .bin .quo 3 (.tmp 80) (.const (.int .i64 2))⟩, ⟨(some 82), (some (76, false)), .mv (.tmp 0)⟩, ⟨(some 83), (some (76, false)), .bin .geq 3 (.tmp 81) (.tmp 82)⟩, ⟨(some 84), none, .pick (.tmp 76) (.const (.bool true)) (.tmp 83)⟩, ⟨(some 85), none, .mv (.tmp 84)⟩, ⟨(some 86), (some (85, false)), .mv (.tmp 11)⟩, ⟨(some 87), (some (85, false)), .fld 0 (.tmp 13)⟩, ⟨(some 88), (some (85, false)), .load 1 false (.tmp 87)⟩, ⟨(some 89), (some (85, false)), .ia none 1 (.tmp 88) (.const (.int .i64 0))⟩, ⟨(some 90), (some (85, false)), .load 1 false (.tmp 89)⟩, ⟨(some 91), (some (85, false)), .bin .quo 3 (.tmp 90) (.const (.int .i64 2))⟩, ⟨(some 92), (some (85, false)), .ia none 1 (.tmp 86) (.tmp 91)⟩, ⟨(some 93), (some (85, false)), .load 1 false (.tmp 92)⟩, ⟨(some 94), none, .pick (.tmp 85) (.const (.bool true)) (.tmp 93)⟩])
 (.cond (.tmp 94) (.seq (.reg [] [⟨(some 4), none, .mv (.const (.bool false))⟩])
 .ret) .skip))
 (.reg [0, 1, 8, 11, 12, 13] [⟨(some 95), none, .mv (.tmp 11)⟩, ⟨(some 96), none, .fld 0 (.tmp 13)⟩, ⟨(some 97), none, .load 1 false (.tmp 96)⟩, ⟨(some 98), none, .ia none 1 (.tmp 97) (.const (.int .i64 0))⟩, ⟨(some 99), none, .load 1 false (.tmp 98)⟩, ⟨(some 100), none, .bin .quo 3 (.tmp 99) (.const (.int .i64 2))⟩, ⟨(some 101), none, .ia none 1 (.tmp 95) (.tmp 100)⟩, ⟨none, none, .store 1 (.tmp 101) (.const (.bool true))⟩]))))
 (.reg [0, 1, 8, 11, 12] [⟨(some 53), none, .mv (.tmp 12)⟩, ⟨(some 54), none, .bin .add 3 (.tmp 53) (.const (.int .i64 1))⟩, ⟨(some 12), none, .mv (.tmp 54)⟩])))
/- loop of waymark/waymarklaw21.WalkSpreads, wants [0, 1, 6, 7] [] -/
def sc_waymarklaw21_WalkSpreads_L1 : SCode :=
 (.seq (.seq (.reg [0, 1, 6, 7] [⟨(some 29), none, .mv (.tmp 7)⟩, ⟨(some 30), none, .mv (.tmp 0)⟩, ⟨(some 31), none, .bin .lss 3 (.tmp 29) (.tmp 30)⟩])
 (.cond (.tmp 31) .skip (.exit 0)))
 (.seq (.block 1 (.reg [0, 1, 6, 7] [⟨(some 34), none, .fld 1 (.tmp 6)⟩, ⟨(some 35), none, .load 1 false (.tmp 34)⟩, ⟨(some 36), none, .build [(.int .i64 0), (.int .i64 0), (.int .i64 0), (.int .i64 0)] [(1, 1, (.const (.int .i64 1))), (2, 1, (.const (.int .i64 3)))]⟩, ⟨(some 37), none, .bsl 48 4 [(.int .i64 0), (.int .i64 0), (.int .i64 0), (.int .i64 0)] 1 [(0, 4, (.tmp 36))]⟩, ⟨(some 38), none, .hp (.app 22 48 4 32 (.agg #[(.int .i64 0), (.int .i64 0), (.int .i64 0), (.int .i64 0)]) (.tmp 35) (.tmp 37))⟩, ⟨(some 39), none, .fld 1 (.tmp 6)⟩, ⟨none, none, .store 1 (.tmp 39) (.tmp 38)⟩]))
 (.reg [0, 1, 6, 7] [⟨(some 32), none, .mv (.tmp 7)⟩, ⟨(some 33), none, .bin .add 3 (.tmp 32) (.const (.int .i64 1))⟩, ⟨(some 7), none, .mv (.tmp 33)⟩])))
/- 14 waymark/waymarklaw21.WalkSpreads: slots 0 ways, 1 hash, 2 ways, 3 hash, 5 live, 6 g, 7 i, 8 t, 9 _, 10 ok, 11 used, 12 i, 13 x, 14 a, 15 b -/
def sc_waymarklaw21_WalkSpreads : SCode :=
 (.seq (.reg [0, 1] [⟨(some 4), none, .mv (.const (.bool false))⟩])
 (.seq (.reg [0, 1] [⟨(some 16), none, .call 32 []⟩, ⟨(some 5), none, .mv (.tmp 16)⟩])
 (.seq (.seq (.reg [0, 1, 5] [⟨(some 17), none, .mv (.tmp 5)⟩, ⟨(some 18), none, .un .not (.tmp 17)⟩, ⟨(some 19), none, .mv (.tmp 18)⟩, ⟨(some 20), (some (19, false)), .mv (.tmp 0)⟩, ⟨(some 21), (some (19, false)), .bin .lss 3 (.tmp 20) (.const (.int .i64 1))⟩, ⟨(some 22), none, .pick (.tmp 19) (.const (.bool true)) (.tmp 21)⟩, ⟨(some 23), none, .mv (.tmp 22)⟩, ⟨(some 24), (some (23, false)), .mv (.tmp 0)⟩, ⟨(some 25), (some (23, false)), .bin .gtr 3 (.tmp 24) (.const (.int .i64 8))⟩, ⟨(some 26), none, .pick (.tmp 23) (.const (.bool true)) (.tmp 25)⟩])
 (.cond (.tmp 26) (.seq (.reg [5] [⟨(some 27), none, .mv (.tmp 5)⟩, ⟨(some 4), none, .mv (.tmp 27)⟩])
 .ret) .skip))
 (.seq (.reg [0, 1] [⟨(some 28), none, .build [(.int .i64 0), (.slice none 0 0)] [(0, 1, (.const (.int .i64 2)))]⟩, ⟨(some 6), none, .alloc 24 [(.int .i64 0), (.slice none 0 0)]⟩, ⟨none, none, .store 2 (.tmp 6) (.tmp 28)⟩])
 (.seq (.seq (.reg [0, 1, 6] [⟨(some 7), none, .mv (.const (.int .i64 0))⟩])
 (.block 0 (.loop [0, 1, 6, 7] [] sc_waymarklaw21_WalkSpreads_L1)))
 (.seq (.fz [6] (.reg [0, 1, 6] [⟨(some 41), none, .load 2 true (.tmp 6)⟩, ⟨(some 42), none, .call 19 [(.tmp 41)]⟩, ⟨(some 40), none, .mv (.tmp 42)⟩, ⟨(some 43), none, .ext (.tmp 40) 0⟩, ⟨(some 44), none, .ext (.tmp 40) 1⟩, ⟨(some 45), none, .ext (.tmp 40) 2⟩, ⟨(some 8), none, .mv (.tmp 43)⟩, ⟨(some 9), none, .mv (.tmp 44)⟩, ⟨(some 10), none, .mv (.tmp 45)⟩]))
 (.seq (.seq (.reg [0, 1, 8, 10] [⟨(some 46), none, .mv (.tmp 10)⟩, ⟨(some 47), none, .un .not (.tmp 46)⟩])
 (.cond (.tmp 47) (.seq (.reg [] [⟨(some 4), none, .mv (.const (.bool false))⟩])
 .ret) .skip))
 (.seq (.reg [0, 1, 8] [⟨(some 48), none, .mv (.tmp 0)⟩, ⟨(some 49), none, .mksl 4 1 1 [(.bool false)] (.tmp 48) (.tmp 48)⟩, ⟨(some 11), none, .mv (.tmp 49)⟩])
 (.seq (.seq (.reg [0, 1, 8, 11] [⟨(some 12), none, .mv (.const (.int .i64 0))⟩])
 (.block 2 (.loop [0, 1, 8, 11, 12] [] sc_waymarklaw21_WalkSpreads_L0)))
 (.seq (.reg [1, 8] [⟨(some 102), none, .mv (.tmp 8)⟩, ⟨(some 103), none, .build [(.bool false), (.int .i64 0)] [(1, 1, (.const (.int .i64 1)))]⟩, ⟨(some 104), none, .bsl 50 2 [(.bool false), (.int .i64 0)] 1 [(0, 2, (.tmp 103))]⟩, ⟨(some 105), none, .mv (.tmp 1)⟩, ⟨(some 106), none, .call 34 [(.tmp 102), (.const (.int .i64 0)), (.tmp 104), (.tmp 105), (.const (.slice none 0 0)), (.const (.bool false)), (.const (.int .i64 3))]⟩, ⟨(some 14), none, .alloc 64 [(.slice none 0 0), (.int .i64 0), (.int .i64 0), (.int .i64 0), (.int .i64 0)]⟩, ⟨none, none, .store 5 (.tmp 14) (.tmp 106)⟩])
 (.seq (.reg [1, 8, 14] [⟨(some 107), none, .mv (.tmp 8)⟩, ⟨(some 108), none, .build [(.bool false), (.int .i64 0)] [(1, 1, (.const (.int .i64 1)))]⟩, ⟨(some 109), none, .bsl 50 2 [(.bool false), (.int .i64 0)] 1 [(0, 2, (.tmp 108))]⟩, ⟨(some 110), none, .mv (.tmp 1)⟩, ⟨(some 111), none, .call 34 [(.tmp 107), (.const (.int .i64 0)), (.tmp 109), (.tmp 110), (.const (.slice none 0 0)), (.const (.bool true)), (.const (.int .i64 3))]⟩, ⟨(some 15), none, .alloc 64 [(.slice none 0 0), (.int .i64 0), (.int .i64 0), (.int .i64 0), (.int .i64 0)]⟩, ⟨none, none, .store 5 (.tmp 15) (.tmp 111)⟩])
 (.seq (.reg [14, 15] [⟨(some 112), none, .load 5 true (.tmp 14)⟩, ⟨(some 113), none, .load 5 true (.tmp 15)⟩, ⟨(some 114), none, .call 33 [(.tmp 112), (.tmp 113)]⟩, ⟨(some 115), none, .mv (.tmp 114)⟩, ⟨(some 116), (some (115, true)), .fld 2 (.tmp 14)⟩, ⟨(some 117), (some (115, true)), .load 1 false (.tmp 116)⟩, ⟨(some 118), (some (115, true)), .bin .eql 3 (.tmp 117) (.const (.int .i64 1))⟩, ⟨(some 119), none, .pick (.tmp 115) (.tmp 118) (.const (.bool false))⟩, ⟨(some 4), none, .mv (.tmp 119)⟩])
 .ret))))))))))))
theorem fn_waymarklaw21_WalkSpreads : FnOk Try.prog 14 Try.f14 sc_waymarklaw21_WalkSpreads [.tmp 4] 2 := ⟨Try.func14, by kernel_rfl, by kernel_rfl, by kernel_rfl, by kernel_rfl, by kernel_rfl, by kernel_rfl⟩

/- 15 waymark/waymarklaw21.WalkLabels: slots 0 which, 1 which, 3 live, 4 t, 5 _, 6 ok, 7 l, 8 end, 9 at, 10 x -/
def sc_waymarklaw21_WalkLabels : SCode :=
 (.seq (.reg [0] [⟨(some 2), none, .mv (.const (.bool false))⟩])
 (.seq (.reg [0] [⟨(some 11), none, .call 32 []⟩, ⟨(some 3), none, .mv (.tmp 11)⟩])
 (.seq (.seq (.reg [0, 3] [⟨(some 12), none, .mv (.tmp 3)⟩, ⟨(some 13), none, .un .not (.tmp 12)⟩, ⟨(some 14), none, .mv (.tmp 13)⟩, ⟨(some 15), (some (14, false)), .mv (.tmp 0)⟩, ⟨(some 16), (some (14, false)), .bin .lss 3 (.tmp 15) (.const (.int .i64 0))⟩, ⟨(some 17), none, .pick (.tmp 14) (.const (.bool true)) (.tmp 16)⟩, ⟨(some 18), none, .mv (.tmp 17)⟩, ⟨(some 19), (some (18, false)), .mv (.tmp 0)⟩, ⟨(some 20), (some (18, false)), .bin .gtr 3 (.tmp 19) (.const (.int .i64 6))⟩, ⟨(some 21), none, .pick (.tmp 18) (.const (.bool true)) (.tmp 20)⟩])
 (.cond (.tmp 21) (.seq (.reg [3] [⟨(some 22), none, .mv (.tmp 3)⟩, ⟨(some 2), none, .mv (.tmp 22)⟩])
 .ret) .skip))
 (.seq (.reg [0] [⟨(some 24), none, .build [(.int .i64 0), (.int .i64 0), (.int .i64 0), (.int .i64 0)] [(1, 1, (.const (.int .i64 1))), (2, 1, (.const (.int .i64 1)))]⟩, ⟨(some 25), none, .bsl 48 4 [(.int .i64 0), (.int .i64 0), (.int .i64 0), (.int .i64 0)] 1 [(0, 4, (.tmp 24))]⟩, ⟨(some 26), none, .build [(.int .i64 0), (.slice none 0 0)] [(0, 1, (.const (.int .i64 3))), (1, 1, (.tmp 25))]⟩, ⟨(some 27), none, .call 19 [(.tmp 26)]⟩, ⟨(some 23), none, .mv (.tmp 27)⟩, ⟨(some 28), none, .ext (.tmp 23) 0⟩, ⟨(some 29), none, .ext (.tmp 23) 1⟩, ⟨(some 30), none, .ext (.tmp 23) 2⟩, ⟨(some 4), none, .mv (.tmp 28)⟩, ⟨(some 5), none, .mv (.tmp 29)⟩, ⟨(some 6), none, .mv (.tmp 30)⟩])
 (.seq (.reg [0, 4, 6] [⟨(some 31), none, .build [(.bool false), (.int .i64 0)] [(1, 1, (.const (.int .i64 1)))]⟩, ⟨(some 32), none, .build [(.bool false), (.int .i64 0)] [(1, 1, (.const (.int .i64 7)))]⟩, ⟨(some 33), none, .bsl 50 2 [(.bool false), (.int .i64 0)] 2 [(0, 2, (.tmp 31)), (2, 2, (.tmp 32))]⟩, ⟨(some 34), none, .build [(.bool false), (.int .i64 0)] [(1, 1, (.const (.int .i64 (-1))))]⟩, ⟨(some 35), none, .bsl 50 2 [(.bool false), (.int .i64 0)] 1 [(0, 2, (.tmp 34))]⟩, ⟨(some 36), none, .build [(.bool false), (.int .i64 0)] [(0, 1, (.const (.bool true))), (1, 1, (.const (.int .i64 1)))]⟩, ⟨(some 37), none, .bsl 50 2 [(.bool false), (.int .i64 0)] 1 [(0, 2, (.tmp 36))]⟩, ⟨(some 38), none, .build [(.bool false), (.int .i64 0)] [(0, 1, (.const (.bool true))), (1, 1, (.const (.int .i64 2)))]⟩, ⟨(some 39), none, .bsl 50 2 [(.bool false), (.int .i64 0)] 1 [(0, 2, (.tmp 38))]⟩, ⟨(some 40), none, .build [(.bool false), (.int .i64 0)] [(0, 1, (.const (.bool true)))]⟩, ⟨(some 41), none, .build [(.bool false), (.int .i64 0)] [(0, 1, (.const (.bool true)))]⟩, ⟨(some 42), none, .bsl 50 2 [(.bool false), (.int .i64 0)] 2 [(0, 2, (.tmp 40)), (2, 2, (.tmp 41))]⟩, ⟨(some 43), none, .build [(.bool false), (.int .i64 0)] [(1, 1, (.const (.int .i64 2)))]⟩, ⟨(some 44), none, .bsl 50 2 [(.bool false), (.int .i64 0)] 1 [(0, 2, (.tmp 43))]⟩, ⟨(some 45), none, .build [(.bool false), (.int .i64 0)] [(1, 1, (.const (.int .i64 0)))]⟩, ⟨(some 46), none, .build [(.bool false), (.int .i64 0)] [(1, 1, (.const (.int .i64 1)))]⟩, ⟨(some 47), none, .build [(.bool false), (.int .i64 0)] [(1, 1, (.const (.int .i64 1)))]⟩, ⟨(some 48), none, .bsl 50 2 [(.bool false), (.int .i64 0)] 3 [(0, 2, (.tmp 45)), (2, 2, (.tmp 46)), (4, 2, (.tmp 47))]⟩, ⟨(some 49), none, .bsl 36 1 [(.slice none 0 0)] 7 [(0, 1, (.tmp 33)), (1, 1, (.tmp 35)), (2, 1, (.tmp 37)), (3, 1, (.tmp 39)), (4, 1, (.tmp 42)), (5, 1, (.tmp 44)), (6, 1, (.tmp 48))]⟩, ⟨(some 7), none, .mv (.tmp 49)⟩])
 (.seq (.reg [0, 4, 6, 7] [⟨(some 50), none, .bsl 3 1 [(.int .i64 0)] 7 [(0, 1, (.const (.int .i64 5))), (1, 1, (.const (.int .i64 5))), (2, 1, (.const (.int .i64 5))), (3, 1, (.const (.int .i64 5))), (4, 1, (.const (.int .i64 5))), (5, 1, (.const (.int .i64 4))), (6, 1, (.const (.int .i64 1)))]⟩, ⟨(some 8), none, .mv (.tmp 50)⟩])
 (.seq (.reg [0, 4, 6, 7, 8] [⟨(some 51), none, .bsl 3 1 [(.int .i64 0)] 7 [(0, 1, (.const (.int .i64 1))), (1, 1, (.const (.int .i64 0))), (2, 1, (.const (.int .i64 0))), (3, 1, (.const (.int .i64 0))), (4, 1, (.const (.int .i64 1))), (5, 1, (.const (.int .i64 0))), (6, 1, (.const (.int .i64 1)))]⟩, ⟨(some 9), none, .mv (.tmp 51)⟩])
 (.seq (.reg [0, 4, 6, 7, 8, 9] [⟨(some 52), none, .mv (.tmp 4)⟩, ⟨(some 53), none, .mv (.tmp 7)⟩, ⟨(some 54), none, .mv (.tmp 0)⟩, ⟨(some 55), none, .ia none 1 (.tmp 53) (.tmp 54)⟩, ⟨(some 56), none, .load 1 false (.tmp 55)⟩, ⟨(some 57), none, .call 34 [(.tmp 52), (.const (.int .i64 0)), (.tmp 56), (.const (.int .i64 3)), (.const (.slice none 0 0)), (.const (.bool false)), (.const (.int .i64 9))]⟩, ⟨(some 10), none, .alloc 64 [(.slice none 0 0), (.int .i64 0), (.int .i64 0), (.int .i64 0), (.int .i64 0)]⟩, ⟨none, none, .store 5 (.tmp 10) (.tmp 57)⟩])
 (.seq (.draw [0, 6, 8, 9, 10] [⟨(some 58), none, .mv (.tmp 6)⟩, ⟨(some 59), none, .mv (.tmp 58)⟩, ⟨(some 60), (some (59, true)), .fld 2 (.tmp 10)⟩, ⟨(some 61), (some (59, true)), .load 1 false (.tmp 60)⟩, ⟨(some 62), (some (59, true)), .mv (.tmp 8)⟩, ⟨(some 63), (some (59, true)), .mv (.tmp 0)⟩, ⟨(some 64), (some (59, true)), .ia none 1 (.tmp 62) (.tmp 63)⟩, ⟨(some 65), (some (59, true)), .load 1 false (.tmp 64)⟩, ⟨(some 66), (some (59, true)), .bin .eql 3 (.tmp 61) (.tmp 65)⟩, ⟨(some 67), none, .pick (.tmp 59) (.tmp 66) (.const (.bool false))⟩, ⟨(some 68), none, .mv (.tmp 67)⟩, ⟨(some 69), (some (68, true)), .fld 1 (.tmp 10)⟩, ⟨(some 70), (some (68, true)), .load 1 false (.tmp 69)⟩, ⟨(some 71), (some (68, true)), .mv (.tmp 9)⟩, ⟨(some 72), (some (68, true)), .mv (.tmp 0)⟩, ⟨(some 73), (some (68, true)), .ia none 1 (.tmp 71) (.tmp 72)⟩, ⟨(some 74), (some (68, true)), .load 1 false (.tmp 73)⟩, ⟨(some 75), (some (68, true)), .bin .eql 3 (.tmp 70) (.tmp 74)⟩, ⟨(some 76), none, .pick (.tmp 68) (.tmp 75) (.const (.bool false))⟩, ⟨(some 77), none, .mv (.tmp 76)⟩, ⟨(some 78), (some (77, true)), .fld 0 (.tmp 10)⟩, ⟨(some 79), (some (77, true)), .load 1 false (.tmp 78)⟩, ⟨(some 80), (some (77, true)), .len false (.tmp 79)⟩, ⟨(some 81), (some (77, true)), .mv (.tmp 9)⟩, ⟨(some 82), (some (77, true)), .mv (.tmp 0)⟩, ⟨(some 83), (some (77, true)), .ia none 1 (.tmp 81) (.tmp 82)⟩, ⟨(some 84), (some (77, true)), .load 1 false (.tmp 83)⟩, ⟨(some 85), (some (77, true)), .bin .eql 3 (.tmp 80) (.tmp 84)⟩, ⟨(some 86), none, .pick (.tmp 77) (.tmp 85) (.const (.bool false))⟩, ⟨(some 2), none, .mv (.tmp 86)⟩])
 .ret)))))))))
theorem fn_waymarklaw21_WalkLabels : FnOk Try.prog 15 Try.f15 sc_waymarklaw21_WalkLabels [.tmp 2] 1 := ⟨Try.func15, by kernel_rfl, by kernel_rfl, by kernel_rfl, by kernel_rfl, by kernel_rfl, by kernel_rfl⟩

/- 32 waymark/waymarklaw21.alive: slots 1 t, 2 _, 3 ok, 4 a, 5 b -/
def sc_waymarklaw21_alive : SCode :=
 (.seq (.reg [] [⟨(some 0), none, .mv (.const (.bool false))⟩])
 (.seq (.reg [] [⟨(some 7), none, .build [(.int .i64 0), (.int .i64 0), (.int .i64 0), (.int .i64 0)] [(1, 1, (.const (.int .i64 1))), (2, 1, (.const (.int .i64 7)))]⟩, ⟨(some 8), none, .bsl 48 4 [(.int .i64 0), (.int .i64 0), (.int .i64 0), (.int .i64 0)] 1 [(0, 4, (.tmp 7))]⟩, ⟨(some 9), none, .build [(.int .i64 0), (.slice none 0 0)] [(0, 1, (.const (.int .i64 2))), (1, 1, (.tmp 8))]⟩, ⟨(some 10), none, .call 19 [(.tmp 9)]⟩, ⟨(some 6), none, .mv (.tmp 10)⟩, ⟨(some 11), none, .ext (.tmp 6) 0⟩, ⟨(some 12), none, .ext (.tmp 6) 1⟩, ⟨(some 13), none, .ext (.tmp 6) 2⟩, ⟨(some 1), none, .mv (.tmp 11)⟩, ⟨(some 2), none, .mv (.tmp 12)⟩, ⟨(some 3), none, .mv (.tmp 13)⟩])
 (.seq (.reg [1, 3] [⟨(some 14), none, .mv (.tmp 1)⟩, ⟨(some 15), none, .call 34 [(.tmp 14), (.const (.int .i64 0)), (.const (.slice none 0 0)), (.const (.int .i64 5)), (.const (.slice none 0 0)), (.const (.bool false)), (.const (.int .i64 3))]⟩, ⟨(some 4), none, .alloc 64 [(.slice none 0 0), (.int .i64 0), (.int .i64 0), (.int .i64 0), (.int .i64 0)]⟩, ⟨none, none, .store 5 (.tmp 4) (.tmp 15)⟩])
 (.seq (.reg [1, 3, 4] [⟨(some 16), none, .mv (.tmp 1)⟩, ⟨(some 17), none, .build [(.bool false), (.int .i64 0)] [(1, 1, (.const (.int .i64 1)))]⟩, ⟨(some 18), none, .bsl 50 2 [(.bool false), (.int .i64 0)] 1 [(0, 2, (.tmp 17))]⟩, ⟨(some 19), none, .call 34 [(.tmp 16), (.const (.int .i64 0)), (.tmp 18), (.const (.int .i64 5)), (.const (.slice none 0 0)), (.const (.bool false)), (.const (.int .i64 3))]⟩, ⟨(some 5), none, .alloc 64 [(.slice none 0 0), (.int .i64 0), (.int .i64 0), (.int .i64 0), (.int .i64 0)]⟩, ⟨none, none, .store 5 (.tmp 5) (.tmp 19)⟩])
 (.seq (.reg [3, 4, 5] [⟨(some 20), none, .mv (.tmp 3)⟩, ⟨(some 21), none, .mv (.tmp 20)⟩, ⟨(some 22), (some (21, true)), .fld 2 (.tmp 4)⟩, ⟨(some 23), (some (21, true)), .load 1 false (.tmp 22)⟩, ⟨(some 24), (some (21, true)), .bin .eql 3 (.tmp 23) (.const (.int .i64 1))⟩, ⟨(some 25), none, .pick (.tmp 21) (.tmp 24) (.const (.bool false))⟩, ⟨(some 26), none, .mv (.tmp 25)⟩, ⟨(some 27), (some (26, true)), .fld 1 (.tmp 4)⟩, ⟨(some 28), (some (26, true)), .load 1 false (.tmp 27)⟩, ⟨(some 29), (some (26, true)), .bin .eql 3 (.tmp 28) (.const (.int .i64 0))⟩, ⟨(some 30), none, .pick (.tmp 26) (.tmp 29) (.const (.bool false))⟩, ⟨(some 31), none, .mv (.tmp 30)⟩, ⟨(some 32), (some (31, true)), .fld 2 (.tmp 5)⟩, ⟨(some 33), (some (31, true)), .load 1 false (.tmp 32)⟩, ⟨(some 34), (some (31, true)), .bin .eql 3 (.tmp 33) (.const (.int .i64 1))⟩, ⟨(some 35), none, .pick (.tmp 31) (.tmp 34) (.const (.bool false))⟩, ⟨(some 36), none, .mv (.tmp 35)⟩, ⟨(some 37), (some (36, true)), .fld 1 (.tmp 5)⟩, ⟨(some 38), (some (36, true)), .load 1 false (.tmp 37)⟩, ⟨(some 39), (some (36, true)), .bin .eql 3 (.tmp 38) (.const (.int .i64 1))⟩, ⟨(some 40), none, .pick (.tmp 36) (.tmp 39) (.const (.bool false))⟩, ⟨(some 41), none, .mv (.tmp 40)⟩, ⟨(some 42), (some (41, true)), .fld 0 (.tmp 5)⟩, ⟨(some 43), (some (41, true)), .load 1 false (.tmp 42)⟩, ⟨(some 44), (some (41, true)), .len false (.tmp 43)⟩, ⟨(some 45), (some (41, true)), .bin .eql 3 (.tmp 44) (.const (.int .i64 1))⟩, ⟨(some 46), none, .pick (.tmp 41) (.tmp 45) (.const (.bool false))⟩, ⟨(some 0), none, .mv (.tmp 46)⟩])
 .ret)))))
theorem fn_waymarklaw21_alive : FnOk Try.prog 32 Try.f32 sc_waymarklaw21_alive [.tmp 0] 0 := ⟨Try.func32, by kernel_rfl, by kernel_rfl, by kernel_rfl, by kernel_rfl, by kernel_rfl, by kernel_rfl⟩

end Go.Proofs.Ytejmcijcdhoogaa
end

section
namespace Go.Proofs.Ytejmcijcdhoogaa
open Go Abs

end Go.Proofs.Ytejmcijcdhoogaa
end

section
namespace Go.Proofs.Ytejmcijcdhoogaa
open Go Abs

/- 29 waymark/waymarkref1.Ends: slots 0 g, 1 edge, 2 g, 3 edge, 7 l -/
def sc_waymarkref1_Ends : SCode :=
 (.seq (.reg [0, 1] [⟨(some 2), none, .box 24 (.tmp 0)⟩, ⟨(some 4), none, .mv (.const (.int .i64 0))⟩, ⟨(some 5), none, .mv (.const (.int .i64 0))⟩, ⟨(some 6), none, .mv (.const (.bool false))⟩])
 (.seq (.seq (.reg [1, 2] [⟨(some 8), none, .mv (.tmp 1)⟩, ⟨(some 9), none, .bin .lss 3 (.tmp 8) (.const (.int .i64 0))⟩, ⟨(some 10), none, .mv (.tmp 9)⟩, ⟨(some 11), (some (10, false)), .mv (.tmp 1)⟩, ⟨(some 12), (some (10, false)), .bin .quo 3 (.tmp 11) (.const (.int .i64 2))⟩, ⟨(some 13), (some (10, false)), .fld 1 (.tmp 2)⟩, ⟨(some 14), (some (10, false)), .load 1 false (.tmp 13)⟩, ⟨(some 15), (some (10, false)), .len false (.tmp 14)⟩, ⟨(some 16), (some (10, false)), .bin .geq 3 (.tmp 12) (.tmp 15)⟩, ⟨(some 17), none, .pick (.tmp 10) (.const (.bool true)) (.tmp 16)⟩])
 (.cond (.tmp 17) (.seq (.reg [] [⟨(some 4), none, .mv (.const (.int .i64 0))⟩, ⟨(some 5), none, .mv (.const (.int .i64 0))⟩, ⟨(some 6), none, .mv (.const (.bool false))⟩])
 .ret) .skip))
 (.seq (.reg [1, 2] [⟨(some 18), none, .fld 1 (.tmp 2)⟩, ⟨(some 19), none, .load 1 false (.tmp 18)⟩, ⟨(some 20), none, .mv (.tmp 1)⟩, ⟨(some 21), none, .bin .quo 3 (.tmp 20) (.const (.int .i64 2))⟩, ⟨(some 22), none, .ia none 4 (.tmp 19) (.tmp 21)⟩, ⟨(some 23), none, .load 4 true (.tmp 22)⟩, ⟨(some 7), none, .alloc 48 [(.int .i64 0), (.int .i64 0), (.int .i64 0), (.int .i64 0)]⟩, ⟨none, none, .store 4 (.tmp 7) (.tmp 23)⟩])
 (.seq (.seq (.reg [1, 7] [⟨(some 24), none, .mv (.tmp 1)⟩, ⟨(some 25), none, .bin .rem 3 (.tmp 24) (.const (.int .i64 2))⟩, ⟨(some 26), none, .bin .eql 3 (.tmp 25) (.const (.int .i64 1))⟩])
 (.cond (.tmp 26) (.seq (.draw [7] [⟨(some 27), none, .fld 1 (.tmp 7)⟩, ⟨(some 28), none, .load 1 false (.tmp 27)⟩, ⟨(some 29), none, .fld 0 (.tmp 7)⟩, ⟨(some 30), none, .load 1 false (.tmp 29)⟩, ⟨(some 4), none, .mv (.tmp 28)⟩, ⟨(some 5), none, .mv (.tmp 30)⟩, ⟨(some 6), none, .mv (.const (.bool true))⟩])
 .ret) .skip))
 (.seq (.draw [7] [⟨(some 31), none, .fld 0 (.tmp 7)⟩, ⟨(some 32), none, .load 1 false (.tmp 31)⟩, ⟨(some 33), none, .fld 1 (.tmp 7)⟩, ⟨(some 34), none, .load 1 false (.tmp 33)⟩, ⟨(some 4), none, .mv (.tmp 32)⟩, ⟨(some 5), none, .mv (.tmp 34)⟩, ⟨(some 6), none, .mv (.const (.bool true))⟩])
 .ret)))))
theorem fn_waymarkref1_Ends : FnOk Try.prog 29 Try.f29 sc_waymarkref1_Ends [.tmp 4, .tmp 5, .tmp 6] 2 := ⟨Try.func29, by kernel_rfl, by kernel_rfl, by kernel_rfl, by kernel_rfl, by kernel_rfl, by kernel_rfl⟩

/- loop of waymark/waymarkref1.From, wants [1, 3, 9, 11, 12] [] -/
def sc_waymarkref1_From_L0 : SCode :=
 (.seq (.seq (.reg [1, 3, 9, 11, 12] [⟨(some 46), none, .mv (.tmp 12)⟩, ⟨(some 47), none, .fld 1 (.tmp 3)⟩, ⟨(some 48), none, .load 1 false (.tmp 47)⟩, ⟨(some 49), none, .len false (.tmp 48)⟩, ⟨(some 50), none, .bin .mul 3 (.const (.int .i64 2)) (.tmp 49)⟩, ⟨(some 51), none, .bin .lss 3 (.tmp 46) (.tmp 50)⟩])
 (.cond (.tmp 51) .skip (.exit 4)))
 (.seq (.block 5 (.seq (.reg [1, 3, 9, 11, 12] [⟨(some 55), none, .load 2 true (.tmp 3)⟩, ⟨(some 56), none, .mv (.tmp 12)⟩, ⟨(some 57), none, .call 29 [(.tmp 55), (.tmp 56)]⟩, ⟨(some 54), none, .mv (.tmp 57)⟩, ⟨(some 58), none, .ext (.tmp 54) 0⟩, ⟨(some 59), none, .ext (.tmp 54) 1⟩, ⟨(some 60), none, .ext (.tmp 54) 2⟩, ⟨(some 13), none, .mv (.tmp 58)⟩, ⟨(some 14), none, .mv (.tmp 59)⟩, ⟨(some 15), none, .mv (.tmp 60)⟩])
 (.seq (.draw [1, 3, 9, 11, 12, 13, 14] [⟨(some 61), none, .mv (.tmp 9)⟩, ⟨(some 62), none, .mv (.tmp 13)⟩, ⟨(some 63), none, .ia none 1 (.tmp 61) (.tmp 62)⟩, ⟨(some 64), none, .load 1 false (.tmp 63)⟩, ⟨(some 65), none, .fld 1 (.tmp 3)⟩, ⟨(some 66), none, .load 1 false (.tmp 65)⟩, ⟨(some 67), none, .mv (.tmp 12)⟩, ⟨(some 68), none, .bin .quo 3 (.tmp 67) (.const (.int .i64 2))⟩, ⟨(some 69), none, .ia none 4 (.tmp 66) (.tmp 68)⟩, ⟨(some 70), none, .fld 2 (.tmp 69)⟩, ⟨(some 71), none, .load 1 false (.tmp 70)⟩, ⟨(some 72), none, .bin .add 3 (.tmp 64) (.tmp 71)⟩, ⟨(some 16), none, .mv (.tmp 72)⟩])
 (.seq (.reg [1, 3, 9, 11, 12, 13, 14, 16] [⟨(some 73), none, .mv (.tmp 9)⟩, ⟨(some 74), none, .mv (.tmp 13)⟩, ⟨(some 75), none, .ia none 1 (.tmp 73) (.tmp 74)⟩, ⟨(some 76), none, .load 1 false (.tmp 75)⟩, ⟨(some 77), none, .bin .geq 3 (.tmp 76) (.const (.int .i64 0))⟩, ⟨(some 78), none, .mv (.tmp 77)⟩, ⟨(some 79), (some (78, true)), .mv (.tmp 1)⟩, ⟨(some 80), (some (78, true)), .mv (.tmp 12)⟩, ⟨(some 81), (some (78, true)), .bin .quo 3 (.tmp 80) (.const (.int .i64 2))⟩, ⟨(some 82), (some (78, true)), .call 38 [(.tmp 79), (.tmp 81)]⟩, ⟨(some 83), (some (78, true)), .un .not (.tmp 82)⟩, ⟨(some 84), none, .pick (.tmp 78) (.tmp 83) (.const (.bool false))⟩, ⟨(some 85), none, .mv (.tmp 84)⟩, ⟨(some 86), (some (85, true)), .mv (.tmp 9)⟩, ⟨(some 87), (some (85, true)), .mv (.tmp 14)⟩, ⟨(some 88), (some (85, true)), .ia none 1 (.tmp 86) (.tmp 87)⟩, ⟨(some 89), (some (85, true)), .load 1 false (.tmp 88)⟩, ⟨(some 90), (some (85, true)), .bin .lss 3 (.tmp 89) (.const (.int .i64 0))⟩, ⟨(some 91), (some (85, true)), .mv (.tmp 90)⟩, ⟨(some 92), (some (91, false)), .mv (.tmp 16)⟩, ⟨(some 93), (some (91, false)), .mv (.tmp 9)⟩, ⟨(some 94), (some (91, false)), .mv (.tmp 14)⟩, ⟨(some 95), (some (91, false)), .ia none 1 (.tmp 93) (.tmp 94)⟩, ⟨(some 96), (some (91, false)), .load 1 false (.tmp 95)⟩, ⟨(some 97), (some (91, false)), .bin .lss 3 (.tmp 92) (.tmp 96)⟩, ⟨(some 98), (some (85, true)), .pick (.tmp 91) (.const (.bool true)) (.tmp 97)⟩, ⟨(some 99), none, .pick (.tmp 85) (.tmp 98) (.const (.bool false))⟩])
 (.cond (.tmp 99) (.seq (.reg [1, 3, 9, 12, 14, 16] [⟨(some 100), none, .mv (.tmp 9)⟩, ⟨(some 101), none, .mv (.tmp 14)⟩, ⟨(some 102), none, .mv (.tmp 16)⟩, ⟨(some 103), none, .ia none 1 (.tmp 100) (.tmp 101)⟩, ⟨none, none, .store 1 (.tmp 103) (.tmp 102)⟩])
 (.reg [1, 3, 9, 12] [⟨(some 11), none, .mv (.const (.bool true))⟩])) .skip)))))
 (.reg [1, 3, 9, 11, 12] [⟨(some 52), none, .mv (.tmp 12)⟩, ⟨(some 53), none, .bin .add 3 (.tmp 52) (.const (.int .i64 1))⟩, ⟨(some 12), none, .mv (.tmp 53)⟩])))
/- loop of waymark/waymarkref1.From, wants [1, 3, 9, 11] [] -/
def sc_waymarkref1_From_L1 : SCode :=
 (.seq (.seq (.reg [1, 3, 9, 11] [⟨(some 45), none, .mv (.tmp 11)⟩])
 (.cond (.tmp 45) .skip (.exit 2)))
 (.block 3 (.seq (.reg [1, 3, 9] [⟨(some 11), none, .mv (.const (.bool false))⟩])
 (.seq (.reg [1, 3, 9, 11] [⟨(some 12), none, .mv (.const (.int .i64 0))⟩])
 (.block 4 (.loop [1, 3, 9, 11, 12] [] sc_waymarkref1_From_L0))))))
/- loop of waymark/waymarkref1.From, wants [1, 2, 3, 9, 10] [] -/
def sc_waymarkref1_From_L2 : SCode :=
 (.seq (.seq (.reg [1, 2, 3, 9, 10] [⟨(some 33), none, .mv (.tmp 10)⟩, ⟨(some 34), none, .fld 0 (.tmp 3)⟩, ⟨(some 35), none, .load 1 false (.tmp 34)⟩, ⟨(some 36), none, .bin .lss 3 (.tmp 33) (.tmp 35)⟩])
 (.cond (.tmp 36) .skip (.exit 0)))
 (.seq (.block 1 (.reg [1, 2, 3, 9, 10] [⟨(some 39), none, .mv (.tmp 9)⟩, ⟨(some 40), none, .mv (.tmp 10)⟩, ⟨(some 41), none, .ia none 1 (.tmp 39) (.tmp 40)⟩, ⟨none, none, .store 1 (.tmp 41) (.const (.int .i64 (-1)))⟩]))
 (.reg [1, 2, 3, 9, 10] [⟨(some 37), none, .mv (.tmp 10)⟩, ⟨(some 38), none, .bin .add 3 (.tmp 37) (.const (.int .i64 1))⟩, ⟨(some 10), none, .mv (.tmp 38)⟩])))
/- 30 waymark/waymarkref1.From: slots 0 g, 1 down, 2 node, 3 g, 4 down, 5 node, 7 _, 8 e, 9 d, 10 i, 11 more, 12 k, 13 a, 14 b, 15 _, 16 n -/
def sc_waymarkref1_From : SCode :=
 (.seq (.reg [0, 1, 2] [⟨(some 3), none, .box 24 (.tmp 0)⟩, ⟨(some 6), none, .mv (.const (.slice none 0 0))⟩])
 (.seq (.reg [1, 2, 3] [⟨(some 18), none, .load 2 true (.tmp 3)⟩, ⟨(some 19), none, .call 58 [(.tmp 18)]⟩, ⟨(some 17), none, .mv (.tmp 19)⟩, ⟨(some 20), none, .ext (.tmp 17) 0⟩, ⟨(some 21), none, .ext (.tmp 17) 1⟩, ⟨(some 7), none, .mv (.tmp 20)⟩, ⟨(some 8), none, .mv (.tmp 21)⟩])
 (.seq (.seq (.reg [1, 2, 3, 8] [⟨(some 22), none, .mv (.tmp 8)⟩, ⟨(some 23), none, .bin .neq 3 (.tmp 22) (.const (.int .i64 0))⟩, ⟨(some 24), none, .mv (.tmp 23)⟩, ⟨(some 25), (some (24, false)), .load 2 true (.tmp 3)⟩, ⟨(some 26), (some (24, false)), .mv (.tmp 2)⟩, ⟨(some 27), (some (24, false)), .call 59 [(.tmp 25), (.tmp 26)]⟩, ⟨(some 28), (some (24, false)), .un .not (.tmp 27)⟩, ⟨(some 29), none, .pick (.tmp 24) (.const (.bool true)) (.tmp 28)⟩])
 (.cond (.tmp 29) (.seq (.reg [] [⟨(some 6), none, .mv (.const (.slice none 0 0))⟩])
 .ret) .skip))
 (.seq (.reg [1, 2, 3] [⟨(some 30), none, .fld 0 (.tmp 3)⟩, ⟨(some 31), none, .load 1 false (.tmp 30)⟩, ⟨(some 32), none, .mksl 3 1 8 [(.int .i64 0)] (.tmp 31) (.tmp 31)⟩, ⟨(some 9), none, .mv (.tmp 32)⟩])
 (.seq (.seq (.reg [1, 2, 3, 9] [⟨(some 10), none, .mv (.const (.int .i64 0))⟩])
 (.block 0 (.loop [1, 2, 3, 9, 10] [] sc_waymarkref1_From_L2)))
 (.seq (.reg [1, 2, 3, 9] [⟨(some 42), none, .mv (.tmp 9)⟩, ⟨(some 43), none, .mv (.tmp 2)⟩, ⟨(some 44), none, .ia none 1 (.tmp 42) (.tmp 43)⟩, ⟨none, none, .store 1 (.tmp 44) (.const (.int .i64 0))⟩])
 (.seq (.seq (.reg [1, 3, 9] [⟨(some 11), none, .mv (.const (.bool true))⟩])
 (.block 2 (.loop [1, 3, 9, 11] [] sc_waymarkref1_From_L1)))
 (.seq (.reg [9] [⟨(some 104), none, .mv (.tmp 9)⟩, ⟨(some 6), none, .mv (.tmp 104)⟩])
 .ret))))))))
theorem fn_waymarkref1_From : FnOk Try.prog 30 Try.f30 sc_waymarkref1_From [.tmp 6] 3 := ⟨Try.func30, by kernel_rfl, by kernel_rfl, by kernel_rfl, by kernel_rfl, by kernel_rfl, by kernel_rfl⟩

/- 38 waymark/waymarkref1.IsDown: slots 0 down, 1 i, 2 down, 3 i -/
def sc_waymarkref1_IsDown : SCode :=
 (.seq (.reg [0, 1] [⟨(some 4), none, .mv (.const (.bool false))⟩])
 (.seq (.reg [0, 1] [⟨(some 5), none, .mv (.tmp 1)⟩, ⟨(some 6), none, .bin .geq 3 (.tmp 5) (.const (.int .i64 0))⟩, ⟨(some 7), none, .mv (.tmp 6)⟩, ⟨(some 8), (some (7, true)), .mv (.tmp 1)⟩, ⟨(some 9), (some (7, true)), .mv (.tmp 0)⟩, ⟨(some 10), (some (7, true)), .len false (.tmp 9)⟩, ⟨(some 11), (some (7, true)), .bin .lss 3 (.tmp 8) (.tmp 10)⟩, ⟨(some 12), none, .pick (.tmp 7) (.tmp 11) (.const (.bool false))⟩, ⟨(some 13), none, .mv (.tmp 12)⟩, ⟨(some 14), (some (13, true)), .mv (.tmp 0)⟩, ⟨(some 15), (some (13, true)), .mv (.tmp 1)⟩, ⟨(some 16), (some (13, true)), .ia none 1 (.tmp 14) (.tmp 15)⟩, ⟨(some 17), (some (13, true)), .load 1 false (.tmp 16)⟩, ⟨(some 18), none, .pick (.tmp 13) (.tmp 17) (.const (.bool false))⟩, ⟨(some 4), none, .mv (.tmp 18)⟩])
 .ret))
theorem fn_waymarkref1_IsDown : FnOk Try.prog 38 Try.f38 sc_waymarkref1_IsDown [.tmp 4] 2 := ⟨Try.func38, by kernel_rfl, by kernel_rfl, by kernel_rfl, by kernel_rfl, by kernel_rfl, by kernel_rfl⟩

/- loop of waymark/waymarkref1.NewTables, wants [1, 6, 7] [] -/
def sc_waymarkref1_NewTables_L0 : SCode :=
 (.seq (.seq (.reg [1, 6, 7] [⟨(some 20), none, .mv (.tmp 7)⟩, ⟨(some 21), none, .fld 0 (.tmp 1)⟩, ⟨(some 22), none, .load 1 false (.tmp 21)⟩, ⟨(some 23), none, .bin .lss 3 (.tmp 20) (.tmp 22)⟩])
 (.cond (.tmp 23) .skip (.exit 0)))
 (.seq (.block 1 (.draw [1, 6, 7] [⟨(some 26), none, .mv (.tmp 6)⟩, ⟨(some 27), none, .mv (.tmp 6)⟩, ⟨(some 28), none, .nilc (.tmp 27)⟩, ⟨(some 29), none, .fld 2 (.tmp 28)⟩, ⟨(some 30), none, .hp (.load 1 false (.tmp 29))⟩, ⟨(some 31), none, .load 2 true (.tmp 1)⟩, ⟨(some 32), none, .mv (.tmp 7)⟩, ⟨(some 33), none, .call 30 [(.tmp 31), (.const (.slice none 0 0)), (.tmp 32)]⟩, ⟨(some 34), none, .bsl 25 1 [(.slice none 0 0)] 1 [(0, 1, (.tmp 33))]⟩, ⟨(some 35), none, .hp (.app 98 25 1 24 (.slice none 0 0) (.tmp 30) (.tmp 34))⟩, ⟨(some 36), none, .nilc (.tmp 26)⟩, ⟨(some 37), none, .fld 2 (.tmp 36)⟩, ⟨none, none, .store 1 (.tmp 37) (.tmp 35)⟩]))
 (.reg [1, 6, 7] [⟨(some 24), none, .mv (.tmp 7)⟩, ⟨(some 25), none, .bin .add 3 (.tmp 24) (.const (.int .i64 1))⟩, ⟨(some 7), none, .mv (.tmp 25)⟩])))
/- 40 waymark/waymarkref1.NewTables: slots 0 g, 1 g, 4 _, 5 e, 6 t, 7 i -/
def sc_waymarkref1_NewTables : SCode :=
 (.seq (.reg [0] [⟨(some 1), none, .box 24 (.tmp 0)⟩, ⟨(some 2), none, .mv (.const (.pointer none))⟩, ⟨(some 3), none, .mv (.const (.int .i64 0))⟩])
 (.seq (.reg [1] [⟨(some 9), none, .load 2 true (.tmp 1)⟩, ⟨(some 10), none, .call 58 [(.tmp 9)]⟩, ⟨(some 8), none, .mv (.tmp 10)⟩, ⟨(some 11), none, .ext (.tmp 8) 0⟩, ⟨(some 12), none, .ext (.tmp 8) 1⟩, ⟨(some 4), none, .mv (.tmp 11)⟩, ⟨(some 5), none, .mv (.tmp 12)⟩])
 (.seq (.seq (.reg [1, 5] [⟨(some 13), none, .mv (.tmp 5)⟩, ⟨(some 14), none, .bin .neq 3 (.tmp 13) (.const (.int .i64 0))⟩])
 (.cond (.tmp 14) (.seq (.reg [5] [⟨(some 15), none, .mv (.tmp 5)⟩, ⟨(some 2), none, .mv (.const (.pointer none))⟩, ⟨(some 3), none, .mv (.tmp 15)⟩])
 .ret) .skip))
 (.seq (.reg [1] [⟨(some 16), none, .load 2 true (.tmp 1)⟩, ⟨(some 17), none, .call 69 [(.tmp 16)]⟩, ⟨(some 18), none, .build [(.int .i64 0), (.slice none 0 0), (.slice none 0 0)] [(0, 2, (.tmp 17))]⟩, ⟨(some 19), none, .hp (.box 100 (.tmp 18))⟩, ⟨(some 6), none, .mv (.tmp 19)⟩])
 (.seq (.seq (.reg [1, 6] [⟨(some 7), none, .mv (.const (.int .i64 0))⟩])
 (.block 0 (.loop [1, 6, 7] [] sc_waymarkref1_NewTables_L0)))
 (.seq (.reg [6] [⟨(some 38), none, .mv (.tmp 6)⟩, ⟨(some 2), none, .mv (.tmp 38)⟩, ⟨(some 3), none, .mv (.const (.int .i64 0))⟩])
 .ret))))))
theorem fn_waymarkref1_NewTables : FnOk Try.prog 40 Try.f40 sc_waymarkref1_NewTables [.tmp 2, .tmp 3] 1 := ⟨Try.func40, by kernel_rfl, by kernel_rfl, by kernel_rfl, by kernel_rfl, by kernel_rfl, by kernel_rfl⟩

/- loop of waymark/waymarkref1.Check, wants [1, 4] [] -/
def sc_waymarkref1_Check_L0 : SCode :=
 (.seq (.seq (.reg [1, 4] [⟨(some 18), none, .mv (.tmp 4)⟩, ⟨(some 19), none, .fld 1 (.tmp 1)⟩, ⟨(some 20), none, .load 1 false (.tmp 19)⟩, ⟨(some 21), none, .len false (.tmp 20)⟩, ⟨(some 22), none, .bin .lss 3 (.tmp 18) (.tmp 21)⟩])
 (.cond (.tmp 22) .skip (.exit 0)))
 (.seq (.block 1 (.seq (.reg [1, 4] [⟨(some 25), none, .fld 1 (.tmp 1)⟩, ⟨(some 26), none, .load 1 false (.tmp 25)⟩, ⟨(some 27), none, .mv (.tmp 4)⟩, ⟨(some 28), none, .ia none 4 (.tmp 26) (.tmp 27)⟩, ⟨(some 29), none, .load 4 true (.tmp 28)⟩, ⟨(some 5), none, .alloc 48 [(.int .i64 0), (.int .i64 0), (.int .i64 0), (.int .i64 0)]⟩, ⟨none, none, .store 4 (.tmp 5) (.tmp 29)⟩])
 (.seq (.seq (.reg [1, 4, 5] [⟨(some 30), none, .fld 0 (.tmp 5)⟩, ⟨(some 31), none, .load 1 false (.tmp 30)⟩, ⟨(some 32), none, .bin .lss 3 (.tmp 31) (.const (.int .i64 0))⟩, ⟨(some 33), none, .mv (.tmp 32)⟩, ⟨(some 34), (some (33, false)), .fld 0 (.tmp 5)⟩, ⟨(some 35), (some (33, false)), .load 1 false (.tmp 34)⟩, ⟨(some 36), (some (33, false)), .fld 0 (.tmp 1)⟩, ⟨(some 37), (some (33, false)), .load 1 false (.tmp 36)⟩, ⟨(some 38), (some (33, false)), .bin .geq 3 (.tmp 35) (.tmp 37)⟩, ⟨(some 39), none, .pick (.tmp 33) (.const (.bool true)) (.tmp 38)⟩, ⟨(some 40), none, .mv (.tmp 39)⟩, ⟨(some 41), (some (40, false)), .fld 1 (.tmp 5)⟩, ⟨(some 42), (some (40, false)), .load 1 false (.tmp 41)⟩, ⟨(some 43), (some (40, false)), .bin .lss 3 (.tmp 42) (.const (.int .i64 0))⟩, ⟨(some 44), none, .pick (.tmp 40) (.const (.bool true)) (.tmp 43)⟩, ⟨(some 45), none, .mv (.tmp 44)⟩, ⟨(some 46), (some (45, false)), .fld 1 (.tmp 5)⟩, ⟨(some 47), (some (45, false)), .load 1 false (.tmp 46)⟩, ⟨(some 48), (some (45, false)), .fld 0 (.tmp 1)⟩, ⟨(some 49), (some (45, false)), .load 1 false (.tmp 48)⟩, ⟨(some 50), (some (45, false)), .bin .geq 3 (.tmp 47) (.tmp 49)⟩, ⟨(some 51), none, .pick (.tmp 45) (.const (.bool true)) (.tmp 50)⟩, ⟨(some 52), none, .mv (.tmp 51)⟩, ⟨(some 53), (some (52, false)), .fld 0 (.tmp 5)⟩, ⟨(some 54), (some (52, false)), .load 1 false (.tmp 53)⟩, ⟨(some 55), (some (52, false)), .fld 1 (.tmp 5)⟩, ⟨(some 56), (some (52, false)), .load 1 false (.tmp 55)⟩, ⟨(some 57), (some (52, false)), .bin .eql 3 (.tmp 54) (.tmp 56)⟩, ⟨(some 58), none, .pick (.tmp 52) (.const (.bool true)) (.tmp 57)⟩])
 (.cond (.tmp 58) (.seq (.reg [4] [⟨(some 59), none, .mv (.tmp 4)⟩, ⟨(some 2), none, .mv (.tmp 59)⟩, ⟨(some 3), none, .mv (.const (.int .i64 4))⟩])
 .ret) .skip))
 (.seq (.reg [1, 4, 5] [⟨(some 60), none, .fld 2 (.tmp 5)⟩, ⟨(some 61), none, .load 1 false (.tmp 60)⟩, ⟨(some 62), none, .bin .lss 3 (.tmp 61) (.const (.int .i64 1))⟩, ⟨(some 63), none, .mv (.tmp 62)⟩, ⟨(some 64), (some (63, false)), .fld 2 (.tmp 5)⟩, ⟨(some 65), (some (63, false)), .load 1 false (.tmp 64)⟩, ⟨(some 66), (some (63, false)), .bin .gtr 3 (.tmp 65) (.const (.int .i64 16777216))⟩, ⟨(some 67), none, .pick (.tmp 63) (.const (.bool true)) (.tmp 66)⟩, ⟨(some 68), none, .mv (.tmp 67)⟩, ⟨(some 69), (some (68, false)), .fld 3 (.tmp 5)⟩, ⟨(some 70), (some (68, false)), .load 1 false (.tmp 69)⟩, ⟨(some 71), (some (68, false)), .bin .lss 3 (.tmp 70) (.const (.int .i64 0))⟩, ⟨(some 72), none, .pick (.tmp 68) (.const (.bool true)) (.tmp 71)⟩, ⟨(some 73), none, .mv (.tmp 72)⟩, ⟨(some 74), (some (73, false)), .fld 3 (.tmp 5)⟩, ⟨(some 75), (some (73, false)), .load 1 false (.tmp 74)⟩, ⟨(some 76), (some (73, false)), .bin .gtr 3 (.tmp 75) (.const (.int .i64 62))⟩, ⟨(some 77), none, .pick (.tmp 73) (.const (.bool true)) (.tmp 76)⟩])
 (.cond (.tmp 77) (.seq (.reg [4] [⟨(some 78), none, .mv (.tmp 4)⟩, ⟨(some 2), none, .mv (.tmp 78)⟩, ⟨(some 3), none, .mv (.const (.int .i64 1))⟩])
 .ret) .skip)))))
 (.reg [1, 4] [⟨(some 23), none, .mv (.tmp 4)⟩, ⟨(some 24), none, .bin .add 3 (.tmp 23) (.const (.int .i64 1))⟩, ⟨(some 4), none, .mv (.tmp 24)⟩])))
/- 58 waymark/waymarkref1.Check: slots 0 g, 1 g, 4 i, 5 l -/
def sc_waymarkref1_Check : SCode :=
 (.seq (.reg [0] [⟨(some 1), none, .box 24 (.tmp 0)⟩, ⟨(some 2), none, .mv (.const (.int .i64 0))⟩, ⟨(some 3), none, .mv (.const (.int .i64 0))⟩])
 (.seq (.seq (.reg [1] [⟨(some 6), none, .fld 1 (.tmp 1)⟩, ⟨(some 7), none, .load 1 false (.tmp 6)⟩, ⟨(some 8), none, .len false (.tmp 7)⟩, ⟨(some 9), none, .bin .gtr 3 (.tmp 8) (.const (.int .i64 120))⟩])
 (.cond (.tmp 9) (.seq (.reg [] [⟨(some 2), none, .mv (.const (.int .i64 (-1)))⟩, ⟨(some 3), none, .mv (.const (.int .i64 6))⟩])
 .ret) .skip))
 (.seq (.seq (.reg [1] [⟨(some 10), none, .fld 0 (.tmp 1)⟩, ⟨(some 11), none, .load 1 false (.tmp 10)⟩, ⟨(some 12), none, .bin .lss 3 (.tmp 11) (.const (.int .i64 1))⟩, ⟨(some 13), none, .mv (.tmp 12)⟩, ⟨(some 14), (some (13, false)), .fld 0 (.tmp 1)⟩, ⟨(some 15), (some (13, false)), .load 1 false (.tmp 14)⟩, ⟨(some 16), (some (13, false)), .bin .gtr 3 (.tmp 15) (.const (.int .i64 40))⟩, ⟨(some 17), none, .pick (.tmp 13) (.const (.bool true)) (.tmp 16)⟩])
 (.cond (.tmp 17) (.seq (.reg [] [⟨(some 2), none, .mv (.const (.int .i64 (-1)))⟩, ⟨(some 3), none, .mv (.const (.int .i64 1))⟩])
 .ret) .skip))
 (.seq (.seq (.reg [1] [⟨(some 4), none, .mv (.const (.int .i64 0))⟩])
 (.block 0 (.loop [1, 4] [] sc_waymarkref1_Check_L0)))
 (.seq (.reg [] [⟨(some 2), none, .mv (.const (.int .i64 (-1)))⟩, ⟨(some 3), none, .mv (.const (.int .i64 0))⟩])
 .ret)))))
theorem fn_waymarkref1_Check : FnOk Try.prog 58 Try.f58 sc_waymarkref1_Check [.tmp 2, .tmp 3] 1 := ⟨Try.func58, by kernel_rfl, by kernel_rfl, by kernel_rfl, by kernel_rfl, by kernel_rfl, by kernel_rfl⟩

/- 59 waymark/waymarkref1.Node: slots 0 g, 1 n, 2 g, 3 n -/
def sc_waymarkref1_Node : SCode :=
 (.seq (.reg [0, 1] [⟨(some 2), none, .box 24 (.tmp 0)⟩, ⟨(some 4), none, .mv (.const (.bool false))⟩])
 (.seq (.reg [1, 2] [⟨(some 5), none, .mv (.tmp 1)⟩, ⟨(some 6), none, .bin .geq 3 (.tmp 5) (.const (.int .i64 0))⟩, ⟨(some 7), none, .mv (.tmp 6)⟩, ⟨(some 8), (some (7, true)), .mv (.tmp 1)⟩, ⟨(some 9), (some (7, true)), .fld 0 (.tmp 2)⟩, ⟨(some 10), (some (7, true)), .load 1 false (.tmp 9)⟩, ⟨(some 11), (some (7, true)), .bin .lss 3 (.tmp 8) (.tmp 10)⟩, ⟨(some 12), none, .pick (.tmp 7) (.tmp 11) (.const (.bool false))⟩, ⟨(some 4), none, .mv (.tmp 12)⟩])
 .ret))
theorem fn_waymarkref1_Node : FnOk Try.prog 59 Try.f59 sc_waymarkref1_Node [.tmp 4] 2 := ⟨Try.func59, by kernel_rfl, by kernel_rfl, by kernel_rfl, by kernel_rfl, by kernel_rfl, by kernel_rfl⟩

/- loop of waymark/waymarkref1.SameInts, wants [0, 1, 5] [] -/
def sc_waymarkref1_SameInts_L0 : SCode :=
 (.seq (.seq (.reg [0, 1, 5] [⟨(some 11), none, .mv (.tmp 5)⟩, ⟨(some 12), none, .mv (.tmp 0)⟩, ⟨(some 13), none, .len false (.tmp 12)⟩, ⟨(some 14), none, .bin .lss 3 (.tmp 11) (.tmp 13)⟩])
 (.cond (.tmp 14) .skip (.exit 0)))
 (.seq (.block 1 (.seq (.draw [0, 1, 5] [⟨(some 17), none, .mv (.tmp 0)⟩, ⟨(some 18), none, .mv (.tmp 5)⟩, ⟨(some 19), none, .ia none 1 (.tmp 17) (.tmp 18)⟩, ⟨(some 20), none, .load 1 false (.tmp 19)⟩, ⟨(some 21), none, .mv (.tmp 1)⟩, ⟨(some 22), none, .mv (.tmp 5)⟩, ⟨(some 23), none, .ia none 1 (.tmp 21) (.tmp 22)⟩, ⟨(some 24), none, .load 1 false (.tmp 23)⟩, ⟨(some 25), none, .bin .neq 3 (.tmp 20) (.tmp 24)⟩])
 (.cond (.tmp 25) (.seq (.reg [] [⟨(some 4), none, .mv (.const (.bool false))⟩])
 .ret) .skip)))
 (.reg [0, 1, 5] [⟨(some 15), none, .mv (.tmp 5)⟩, ⟨(some 16), none, .bin .add 3 (.tmp 15) (.const (.int .i64 1))⟩, ⟨(some 5), none, .mv (.tmp 16)⟩])))
/- 61 waymark/waymarkref1.SameInts: slots 0 a, 1 b, 2 a, 3 b, 5 i -/
def sc_waymarkref1_SameInts : SCode :=
 (.seq (.reg [0, 1] [⟨(some 4), none, .mv (.const (.bool false))⟩])
 (.seq (.seq (.reg [0, 1] [⟨(some 6), none, .mv (.tmp 0)⟩, ⟨(some 7), none, .len false (.tmp 6)⟩, ⟨(some 8), none, .mv (.tmp 1)⟩, ⟨(some 9), none, .len false (.tmp 8)⟩, ⟨(some 10), none, .bin .neq 3 (.tmp 7) (.tmp 9)⟩])
 (.cond (.tmp 10) (.seq (.reg [] [⟨(some 4), none, .mv (.const (.bool false))⟩])
 .ret) .skip))
 (.seq (.seq (.reg [0, 1] [⟨(some 5), none, .mv (.const (.int .i64 0))⟩])
 (.block 0 (.loop [0, 1, 5] [] sc_waymarkref1_SameInts_L0)))
 (.seq (.reg [] [⟨(some 4), none, .mv (.const (.bool true))⟩])
 .ret))))
theorem fn_waymarkref1_SameInts : FnOk Try.prog 61 Try.f61 sc_waymarkref1_SameInts [.tmp 4] 2 := ⟨Try.func61, by kernel_rfl, by kernel_rfl, by kernel_rfl, by kernel_rfl, by kernel_rfl, by kernel_rfl⟩

/- 69 waymark/waymarkref1.CopyGraph: slots 0 g, 1 g -/
def sc_waymarkref1_CopyGraph : SCode :=
 (.seq (.reg [0] [⟨(some 1), none, .box 24 (.tmp 0)⟩, ⟨(some 2), none, .alloc 24 [(.int .i64 0), (.slice none 0 0)]⟩])
 (.seq (.reg [1, 2] [⟨(some 3), none, .fld 1 (.tmp 1)⟩, ⟨(some 4), none, .load 1 false (.tmp 3)⟩, ⟨(some 5), none, .hp (.app 22 48 4 32 (.agg #[(.int .i64 0), (.int .i64 0), (.int .i64 0), (.int .i64 0)]) (.const (.slice none 0 0)) (.tmp 4))⟩, ⟨(some 6), none, .fld 1 (.tmp 1)⟩, ⟨none, none, .store 1 (.tmp 6) (.tmp 5)⟩])
 (.seq (.reg [1, 2] [⟨(some 7), none, .load 2 true (.tmp 1)⟩, ⟨none, none, .store 2 (.tmp 2) (.tmp 7)⟩])
 .ret)))
theorem fn_waymarkref1_CopyGraph : FnOk Try.prog 69 Try.f69 sc_waymarkref1_CopyGraph [.cell 2 2 true] 1 := ⟨Try.func69, by kernel_rfl, by kernel_rfl, by kernel_rfl, by kernel_rfl, by kernel_rfl, by kernel_rfl⟩

end Go.Proofs.Ytejmcijcdhoogaa
end

section
namespace Go.Proofs.Ytejmcijcdhoogaa
open Go Abs

end Go.Proofs.Ytejmcijcdhoogaa
end

section
namespace Go.Proofs.Ytejmcijcdhoogaa
open Go Abs

/- 33 waymark/waymarkref15.SameWalk: slots 0 a, 1 b, 2 a, 3 b -/
def sc_waymarkref15_SameWalk : SCode :=
 (.seq (.reg [0, 1] [⟨(some 2), none, .box 64 (.tmp 0)⟩, ⟨(some 3), none, .box 64 (.tmp 1)⟩, ⟨(some 4), none, .mv (.const (.bool false))⟩])
 (.seq (.reg [2, 3] [⟨(some 5), none, .fld 1 (.tmp 2)⟩, ⟨(some 6), none, .load 1 false (.tmp 5)⟩, ⟨(some 7), none, .fld 1 (.tmp 3)⟩, ⟨(some 8), none, .load 1 false (.tmp 7)⟩, ⟨(some 9), none, .bin .eql 3 (.tmp 6) (.tmp 8)⟩, ⟨(some 10), none, .mv (.tmp 9)⟩, ⟨(some 11), (some (10, true)), .fld 2 (.tmp 2)⟩, ⟨(some 12), (some (10, true)), .load 1 false (.tmp 11)⟩, ⟨(some 13), (some (10, true)), .fld 2 (.tmp 3)⟩, ⟨(some 14), (some (10, true)), .load 1 false (.tmp 13)⟩, ⟨(some 15), (some (10, true)), .bin .eql 3 (.tmp 12) (.tmp 14)⟩, ⟨(some 16), none, .pick (.tmp 10) (.tmp 15) (.const (.bool false))⟩, ⟨(some 17), none, .mv (.tmp 16)⟩, ⟨(some 18), (some (17, true)), .fld 3 (.tmp 2)⟩, ⟨(some 19), (some (17, true)), .load 1 false (.tmp 18)⟩, ⟨(some 20), (some (17, true)), .fld 3 (.tmp 3)⟩, ⟨(some 21), (some (17, true)), .load 1 false (.tmp 20)⟩, ⟨(some 22), (some (17, true)), .bin .eql 3 (.tmp 19) (.tmp 21)⟩, ⟨(some 23), none, .pick (.tmp 17) (.tmp 22) (.const (.bool false))⟩, ⟨(some 24), none, .mv (.tmp 23)⟩, ⟨(some 25), (some (24, true)), .fld 4 (.tmp 2)⟩, ⟨(some 26), (some (24, true)), .load 1 false (.tmp 25)⟩, ⟨(some 27), (some (24, true)), .fld 4 (.tmp 3)⟩, ⟨(some 28), (some (24, true)), .load 1 false (.tmp 27)⟩, ⟨(some 29), (some (24, true)), .bin .eql 3 (.tmp 26) (.tmp 28)⟩, ⟨(some 30), none, .pick (.tmp 24) (.tmp 29) (.const (.bool false))⟩, ⟨(some 31), none, .mv (.tmp 30)⟩, ⟨(some 32), (some (31, true)), .fld 0 (.tmp 2)⟩, ⟨(some 33), (some (31, true)), .load 1 false (.tmp 32)⟩, ⟨(some 34), (some (31, true)), .fld 0 (.tmp 3)⟩, ⟨(some 35), (some (31, true)), .load 1 false (.tmp 34)⟩, ⟨(some 36), (some (31, true)), .call 61 [(.tmp 33), (.tmp 35)]⟩, ⟨(some 37), none, .pick (.tmp 31) (.tmp 36) (.const (.bool false))⟩, ⟨(some 4), none, .mv (.tmp 37)⟩])
 .ret))
theorem fn_waymarkref15_SameWalk : FnOk Try.prog 33 Try.f33 sc_waymarkref15_SameWalk [.tmp 4] 2 := ⟨Try.func33, by kernel_rfl, by kernel_rfl, by kernel_rfl, by kernel_rfl, by kernel_rfl, by kernel_rfl⟩

end Go.Proofs.Ytejmcijcdhoogaa
end
