import Derived.Test.YtejmcijcdhoogaaProg
import Derived.Test.YtejmcijcdhoogaaAbsG
set_option maxRecDepth 100000
section
namespace Go.Proofs.Ytejmcijcdhoogaa
open Go Abs

def sc_compile_List_L0 : SCode :=
 (.seq (.reg [12, 13, 17, 19, 55, 56, 57, 63, 64, 65] [⟨some 66, none, .bin .lss 3 (.tmp 65) (.tmp 64)⟩])
 (.seq (.cond (.tmp 66) .skip (.exit 2))
 (.seq (.block 3 (.seq (.reg [12, 13, 17, 19, 55, 56, 57, 63, 64, 65] [⟨some 67, none, .ia none 4 (.tmp 63) (.tmp 65)⟩, ⟨some 68, none, .load 4 true (.tmp 67)⟩, ⟨some 21, none, .alloc 96 [(.bool false), (.int .i64 0), (.int .i64 0), (.int .i64 0)]⟩, ⟨none, none, .store 4 (.tmp 21) (.tmp 68)⟩])
 (.seq (.reg [12, 13, 17, 19, 21, 55, 56, 57, 63, 64, 65] [⟨some 69, none, .mv (.tmp 19)⟩, ⟨some 70, none, .fld 2 (.tmp 21)⟩, ⟨some 71, none, .load 2 true (.tmp 70)⟩, ⟨some 72, none, .lk (.a 2 .i64) (.bool false) false (.tmp 69) (.tmp 71)⟩])
 (.cond (.tmp 72) (.seq (.reg [12, 13, 17, 21, 55, 56, 57] [⟨some 73, none, .mv (.tmp 17)⟩, ⟨some 74, none, .fld 0 (.tmp 21)⟩, ⟨some 75, none, .load 2 true (.tmp 74)⟩, ⟨some 76, none, .bsl 50 2 [(.bool false), (.int .i64 0)] 1 [(0, 2, (.tmp 75))]⟩, ⟨some 77, none, .app 36 50 2 16 (.agg #[(.bool false), (.int .i64 0)]) (.tmp 73) (.tmp 76)⟩, ⟨some 17, none, .mv (.tmp 77)⟩])
 (.seq (.reg [12, 13, 17, 21, 55, 56, 57] [⟨some 78, none, .fld 2 (.tmp 21)⟩, ⟨some 79, none, .load 2 true (.tmp 78)⟩, ⟨none, none, .store 2 (.tmp 13) (.tmp 79)⟩])
 (.exit 2))) .skip))))
 (.reg [12, 13, 17, 19, 55, 56, 57, 63, 64, 65] [⟨some 80, none, .bin .add 3 (.tmp 65) (.const (.int .i64 1))⟩, ⟨some 65, none, .mv (.tmp 80)⟩]))))
def sc_compile_List_L1 : SCode :=
 (.seq (.reg [12, 13, 17, 55, 56, 57] [⟨some 58, none, .bin .lss 3 (.tmp 57) (.tmp 56)⟩])
 (.seq (.cond (.tmp 58) .skip (.exit 0))
 (.seq (.block 1 (.seq (.reg [12, 13, 17, 55, 56, 57] [⟨some 59, none, .ia none 1 (.tmp 55) (.tmp 57)⟩, ⟨some 60, none, .load 1 false (.tmp 59)⟩, ⟨some 19, none, .mv (.tmp 60)⟩])
 (.seq (.reg [12, 13, 17, 19, 55, 56, 57] [⟨some 61, none, .mv (.tmp 12)⟩, ⟨some 62, none, .load 2 true (.tmp 13)⟩, ⟨some 63, none, .call 46 [(.tmp 61), (.tmp 62)]⟩, ⟨some 64, none, .len false (.tmp 63)⟩, ⟨some 65, none, .mv (.const (.int .i64 0))⟩])
 (.block 2 (.loop [12, 13, 17, 19, 55, 56, 57, 63, 64, 65] [(17, 77, 50, 2)] sc_compile_List_L0)))))
 (.reg [12, 13, 17, 55, 56, 57] [⟨some 81, none, .bin .add 3 (.tmp 57) (.const (.int .i64 1))⟩, ⟨some 57, none, .mv (.tmp 81)⟩]))))
def sc_compile_List : SCode :=
 (.seq (.reg [0, 1, 2, 3] [⟨some 5, none, .box 27 (.tmp 1)⟩, ⟨some 8, none, .mv (.const (.slice none 0 0))⟩, ⟨some 9, none, .mv (.const (.int .i64 0))⟩])
 (.seq (.reg [0, 2, 3, 5] [⟨some 23, none, .mv (.tmp 0)⟩, ⟨some 24, none, .load 7 true (.tmp 5)⟩, ⟨some 25, none, .mv (.tmp 2)⟩, ⟨some 26, none, .call 41 [(.tmp 23), (.tmp 24), (.tmp 25)]⟩, ⟨some 22, none, .mv (.tmp 26)⟩, ⟨some 27, none, .ext (.tmp 22) 0⟩, ⟨some 28, none, .ext (.tmp 22) 1⟩, ⟨some 10, none, .mv (.tmp 27)⟩, ⟨some 11, none, .mv (.tmp 28)⟩])
 (.seq (.seq (.reg [3, 5, 10, 11] [⟨some 29, none, .mv (.tmp 11)⟩, ⟨some 30, none, .bin .neq 37 (.tmp 29) (.const (.int .i64 0))⟩])
 (.cond (.tmp 30) (.seq (.reg [11] [⟨some 31, none, .mv (.tmp 11)⟩, ⟨some 8, none, .mv (.const (.slice none 0 0))⟩, ⟨some 9, none, .mv (.tmp 31)⟩])
 .ret) .skip))
 (.seq (.reg [3, 5, 10] [⟨some 32, none, .mv (.tmp 10)⟩, ⟨some 33, none, .load 7 true (.tmp 5)⟩, ⟨some 34, none, .call 42 [(.tmp 33)]⟩, ⟨some 35, none, .hp (.mkmap (.a 2 .i64))⟩, ⟨some 36, none, .build [(.pointer none), (.int .i64 0), (.int .i64 0), (.map none)] [(0, 1, (.tmp 32)), (1, 2, (.tmp 34)), (3, 1, (.tmp 35))]⟩, ⟨some 37, none, .box 86 (.tmp 36)⟩, ⟨some 12, none, .mv (.tmp 37)⟩])
 (.seq (.reg [3, 5, 12] [⟨some 38, none, .load 7 true (.tmp 5)⟩, ⟨some 39, none, .call 43 [(.tmp 38)]⟩, ⟨some 13, none, .alloc 82 [(.int .i64 0), (.int .i64 0)]⟩, ⟨none, none, .store 2 (.tmp 13) (.tmp 39)⟩])
 (.seq (.reg [3, 12, 13] [⟨some 41, none, .mv (.tmp 12)⟩, ⟨some 42, none, .load 2 true (.tmp 13)⟩, ⟨some 43, none, .mv (.tmp 3)⟩, ⟨some 44, none, .mnx false (.tmp 43) (.const (.int .i64 10))⟩, ⟨some 45, none, .mnx true (.const (.int .i64 0)) (.tmp 44)⟩, ⟨some 46, none, .call 44 [(.tmp 41), (.tmp 42), (.tmp 45)]⟩, ⟨some 40, none, .mv (.tmp 46)⟩, ⟨some 47, none, .ext (.tmp 40) 0⟩, ⟨some 48, none, .ext (.tmp 40) 1⟩, ⟨some 14, none, .mv (.tmp 47)⟩, ⟨some 15, none, .mv (.tmp 48)⟩])
 (.seq (.seq (.reg [12, 13, 14, 15] [⟨some 49, none, .mv (.tmp 15)⟩, ⟨some 50, none, .un .not (.tmp 49)⟩])
 (.cond (.tmp 50) (.seq (.reg [] [⟨some 8, none, .mv (.const (.slice none 0 0))⟩, ⟨some 9, none, .mv (.const (.int .i64 9))⟩])
 .ret) .skip))
 (.seq (.reg [12, 13, 14] [⟨some 51, none, .mv (.tmp 12)⟩, ⟨some 52, none, .mv (.tmp 14)⟩, ⟨some 53, none, .call 45 [(.tmp 51), (.tmp 52)]⟩, ⟨some 16, none, .mv (.tmp 53)⟩])
 (.seq (.reg [12, 13, 16] [⟨some 17, none, .mv (.const (.slice none 0 0))⟩])
 (.seq (.seq (.reg [12, 13, 16, 17] [⟨some 54, none, .mv (.tmp 16)⟩, ⟨some 55, none, .slc (some 1) (.tmp 54) (some (.const (.int .i64 1))) none none⟩, ⟨some 56, none, .len false (.tmp 55)⟩, ⟨some 57, none, .mv (.const (.int .i64 0))⟩])
 (.block 0 (.loop [12, 13, 17, 55, 56, 57] [(17, 77, 50, 2)] sc_compile_List_L1)))
 (.seq (.reg [17] [⟨some 82, none, .mv (.tmp 17)⟩, ⟨some 8, none, .mv (.tmp 82)⟩, ⟨some 9, none, .mv (.const (.int .i64 0))⟩])
 .ret)))))))))))
theorem fn_compile_List : FnOk Try.prog 20 Try.f20 sc_compile_List [.tmp 8, .tmp 9] 4 := ⟨Try.func20, by kernel_rfl, by kernel_rfl, by kernel_rfl, by kernel_rfl, by kernel_rfl, by kernel_rfl⟩

def sc_compile_search_rounds_L0 : SCode :=
 (.seq (.reg [0, 2, 8, 9, 10, 11, 37, 38, 39, 45, 46, 47] [⟨some 48, none, .bin .lss 3 (.tmp 47) (.tmp 46)⟩])
 (.seq (.cond (.tmp 48) .skip (.exit 4))
 (.seq (.block 5 (.seq (.reg [0, 2, 8, 9, 10, 11, 37, 38, 39, 45, 46, 47] [⟨some 49, none, .ia none 4 (.tmp 45) (.tmp 47)⟩, ⟨some 50, none, .load 4 true (.tmp 49)⟩, ⟨some 15, none, .alloc 96 [(.bool false), (.int .i64 0), (.int .i64 0), (.int .i64 0)]⟩, ⟨none, none, .store 4 (.tmp 15) (.tmp 50)⟩])
 (.seq (.reg [0, 2, 8, 9, 10, 11, 15, 37, 38, 39, 45, 46, 47] [⟨some 51, none, .mv (.tmp 8)⟩, ⟨some 52, none, .fld 2 (.tmp 15)⟩, ⟨some 53, none, .load 2 true (.tmp 52)⟩, ⟨some 54, none, .lk (.a 2 .i64) (.bool false) false (.tmp 51) (.tmp 53)⟩, ⟨some 55, none, .un .not (.tmp 54)⟩])
 (.cond (.tmp 55) (.seq (.reg [0, 2, 8, 9, 10, 11, 15, 37, 38, 39, 45, 46, 47] [⟨some 56, none, .mv (.tmp 8)⟩, ⟨some 57, none, .fld 2 (.tmp 15)⟩, ⟨some 58, none, .load 2 true (.tmp 57)⟩, ⟨none, none, .hp (.mset (.a 2 .i64) (.tmp 56) (.tmp 58) (.const (.bool true)))⟩])
 (.reg [0, 2, 8, 9, 10, 11, 15, 37, 38, 39, 45, 46, 47] [⟨some 59, none, .mv (.tmp 11)⟩, ⟨some 60, none, .fld 2 (.tmp 15)⟩, ⟨some 61, none, .load 2 true (.tmp 60)⟩, ⟨some 62, none, .bsl 82 2 [(.int .i64 0), (.int .i64 0)] 1 [(0, 2, (.tmp 61))]⟩, ⟨some 63, none, .app 105 82 2 16 (.agg #[(.int .i64 0), (.int .i64 0)]) (.tmp 59) (.tmp 62)⟩, ⟨some 11, none, .mv (.tmp 63)⟩])) .skip))))
 (.reg [0, 2, 8, 9, 10, 11, 37, 38, 39, 45, 46, 47] [⟨some 64, none, .bin .add 3 (.tmp 47) (.const (.int .i64 1))⟩, ⟨some 47, none, .mv (.tmp 64)⟩]))))
def sc_compile_search_rounds_L1 : SCode :=
 (.seq (.reg [0, 2, 8, 9, 10, 11, 37, 38, 39] [⟨some 40, none, .bin .lss 3 (.tmp 39) (.tmp 38)⟩])
 (.seq (.cond (.tmp 40) .skip (.exit 2))
 (.seq (.block 3 (.seq (.reg [0, 2, 8, 9, 10, 11, 37, 38, 39] [⟨some 41, none, .ia none 2 (.tmp 37) (.tmp 39)⟩, ⟨some 42, none, .load 2 true (.tmp 41)⟩, ⟨some 13, none, .alloc 82 [(.int .i64 0), (.int .i64 0)]⟩, ⟨none, none, .store 2 (.tmp 13) (.tmp 42)⟩])
 (.seq (.reg [0, 2, 8, 9, 10, 11, 13, 37, 38, 39] [⟨some 43, none, .mv (.tmp 0)⟩, ⟨some 44, none, .load 2 true (.tmp 13)⟩, ⟨some 45, none, .call 46 [(.tmp 43), (.tmp 44)]⟩, ⟨some 46, none, .len false (.tmp 45)⟩, ⟨some 47, none, .mv (.const (.int .i64 0))⟩])
 (.block 4 (.loop [0, 2, 8, 9, 10, 11, 37, 38, 39, 45, 46, 47] [(11, 63, 82, 2)] sc_compile_search_rounds_L0)))))
 (.reg [0, 2, 8, 9, 10, 11, 37, 38, 39] [⟨some 65, none, .bin .add 3 (.tmp 39) (.const (.int .i64 1))⟩, ⟨some 39, none, .mv (.tmp 65)⟩]))))
def sc_compile_search_rounds_L2 : SCode :=
 (.seq (.seq (.reg [0, 2, 8, 9, 10] [⟨some 22, none, .mv (.tmp 8)⟩, ⟨some 23, none, .mv (.tmp 0)⟩, ⟨some 24, none, .nilc (.tmp 23)⟩, ⟨some 25, none, .fld 1 (.tmp 24)⟩, ⟨some 26, none, .load 2 true (.tmp 25)⟩, ⟨some 27, none, .lk (.a 2 .i64) (.bool false) false (.tmp 22) (.tmp 26)⟩, ⟨some 28, none, .un .not (.tmp 27)⟩])
 (.cond (.tmp 28) .skip (.exit 0)))
 (.seq (.block 1 (.seq (.seq (.reg [0, 2, 8, 9, 10] [⟨some 31, none, .mv (.tmp 10)⟩, ⟨some 32, none, .mv (.tmp 2)⟩, ⟨some 33, none, .bin .eql 3 (.tmp 31) (.tmp 32)⟩])
 (.cond (.tmp 33) (.seq (.reg [] [⟨some 6, none, .mv (.const (.slice none 0 0))⟩, ⟨some 7, none, .mv (.const (.bool false))⟩])
 .ret) .skip))
 (.seq (.reg [0, 2, 8, 9, 10] [⟨some 11, none, .mv (.const (.slice none 0 0))⟩])
 (.seq (.seq (.reg [0, 2, 8, 9, 10, 11] [⟨some 34, none, .mv (.tmp 9)⟩, ⟨some 35, none, .mv (.tmp 10)⟩, ⟨some 36, none, .ia none 1 (.tmp 34) (.tmp 35)⟩, ⟨some 37, none, .load 1 false (.tmp 36)⟩, ⟨some 38, none, .len false (.tmp 37)⟩, ⟨some 39, none, .mv (.const (.int .i64 0))⟩])
 (.block 2 (.loop [0, 2, 8, 9, 10, 11, 37, 38, 39] [(11, 63, 82, 2)] sc_compile_search_rounds_L1)))
 (.reg [0, 2, 8, 9, 10, 11] [⟨some 66, none, .mv (.tmp 9)⟩, ⟨some 67, none, .mv (.tmp 11)⟩, ⟨some 68, none, .bsl 105 1 [(.slice none 0 0)] 1 [(0, 1, (.tmp 67))]⟩, ⟨some 69, none, .app 87 105 1 24 (.slice none 0 0) (.tmp 66) (.tmp 68)⟩, ⟨some 9, none, .mv (.tmp 69)⟩])))))
 (.reg [0, 2, 8, 9, 10] [⟨some 29, none, .mv (.tmp 10)⟩, ⟨some 30, none, .bin .add 3 (.tmp 29) (.const (.int .i64 1))⟩, ⟨some 10, none, .mv (.tmp 30)⟩])))
def sc_compile_search_rounds : SCode :=
 (.seq (.reg [0, 1, 2] [⟨some 4, none, .box 82 (.tmp 1)⟩, ⟨some 6, none, .mv (.const (.slice none 0 0))⟩, ⟨some 7, none, .mv (.const (.bool false))⟩])
 (.seq (.reg [0, 2, 4] [⟨some 16, none, .hp (.mkmap (.a 2 .i64))⟩, ⟨some 17, none, .load 2 true (.tmp 4)⟩, ⟨none, none, .hp (.mset (.a 2 .i64) (.tmp 16) (.tmp 17) (.const (.bool true)))⟩, ⟨some 18, none, .mv (.tmp 16)⟩, ⟨some 8, none, .mv (.tmp 18)⟩])
 (.seq (.reg [0, 2, 4, 8] [⟨some 19, none, .load 2 true (.tmp 4)⟩, ⟨some 20, none, .bsl 82 2 [(.int .i64 0), (.int .i64 0)] 1 [(0, 2, (.tmp 19))]⟩, ⟨some 21, none, .ow (.bsl 105 1 [(.slice none 0 0)] 1 [(0, 1, (.tmp 20))])⟩, ⟨some 9, none, .mv (.tmp 21)⟩])
 (.seq (.seq (.reg [0, 2, 8, 9] [⟨some 10, none, .mv (.const (.int .i64 0))⟩])
 (.block 0 (.loop [0, 2, 8, 9, 10] [(9, 69, 105, 1)] sc_compile_search_rounds_L2)))
 (.seq (.reg [9] [⟨some 70, none, .mv (.tmp 9)⟩, ⟨some 6, none, .mv (.tmp 70)⟩, ⟨some 7, none, .mv (.const (.bool true))⟩])
 .ret)))))
theorem fn_compile_search_rounds : FnOk Try.prog 44 Try.f44 sc_compile_search_rounds [.tmp 6, .tmp 7] 3 := ⟨Try.func44, by kernel_rfl, by kernel_rfl, by kernel_rfl, by kernel_rfl, by kernel_rfl, by kernel_rfl⟩

def sc_compile_search_left_L0 : SCode :=
 (.seq (.reg [0, 1, 5, 6, 8, 39, 40, 41, 47, 48, 49] [⟨some 50, none, .bin .lss 3 (.tmp 49) (.tmp 48)⟩])
 (.seq (.cond (.tmp 50) .skip (.exit 4))
 (.seq (.block 5 (.seq (.reg [0, 1, 5, 6, 8, 39, 40, 41, 47, 48, 49] [⟨some 51, none, .ia none 4 (.tmp 47) (.tmp 49)⟩, ⟨some 52, none, .load 4 true (.tmp 51)⟩, ⟨some 10, none, .alloc 96 [(.bool false), (.int .i64 0), (.int .i64 0), (.int .i64 0)]⟩, ⟨none, none, .store 4 (.tmp 10) (.tmp 52)⟩])
 (.seq (.draw [0, 1, 5, 6, 8, 10, 39, 40, 41, 47, 48, 49] [⟨some 53, none, .mv (.tmp 5)⟩, ⟨some 54, none, .mv (.tmp 6)⟩, ⟨some 55, none, .bin .add 3 (.tmp 54) (.const (.int .i64 1))⟩, ⟨some 56, none, .ia none 1 (.tmp 53) (.tmp 55)⟩, ⟨some 57, none, .load 1 false (.tmp 56)⟩, ⟨some 58, none, .fld 2 (.tmp 10)⟩, ⟨some 59, none, .load 2 true (.tmp 58)⟩, ⟨some 60, none, .lk (.a 2 .i64) (.bool false) false (.tmp 57) (.tmp 59)⟩])
 (.cond (.tmp 60) (.draw [0, 1, 5, 6, 8, 39, 40, 41, 47, 48, 49] [⟨some 61, none, .mv (.tmp 5)⟩, ⟨some 62, none, .mv (.tmp 6)⟩, ⟨some 63, none, .ia none 1 (.tmp 61) (.tmp 62)⟩, ⟨some 64, none, .load 1 false (.tmp 63)⟩, ⟨some 65, none, .load 2 true (.tmp 8)⟩, ⟨none, none, .hp (.mset (.a 2 .i64) (.tmp 64) (.tmp 65) (.const (.bool true)))⟩]) .skip))))
 (.reg [0, 1, 5, 6, 8, 39, 40, 41, 47, 48, 49] [⟨some 66, none, .bin .add 3 (.tmp 49) (.const (.int .i64 1))⟩, ⟨some 49, none, .mv (.tmp 66)⟩]))))
def sc_compile_search_left_L1 : SCode :=
 (.seq (.reg [0, 1, 5, 6, 39, 40, 41] [⟨some 42, none, .bin .lss 3 (.tmp 41) (.tmp 40)⟩])
 (.seq (.cond (.tmp 42) .skip (.exit 2))
 (.seq (.block 3 (.seq (.reg [0, 1, 5, 6, 39, 40, 41] [⟨some 43, none, .ia none 2 (.tmp 39) (.tmp 41)⟩, ⟨some 44, none, .load 2 true (.tmp 43)⟩, ⟨some 8, none, .alloc 82 [(.int .i64 0), (.int .i64 0)]⟩, ⟨none, none, .store 2 (.tmp 8) (.tmp 44)⟩])
 (.seq (.reg [0, 1, 5, 6, 8, 39, 40, 41] [⟨some 45, none, .mv (.tmp 0)⟩, ⟨some 46, none, .load 2 true (.tmp 8)⟩, ⟨some 47, none, .call 46 [(.tmp 45), (.tmp 46)]⟩, ⟨some 48, none, .len false (.tmp 47)⟩, ⟨some 49, none, .mv (.const (.int .i64 0))⟩])
 (.block 4 (.loop [0, 1, 5, 6, 8, 39, 40, 41, 47, 48, 49] [] sc_compile_search_left_L0)))))
 (.reg [0, 1, 5, 6, 39, 40, 41] [⟨some 67, none, .bin .add 3 (.tmp 41) (.const (.int .i64 1))⟩, ⟨some 41, none, .mv (.tmp 67)⟩]))))
def sc_compile_search_left_L2 : SCode :=
 (.seq (.seq (.reg [0, 1, 5, 6] [⟨some 28, none, .mv (.tmp 6)⟩, ⟨some 29, none, .bin .geq 3 (.tmp 28) (.const (.int .i64 0))⟩])
 (.cond (.tmp 29) .skip (.exit 0)))
 (.seq (.block 1 (.seq (.reg [0, 1, 5, 6] [⟨some 32, none, .mv (.tmp 5)⟩, ⟨some 33, none, .mv (.tmp 6)⟩, ⟨some 34, none, .hp (.mkmap (.a 2 .i64))⟩, ⟨some 35, none, .ia none 1 (.tmp 32) (.tmp 33)⟩, ⟨none, none, .store 1 (.tmp 35) (.tmp 34)⟩])
 (.seq (.reg [0, 1, 5, 6] [⟨some 36, none, .mv (.tmp 1)⟩, ⟨some 37, none, .mv (.tmp 6)⟩, ⟨some 38, none, .ia none 1 (.tmp 36) (.tmp 37)⟩, ⟨some 39, none, .load 1 false (.tmp 38)⟩, ⟨some 40, none, .len false (.tmp 39)⟩, ⟨some 41, none, .mv (.const (.int .i64 0))⟩])
 (.block 2 (.loop [0, 1, 5, 6, 39, 40, 41] [] sc_compile_search_left_L1)))))
 (.reg [0, 1, 5, 6] [⟨some 30, none, .mv (.tmp 6)⟩, ⟨some 31, none, .bin .sub 3 (.tmp 30) (.const (.int .i64 1))⟩, ⟨some 6, none, .mv (.tmp 31)⟩])))
def sc_compile_search_left : SCode :=
 (.seq (.reg [0, 1] [⟨some 4, none, .mv (.const (.slice none 0 0))⟩])
 (.seq (.reg [0, 1] [⟨some 11, none, .mv (.tmp 1)⟩, ⟨some 12, none, .len false (.tmp 11)⟩, ⟨some 13, none, .mksl 92 1 8 [(.map none)] (.tmp 12) (.tmp 12)⟩, ⟨some 5, none, .mv (.tmp 13)⟩])
 (.seq (.reg [0, 1, 5] [⟨some 14, none, .mv (.tmp 5)⟩, ⟨some 15, none, .mv (.tmp 5)⟩, ⟨some 16, none, .len false (.tmp 15)⟩, ⟨some 17, none, .bin .sub 3 (.tmp 16) (.const (.int .i64 1))⟩, ⟨some 18, none, .hp (.mkmap (.a 2 .i64))⟩, ⟨some 19, none, .mv (.tmp 0)⟩, ⟨some 20, none, .nilc (.tmp 19)⟩, ⟨some 21, none, .fld 1 (.tmp 20)⟩, ⟨some 22, none, .load 2 true (.tmp 21)⟩, ⟨none, none, .hp (.mset (.a 2 .i64) (.tmp 18) (.tmp 22) (.const (.bool true)))⟩, ⟨some 23, none, .mv (.tmp 18)⟩, ⟨some 24, none, .ia none 1 (.tmp 14) (.tmp 17)⟩, ⟨none, none, .store 1 (.tmp 24) (.tmp 23)⟩])
 (.seq (.seq (.reg [0, 1, 5] [⟨some 25, none, .mv (.tmp 5)⟩, ⟨some 26, none, .len false (.tmp 25)⟩, ⟨some 27, none, .bin .sub 3 (.tmp 26) (.const (.int .i64 2))⟩, ⟨some 6, none, .mv (.tmp 27)⟩])
 (.block 0 (.loop [0, 1, 5, 6] [] sc_compile_search_left_L2)))
 (.seq (.reg [5] [⟨some 68, none, .mv (.tmp 5)⟩, ⟨some 4, none, .mv (.tmp 68)⟩])
 .ret)))))
theorem fn_compile_search_left : FnOk Try.prog 45 Try.f45 sc_compile_search_left [.tmp 4] 2 := ⟨Try.func45, by kernel_rfl, by kernel_rfl, by kernel_rfl, by kernel_rfl, by kernel_rfl, by kernel_rfl⟩

def sc_compile_search_from_L0 : SCode :=
 (.seq (.reg [2, 3, 7, 8, 40, 41] [⟨some 42, none, .bin .lss 3 (.tmp 41) (.tmp 40)⟩])
 (.seq (.cond (.tmp 42) .skip (.exit 2))
 (.seq (.block 3 (.seq (.reg [2, 3, 7, 8, 40, 41] [⟨some 43, none, .mv (.tmp 41)⟩, ⟨some 10, none, .mv (.tmp 43)⟩])
 (.reg [2, 3, 7, 8, 10, 40, 41] [⟨some 44, none, .mv (.tmp 8)⟩, ⟨some 45, none, .mv (.tmp 10)⟩, ⟨some 46, none, .build [(.bool false), (.int .i64 0)] [(0, 1, (.const (.bool true))), (1, 1, (.tmp 45))]⟩, ⟨some 47, none, .cald (.tmp 44) [(.tmp 46)]⟩])))
 (.reg [2, 3, 7, 8, 40, 41] [⟨some 48, none, .bin .add 3 (.tmp 41) (.const (.int .i64 1))⟩, ⟨some 41, none, .mv (.tmp 48)⟩]))))
def sc_compile_search_from_L1 : SCode :=
 (.seq (.reg [2, 3, 7, 8, 27, 28] [⟨some 29, none, .bin .lss 3 (.tmp 28) (.tmp 27)⟩])
 (.seq (.cond (.tmp 29) .skip (.exit 0))
 (.seq (.block 1 (.seq (.reg [2, 3, 7, 8, 27, 28] [⟨some 30, none, .mv (.tmp 28)⟩, ⟨some 9, none, .mv (.tmp 30)⟩])
 (.reg [2, 3, 7, 8, 9, 27, 28] [⟨some 31, none, .mv (.tmp 8)⟩, ⟨some 32, none, .mv (.tmp 9)⟩, ⟨some 33, none, .build [(.bool false), (.int .i64 0)] [(1, 1, (.tmp 32))]⟩, ⟨some 34, none, .cald (.tmp 31) [(.tmp 33)]⟩])))
 (.reg [2, 3, 7, 8, 27, 28] [⟨some 35, none, .bin .add 3 (.tmp 28) (.const (.int .i64 1))⟩, ⟨some 28, none, .mv (.tmp 35)⟩]))))
def sc_compile_search_from : SCode :=
 (.seq (.reg [0, 1] [⟨some 2, none, .box 81 (.tmp 0)⟩, ⟨some 3, none, .box 82 (.tmp 1)⟩, ⟨some 4, none, .mv (.const (.slice none 0 0))⟩])
 (.seq (.seq (.draw [2, 3] [⟨some 12, none, .load 1 false (.tmp 2)⟩, ⟨some 13, none, .nilc (.tmp 12)⟩, ⟨some 14, none, .fld 3 (.tmp 13)⟩, ⟨some 15, none, .load 1 false (.tmp 14)⟩, ⟨some 16, none, .load 2 true (.tmp 3)⟩, ⟨some 17, none, .lk (.a 2 .i64) (.slice none 0 0) true (.tmp 15) (.tmp 16)⟩, ⟨some 11, none, .mv (.tmp 17)⟩, ⟨some 18, none, .ext (.tmp 11) 0⟩, ⟨some 19, none, .ext (.tmp 11) 1⟩, ⟨some 5, none, .mv (.tmp 18)⟩, ⟨some 6, none, .mv (.tmp 19)⟩])
 (.seq (.reg [2, 3, 5, 6] [⟨some 20, none, .mv (.tmp 6)⟩])
 (.cond (.tmp 20) (.seq (.reg [5] [⟨some 21, none, .mv (.tmp 5)⟩, ⟨some 4, none, .mv (.tmp 21)⟩])
 .ret) .skip)))
 (.seq (.reg [2, 3] [⟨some 7, none, .hp (.alloc 93 [(.slice none 0 0)])⟩])
 (.seq (.reg [2, 3, 7] [⟨some 22, none, .mkfn (.func 73) [] [(.tmp 2), (.tmp 3), (.tmp 7)]⟩, ⟨some 8, none, .mv (.tmp 22)⟩])
 (.seq (.seq (.reg [2, 3, 7, 8] [⟨some 23, none, .load 1 false (.tmp 2)⟩, ⟨some 24, none, .nilc (.tmp 23)⟩, ⟨some 25, none, .fld 0 (.tmp 24)⟩, ⟨some 26, none, .load 1 false (.tmp 25)⟩, ⟨some 27, none, .call 75 [(.tmp 26)]⟩, ⟨some 28, none, .mv (.const (.int .i64 0))⟩])
 (.block 0 (.loop [2, 3, 7, 8, 27, 28] [] sc_compile_search_from_L1)))
 (.seq (.seq (.reg [2, 3, 7, 8] [⟨some 36, none, .load 1 false (.tmp 2)⟩, ⟨some 37, none, .nilc (.tmp 36)⟩, ⟨some 38, none, .fld 0 (.tmp 37)⟩, ⟨some 39, none, .load 1 false (.tmp 38)⟩, ⟨some 40, none, .call 76 [(.tmp 39)]⟩, ⟨some 41, none, .mv (.const (.int .i64 0))⟩])
 (.block 2 (.loop [2, 3, 7, 8, 40, 41] [] sc_compile_search_from_L0)))
 (.seq (.fz [7] (.draw [2, 3, 7] [⟨some 49, none, .load 1 false (.tmp 2)⟩, ⟨some 50, none, .nilc (.tmp 49)⟩, ⟨some 51, none, .fld 3 (.tmp 50)⟩, ⟨some 52, none, .load 1 false (.tmp 51)⟩, ⟨some 53, none, .load 2 true (.tmp 3)⟩, ⟨some 54, none, .load 1 false (.tmp 7)⟩, ⟨none, none, .hp (.mset (.a 2 .i64) (.tmp 52) (.tmp 53) (.tmp 54))⟩]))
 (.seq (.reg [7] [⟨some 55, none, .load 1 false (.tmp 7)⟩, ⟨some 4, none, .mv (.tmp 55)⟩])
 .ret))))))))
theorem fn_compile_search_from : FnOk Try.prog 46 Try.f46 sc_compile_search_from [.tmp 4] 2 := ⟨Try.func46, by kernel_rfl, by kernel_rfl, by kernel_rfl, by kernel_rfl, by kernel_rfl, by kernel_rfl⟩

def sc_compile_search_from_d1 : SCode :=
 (.seq (.reg [0, 1, 2, 3] [⟨some 4, none, .box 50 (.tmp 0)⟩])
 (.seq (.draw [1, 2, 3, 4] [⟨some 8, none, .ow (.load 1 false (.tmp 1))⟩, ⟨some 9, none, .nilc (.tmp 8)⟩, ⟨some 10, none, .fld 0 (.tmp 9)⟩, ⟨some 11, none, .ow (.load 1 false (.tmp 10))⟩, ⟨some 12, none, .ow (.load 2 true (.tmp 2))⟩, ⟨some 13, none, .ow (.load 2 true (.tmp 4))⟩, ⟨some 14, none, .call 74 [(.tmp 11), (.tmp 12), (.tmp 13)]⟩, ⟨some 7, none, .mv (.tmp 14)⟩, ⟨some 15, none, .ext (.tmp 7) 0⟩, ⟨some 16, none, .ext (.tmp 7) 1⟩, ⟨some 5, none, .hp (.alloc 82 [(.int .i64 0), (.int .i64 0)])⟩, ⟨none, none, .store 2 (.tmp 5) (.tmp 15)⟩, ⟨some 6, none, .mv (.tmp 16)⟩])
 (.seq (.reg [3, 4, 5, 6] [⟨some 17, none, .mv (.tmp 6)⟩])
 (.cond (.tmp 17) (.reg [3, 4, 5] [⟨some 18, none, .load 1 false (.tmp 3)⟩, ⟨some 19, none, .load 2 true (.tmp 4)⟩, ⟨some 20, none, .load 2 true (.tmp 5)⟩, ⟨some 21, none, .build [(.bool false), (.int .i64 0), (.int .i64 0), (.int .i64 0)] [(0, 2, (.tmp 19)), (2, 2, (.tmp 20))]⟩, ⟨some 22, none, .bsl 96 4 [(.bool false), (.int .i64 0), (.int .i64 0), (.int .i64 0)] 1 [(0, 4, (.tmp 21))]⟩, ⟨some 23, none, .hp (.app 93 96 4 32 (.agg #[(.bool false), (.int .i64 0), (.int .i64 0), (.int .i64 0)]) (.tmp 18) (.tmp 22))⟩, ⟨none, none, .store 1 (.tmp 3) (.tmp 23)⟩]) .skip))))
theorem fn_compile_search_from_d1 : FnOk Try.prog 73 Try.f73 sc_compile_search_from_d1 [] 4 := ⟨Try.func73, by kernel_rfl, by kernel_rfl, by kernel_rfl, by kernel_rfl, by kernel_rfl, by kernel_rfl⟩

end Go.Proofs.Ytejmcijcdhoogaa
end

section
namespace Go.Proofs.Ytejmcijcdhoogaa
open Go Abs

def sc_expand_New : SCode :=
 (.seq (.reg [0, 1, 2] [⟨some 4, none, .box 27 (.tmp 1)⟩, ⟨some 6, none, .mv (.const (.pointer none))⟩, ⟨some 7, none, .mv (.const (.int .i64 0))⟩])
 (.seq (.seq (.reg [0, 2, 4] [⟨some 11, none, .mv (.tmp 0)⟩, ⟨some 12, none, .isnil .p false (.tmp 11)⟩])
 (.cond (.tmp 12) (.seq (.reg [] [⟨some 6, none, .mv (.const (.pointer none))⟩, ⟨some 7, none, .mv (.const (.int .i64 1))⟩])
 .ret) .skip))
 (.seq (.reg [0, 2, 4] [⟨some 13, none, .mv (.tmp 0)⟩, ⟨some 14, none, .call 56 [(.tmp 13)]⟩, ⟨some 8, none, .alloc 24 [(.int .i64 0), (.slice none 0 0)]⟩, ⟨none, none, .store 2 (.tmp 8) (.tmp 14)⟩])
 (.seq (.reg [0, 2, 4, 8] [⟨some 16, none, .load 2 true (.tmp 8)⟩, ⟨some 17, none, .load 7 true (.tmp 4)⟩, ⟨some 18, none, .mv (.tmp 2)⟩, ⟨some 19, none, .call 70 [(.tmp 16), (.tmp 17), (.tmp 18)]⟩, ⟨some 15, none, .mv (.tmp 19)⟩, ⟨some 20, none, .ext (.tmp 15) 0⟩, ⟨some 21, none, .ext (.tmp 15) 1⟩, ⟨some 9, none, .mv (.tmp 20)⟩, ⟨some 10, none, .mv (.tmp 21)⟩])
 (.seq (.seq (.reg [0, 8, 9, 10] [⟨some 22, none, .mv (.tmp 10)⟩, ⟨some 23, none, .bin .neq 37 (.tmp 22) (.const (.int .i64 0))⟩])
 (.cond (.tmp 23) (.seq (.reg [10] [⟨some 24, none, .mv (.tmp 10)⟩, ⟨some 6, none, .mv (.const (.pointer none))⟩, ⟨some 7, none, .mv (.tmp 24)⟩])
 .ret) .skip))
 (.seq (.reg [0, 8, 9] [⟨some 25, none, .mv (.tmp 0)⟩, ⟨some 26, none, .load 2 true (.tmp 8)⟩, ⟨some 27, none, .mv (.tmp 9)⟩, ⟨some 28, none, .build [(.pointer none), (.int .i64 0), (.slice none 0 0), (.pointer none)] [(0, 1, (.tmp 25)), (1, 2, (.tmp 26)), (3, 1, (.tmp 27))]⟩, ⟨some 29, none, .box 132 (.tmp 28)⟩, ⟨some 6, none, .mv (.tmp 29)⟩, ⟨some 7, none, .mv (.const (.int .i64 0))⟩])
 .ret))))))
theorem fn_expand_New : FnOk Try.prog 41 Try.f41 sc_expand_New [.tmp 6, .tmp 7] 3 := ⟨Try.func41, by kernel_rfl, by kernel_rfl, by kernel_rfl, by kernel_rfl, by kernel_rfl, by kernel_rfl⟩

def sc_expand_Map_Seg : SCode :=
 (.seq (.reg [0, 1, 2] [⟨some 4, none, .box 82 (.tmp 1)⟩, ⟨some 5, none, .box 50 (.tmp 2)⟩, ⟨some 6, none, .alloc 82 [(.int .i64 0), (.int .i64 0)]⟩, ⟨some 7, none, .mv (.const (.bool false))⟩])
 (.seq (.seq (.reg [0, 4, 5, 6] [⟨some 8, none, .mv (.tmp 0)⟩, ⟨some 9, none, .isnil .p false (.tmp 8)⟩])
 (.cond (.tmp 9) (.seq (.reg [6] [⟨some 10, none, .build [(.int .i64 0), (.int .i64 0)] []⟩, ⟨none, none, .store 2 (.tmp 6) (.tmp 10)⟩, ⟨some 7, none, .mv (.const (.bool false))⟩])
 .ret) .skip))
 (.seq (.seq (.reg [0, 4, 5, 6] [⟨some 11, none, .fld 0 (.tmp 5)⟩, ⟨some 12, none, .load 1 false (.tmp 11)⟩])
 (.cond (.tmp 12) (.seq (.draw [0, 4, 5, 6] [⟨some 13, none, .mv (.tmp 0)⟩, ⟨some 14, none, .nilc (.tmp 13)⟩, ⟨some 15, none, .fld 3 (.tmp 14)⟩, ⟨some 16, none, .load 1 false (.tmp 15)⟩, ⟨some 17, none, .load 2 true (.tmp 4)⟩, ⟨some 18, none, .fld 1 (.tmp 5)⟩, ⟨some 19, none, .load 1 false (.tmp 18)⟩, ⟨some 20, none, .call 92 [(.tmp 16), (.tmp 17), (.tmp 19)]⟩, ⟨some 21, none, .ext (.tmp 20) 0⟩, ⟨some 22, none, .ext (.tmp 20) 1⟩, ⟨none, none, .store 2 (.tmp 6) (.tmp 21)⟩, ⟨some 7, none, .mv (.tmp 22)⟩])
 .ret) .skip))
 (.seq (.reg [0, 4, 5, 6] [⟨some 23, none, .mv (.tmp 0)⟩, ⟨some 24, none, .load 2 true (.tmp 4)⟩, ⟨some 25, none, .fld 1 (.tmp 5)⟩, ⟨some 26, none, .load 1 false (.tmp 25)⟩, ⟨some 27, none, .call 93 [(.tmp 23), (.tmp 24), (.tmp 26)]⟩, ⟨some 28, none, .ext (.tmp 27) 0⟩, ⟨some 29, none, .ext (.tmp 27) 1⟩, ⟨none, none, .store 2 (.tmp 6) (.tmp 28)⟩, ⟨some 7, none, .mv (.tmp 29)⟩])
 .ret))))
theorem fn_expand_Map_Seg : FnOk Try.prog 74 Try.f74 sc_expand_Map_Seg [.cell 6 2 true, .tmp 7] 3 := ⟨Try.func74, by kernel_rfl, by kernel_rfl, by kernel_rfl, by kernel_rfl, by kernel_rfl, by kernel_rfl⟩

def sc_expand_Map_Nodes : SCode :=
 (.seq (.reg [0] [⟨some 2, none, .mv (.const (.int .i64 0))⟩])
 (.seq (.reg [0] [⟨some 3, none, .mv (.tmp 0)⟩, ⟨some 4, none, .nilc (.tmp 3)⟩, ⟨some 5, none, .fld 1 (.tmp 4)⟩, ⟨some 6, none, .fld 0 (.tmp 5)⟩, ⟨some 7, none, .load 1 false (.tmp 6)⟩, ⟨some 2, none, .mv (.tmp 7)⟩])
 .ret))
theorem fn_expand_Map_Nodes : FnOk Try.prog 75 Try.f75 sc_expand_Map_Nodes [.tmp 2] 1 := ⟨Try.func75, by kernel_rfl, by kernel_rfl, by kernel_rfl, by kernel_rfl, by kernel_rfl, by kernel_rfl⟩

def sc_expand_Map_Edges : SCode :=
 (.seq (.reg [0] [⟨some 2, none, .mv (.const (.int .i64 0))⟩])
 (.seq (.reg [0] [⟨some 3, none, .mv (.tmp 0)⟩, ⟨some 4, none, .nilc (.tmp 3)⟩, ⟨some 5, none, .fld 1 (.tmp 4)⟩, ⟨some 6, none, .fld 1 (.tmp 5)⟩, ⟨some 7, none, .load 1 false (.tmp 6)⟩, ⟨some 8, none, .len false (.tmp 7)⟩, ⟨some 9, none, .bin .mul 3 (.const (.int .i64 2)) (.tmp 8)⟩, ⟨some 2, none, .mv (.tmp 9)⟩])
 .ret))
theorem fn_expand_Map_Edges : FnOk Try.prog 76 Try.f76 sc_expand_Map_Edges [.tmp 2] 1 := ⟨Try.func76, by kernel_rfl, by kernel_rfl, by kernel_rfl, by kernel_rfl, by kernel_rfl, by kernel_rfl⟩

def sc_expand_Map_node_L0 : SCode :=
 (.seq (.reg [0, 2, 6, 9, 11, 57, 58, 59, 69, 70, 71] [⟨some 72, none, .bin .lss 3 (.tmp 71) (.tmp 70)⟩])
 (.seq (.cond (.tmp 72) .skip (.exit 2))
 (.seq (.block 3 (.seq (.reg [0, 2, 6, 9, 11, 57, 58, 59, 69, 70, 71] [⟨some 73, none, .ia none 1 (.tmp 69) (.tmp 71)⟩, ⟨some 74, none, .load 1 false (.tmp 73)⟩, ⟨some 13, none, .mv (.tmp 74)⟩])
 (.seq (.reg [0, 2, 6, 9, 11, 13, 57, 58, 59, 69, 70, 71] [⟨some 75, none, .mv (.tmp 0)⟩, ⟨some 76, none, .mv (.tmp 9)⟩, ⟨some 77, none, .mv (.tmp 11)⟩, ⟨some 78, none, .mv (.tmp 13)⟩, ⟨some 79, none, .call 107 [(.tmp 75), (.tmp 76), (.tmp 77), (.tmp 78)]⟩, ⟨some 80, none, .un .not (.tmp 79)⟩])
 (.cond (.tmp 80) (.seq (.reg [6] [⟨some 81, none, .build [(.int .i64 0), (.int .i64 0)] []⟩, ⟨none, none, .store 2 (.tmp 6) (.tmp 81)⟩, ⟨some 7, none, .mv (.const (.bool false))⟩])
 .ret) .skip))))
 (.reg [0, 2, 6, 9, 11, 57, 58, 59, 69, 70, 71] [⟨some 82, none, .bin .add 3 (.tmp 71) (.const (.int .i64 1))⟩, ⟨some 71, none, .mv (.tmp 82)⟩]))))
def sc_expand_Map_node_L1 : SCode :=
 (.seq (.reg [0, 2, 6, 9, 57, 58, 59] [⟨some 60, none, .bin .lss 3 (.tmp 59) (.tmp 58)⟩])
 (.seq (.cond (.tmp 60) .skip (.exit 0))
 (.seq (.block 1 (.seq (.reg [0, 2, 6, 9, 57, 58, 59] [⟨some 61, none, .ia none 1 (.tmp 57) (.tmp 59)⟩, ⟨some 62, none, .load 1 false (.tmp 61)⟩, ⟨some 11, none, .mv (.tmp 62)⟩])
 (.seq (.reg [0, 2, 6, 9, 11, 57, 58, 59] [⟨some 63, none, .mv (.tmp 0)⟩, ⟨some 64, none, .nilc (.tmp 63)⟩, ⟨some 65, none, .fld 0 (.tmp 64)⟩, ⟨some 66, none, .load 1 false (.tmp 65)⟩, ⟨some 67, none, .mv (.tmp 11)⟩, ⟨some 68, none, .mv (.tmp 2)⟩, ⟨some 69, none, .call 95 [(.tmp 66), (.tmp 67), (.tmp 68)]⟩, ⟨some 70, none, .len false (.tmp 69)⟩, ⟨some 71, none, .mv (.const (.int .i64 0))⟩])
 (.block 2 (.loop [0, 2, 6, 9, 11, 57, 58, 59, 69, 70, 71] [] sc_expand_Map_node_L0)))))
 (.reg [0, 2, 6, 9, 57, 58, 59] [⟨some 83, none, .bin .add 3 (.tmp 59) (.const (.int .i64 1))⟩, ⟨some 59, none, .mv (.tmp 83)⟩]))))
def sc_expand_Map_node : SCode :=
 (.seq (.reg [0, 1, 2] [⟨some 4, none, .box 82 (.tmp 1)⟩, ⟨some 6, none, .alloc 82 [(.int .i64 0), (.int .i64 0)]⟩, ⟨some 7, none, .mv (.const (.bool false))⟩])
 (.seq (.reg [0, 2, 4, 6] [⟨some 16, none, .ia (some 2) 1 (.tmp 4) (.const (.int .i64 0))⟩, ⟨some 17, none, .load 1 false (.tmp 16)⟩, ⟨some 8, none, .mv (.tmp 17)⟩])
 (.seq (.seq (.reg [0, 2, 4, 6, 8] [⟨some 18, none, .mv (.tmp 8)⟩, ⟨some 19, none, .mv (.tmp 2)⟩, ⟨some 20, none, .bin .eql 3 (.tmp 18) (.tmp 19)⟩, ⟨some 21, none, .mv (.tmp 20)⟩, ⟨some 22, some (21, false), .mv (.tmp 0)⟩, ⟨some 23, some (21, false), .nilc (.tmp 22)⟩, ⟨some 24, some (21, false), .fld 0 (.tmp 23)⟩, ⟨some 25, some (21, false), .load 1 false (.tmp 24)⟩, ⟨some 26, some (21, false), .mv (.tmp 8)⟩, ⟨some 27, some (21, false), .mv (.tmp 2)⟩, ⟨some 28, some (21, false), .call 105 [(.tmp 25), (.tmp 26), (.tmp 27)]⟩, ⟨some 29, some (21, false), .bin .lss 3 (.tmp 28) (.const (.int .i64 0))⟩, ⟨some 30, none, .pick (.tmp 21) (.const (.bool true)) (.tmp 29)⟩, ⟨some 31, none, .mv (.tmp 30)⟩, ⟨some 32, some (31, false), .ia (some 2) 1 (.tmp 4) (.const (.int .i64 1))⟩, ⟨some 33, some (31, false), .load 1 false (.tmp 32)⟩, ⟨some 34, some (31, false), .bin .lss 3 (.tmp 33) (.const (.int .i64 0))⟩, ⟨some 35, none, .pick (.tmp 31) (.const (.bool true)) (.tmp 34)⟩, ⟨some 36, none, .mv (.tmp 35)⟩, ⟨some 37, some (36, false), .ia (some 2) 1 (.tmp 4) (.const (.int .i64 1))⟩, ⟨some 38, some (36, false), .load 1 false (.tmp 37)⟩, ⟨some 39, some (36, false), .bin .geq 3 (.tmp 38) (.const (.int .i64 6))⟩, ⟨some 40, none, .pick (.tmp 36) (.const (.bool true)) (.tmp 39)⟩])
 (.cond (.tmp 40) (.seq (.reg [6] [⟨some 41, none, .build [(.int .i64 0), (.int .i64 0)] []⟩, ⟨none, none, .store 2 (.tmp 6) (.tmp 41)⟩, ⟨some 7, none, .mv (.const (.bool false))⟩])
 .ret) .skip))
 (.seq (.reg [0, 2, 4, 6, 8] [⟨some 42, none, .mv (.tmp 0)⟩, ⟨some 43, none, .nilc (.tmp 42)⟩, ⟨some 44, none, .fld 1 (.tmp 43)⟩, ⟨some 45, none, .fld 0 (.tmp 44)⟩, ⟨some 46, none, .load 1 false (.tmp 45)⟩, ⟨some 47, none, .hp (.mksl 165 6 6 [(.bool false), (.bool false), (.bool false), (.bool false), (.bool false), (.bool false)] (.tmp 46) (.tmp 46))⟩, ⟨some 9, none, .mv (.tmp 47)⟩])
 (.seq (.draw [0, 2, 4, 6, 8, 9] [⟨some 48, none, .mv (.tmp 9)⟩, ⟨some 49, none, .mv (.tmp 8)⟩, ⟨some 50, none, .ia (some 2) 1 (.tmp 4) (.const (.int .i64 1))⟩, ⟨some 51, none, .load 1 false (.tmp 50)⟩, ⟨some 52, none, .ia none 6 (.tmp 48) (.tmp 49)⟩, ⟨some 53, none, .ia (some 6) 1 (.tmp 52) (.tmp 51)⟩, ⟨none, none, .store 1 (.tmp 53) (.const (.bool true))⟩])
 (.seq (.seq (.reg [0, 2, 6, 8, 9] [⟨some 54, none, .mv (.tmp 0)⟩, ⟨some 55, none, .mv (.tmp 8)⟩, ⟨some 56, none, .mv (.tmp 2)⟩, ⟨some 57, none, .call 106 [(.tmp 54), (.tmp 55), (.tmp 56)]⟩, ⟨some 58, none, .len false (.tmp 57)⟩, ⟨some 59, none, .mv (.const (.int .i64 0))⟩])
 (.block 0 (.loop [0, 2, 6, 9, 57, 58, 59] [] sc_expand_Map_node_L1)))
 (.seq (.reg [2, 6, 9] [⟨some 85, none, .mv (.tmp 9)⟩, ⟨some 86, none, .mv (.tmp 2)⟩, ⟨some 87, none, .ia none 6 (.tmp 85) (.tmp 86)⟩, ⟨some 88, none, .load 6 true (.tmp 87)⟩, ⟨some 89, none, .call 108 [(.tmp 88)]⟩, ⟨some 84, none, .mv (.tmp 89)⟩, ⟨some 90, none, .ext (.tmp 84) 0⟩, ⟨some 91, none, .ext (.tmp 84) 1⟩, ⟨some 14, none, .mv (.tmp 90)⟩, ⟨some 15, none, .mv (.tmp 91)⟩])
 (.seq (.seq (.reg [2, 6, 14, 15] [⟨some 92, none, .mv (.tmp 15)⟩, ⟨some 93, none, .un .not (.tmp 92)⟩])
 (.cond (.tmp 93) (.seq (.reg [6] [⟨some 94, none, .build [(.int .i64 0), (.int .i64 0)] []⟩, ⟨none, none, .store 2 (.tmp 6) (.tmp 94)⟩, ⟨some 7, none, .mv (.const (.bool false))⟩])
 .ret) .skip))
 (.seq (.reg [2, 6, 14] [⟨some 95, none, .mv (.tmp 2)⟩, ⟨some 96, none, .mv (.tmp 14)⟩, ⟨some 97, none, .build [(.int .i64 0), (.int .i64 0)] [(0, 1, (.tmp 95)), (1, 1, (.tmp 96))]⟩, ⟨none, none, .store 2 (.tmp 6) (.tmp 97)⟩, ⟨some 7, none, .mv (.const (.bool true))⟩])
 .ret)))))))))
theorem fn_expand_Map_node : FnOk Try.prog 93 Try.f93 sc_expand_Map_node [.cell 6 2 true, .tmp 7] 3 := ⟨Try.func93, by kernel_rfl, by kernel_rfl, by kernel_rfl, by kernel_rfl, by kernel_rfl, by kernel_rfl⟩

def sc_expand_Map_order_L0 : SCode :=
 (.seq (.seq (.draw [0, 2, 8, 16, 73, 74] [⟨some 78, none, .mv (.tmp 16)⟩, ⟨some 79, none, .bin .gtr 3 (.tmp 78) (.const (.int .i64 0))⟩, ⟨some 80, none, .mv (.tmp 79)⟩, ⟨some 81, some (80, true), .mv (.tmp 0)⟩, ⟨some 82, some (80, true), .nilc (.tmp 81)⟩, ⟨some 83, some (80, true), .fld 0 (.tmp 82)⟩, ⟨some 84, some (80, true), .load 1 false (.tmp 83)⟩, ⟨some 85, some (80, true), .mv (.tmp 8)⟩, ⟨some 86, some (80, true), .mv (.tmp 16)⟩, ⟨some 87, some (80, true), .ia none 1 (.tmp 85) (.tmp 86)⟩, ⟨some 88, some (80, true), .load 1 false (.tmp 87)⟩, ⟨some 89, some (80, true), .mv (.tmp 2)⟩, ⟨some 90, some (80, true), .call 105 [(.tmp 84), (.tmp 88), (.tmp 89)]⟩, ⟨some 91, some (80, true), .mv (.tmp 0)⟩, ⟨some 92, some (80, true), .nilc (.tmp 91)⟩, ⟨some 93, some (80, true), .fld 0 (.tmp 92)⟩, ⟨some 94, some (80, true), .load 1 false (.tmp 93)⟩, ⟨some 95, some (80, true), .mv (.tmp 8)⟩, ⟨some 96, some (80, true), .mv (.tmp 16)⟩, ⟨some 97, some (80, true), .bin .sub 3 (.tmp 96) (.const (.int .i64 1))⟩, ⟨some 98, some (80, true), .ia none 1 (.tmp 95) (.tmp 97)⟩, ⟨some 99, some (80, true), .load 1 false (.tmp 98)⟩, ⟨some 100, some (80, true), .mv (.tmp 2)⟩, ⟨some 101, some (80, true), .call 105 [(.tmp 94), (.tmp 99), (.tmp 100)]⟩, ⟨some 102, some (80, true), .bin .gtr 3 (.tmp 90) (.tmp 101)⟩, ⟨some 103, none, .pick (.tmp 80) (.tmp 102) (.const (.bool false))⟩])
 (.cond (.tmp 103) .skip (.exit 6)))
 (.seq (.block 7 (.draw [0, 2, 8, 16, 73, 74] [⟨some 106, none, .mv (.tmp 8)⟩, ⟨some 107, none, .mv (.tmp 16)⟩, ⟨some 108, none, .mv (.tmp 8)⟩, ⟨some 109, none, .mv (.tmp 16)⟩, ⟨some 110, none, .bin .sub 3 (.tmp 109) (.const (.int .i64 1))⟩, ⟨some 111, none, .mv (.tmp 8)⟩, ⟨some 112, none, .mv (.tmp 16)⟩, ⟨some 113, none, .bin .sub 3 (.tmp 112) (.const (.int .i64 1))⟩, ⟨some 114, none, .ia none 1 (.tmp 111) (.tmp 113)⟩, ⟨some 115, none, .load 1 false (.tmp 114)⟩, ⟨some 116, none, .mv (.tmp 8)⟩, ⟨some 117, none, .mv (.tmp 16)⟩, ⟨some 118, none, .ia none 1 (.tmp 116) (.tmp 117)⟩, ⟨some 119, none, .load 1 false (.tmp 118)⟩, ⟨some 120, none, .ia none 1 (.tmp 106) (.tmp 107)⟩, ⟨none, none, .store 1 (.tmp 120) (.tmp 115)⟩, ⟨some 121, none, .ia none 1 (.tmp 108) (.tmp 110)⟩, ⟨none, none, .store 1 (.tmp 121) (.tmp 119)⟩]))
 (.reg [0, 2, 8, 16, 73, 74] [⟨some 104, none, .mv (.tmp 16)⟩, ⟨some 105, none, .bin .sub 3 (.tmp 104) (.const (.int .i64 1))⟩, ⟨some 16, none, .mv (.tmp 105)⟩])))
def sc_expand_Map_order_L1 : SCode :=
 (.seq (.reg [0, 2, 8, 73, 74] [⟨some 75, none, .bin .lss 3 (.tmp 74) (.tmp 73)⟩])
 (.seq (.cond (.tmp 75) .skip (.exit 4))
 (.seq (.block 5 (.seq (.reg [0, 2, 8, 73, 74] [⟨some 76, none, .mv (.tmp 74)⟩, ⟨some 15, none, .mv (.tmp 76)⟩])
 (.seq (.reg [0, 2, 8, 15, 73, 74] [⟨some 77, none, .mv (.tmp 15)⟩, ⟨some 16, none, .mv (.tmp 77)⟩])
 (.block 6 (.loop [0, 2, 8, 16, 73, 74] [] sc_expand_Map_order_L0)))))
 (.reg [0, 2, 8, 73, 74] [⟨some 122, none, .bin .add 3 (.tmp 74) (.const (.int .i64 1))⟩, ⟨some 74, none, .mv (.tmp 122)⟩]))))
def sc_expand_Map_order_L2 : SCode :=
 (.seq (.reg [0, 2, 7, 8, 9, 43, 44, 45] [⟨some 46, none, .bin .lss 3 (.tmp 45) (.tmp 44)⟩])
 (.seq (.cond (.tmp 46) .skip (.exit 2))
 (.seq (.block 3 (.seq (.reg [0, 2, 7, 8, 9, 43, 44, 45] [⟨some 47, none, .ia none 1 (.tmp 43) (.tmp 45)⟩, ⟨some 48, none, .load 1 false (.tmp 47)⟩, ⟨some 11, none, .mv (.tmp 48)⟩])
 (.seq (.reg [0, 2, 7, 8, 9, 11, 43, 44, 45] [⟨some 50, none, .mv (.tmp 0)⟩, ⟨some 51, none, .nilc (.tmp 50)⟩, ⟨some 52, none, .fld 1 (.tmp 51)⟩, ⟨some 53, none, .load 2 true (.tmp 52)⟩, ⟨some 54, none, .mv (.tmp 11)⟩, ⟨some 55, none, .call 57 [(.tmp 53), (.tmp 54)]⟩, ⟨some 49, none, .mv (.tmp 55)⟩, ⟨some 56, none, .ext (.tmp 49) 0⟩, ⟨some 57, none, .ext (.tmp 49) 1⟩, ⟨some 58, none, .ext (.tmp 49) 2⟩, ⟨some 12, none, .mv (.tmp 56)⟩, ⟨some 13, none, .mv (.tmp 57)⟩, ⟨some 14, none, .mv (.tmp 58)⟩])
 (.seq (.reg [0, 2, 7, 8, 9, 13, 43, 44, 45] [⟨some 59, none, .mv (.tmp 7)⟩, ⟨some 60, none, .mv (.tmp 13)⟩, ⟨some 61, none, .ia none 1 (.tmp 59) (.tmp 60)⟩, ⟨some 62, none, .load 1 false (.tmp 61)⟩, ⟨some 63, none, .un .not (.tmp 62)⟩])
 (.cond (.tmp 63) (.seq (.reg [0, 2, 7, 8, 9, 13, 43, 44, 45] [⟨some 64, none, .mv (.tmp 7)⟩, ⟨some 65, none, .mv (.tmp 13)⟩, ⟨some 66, none, .ia none 1 (.tmp 64) (.tmp 65)⟩, ⟨none, none, .store 1 (.tmp 66) (.const (.bool true))⟩])
 (.reg [0, 2, 7, 8, 9, 13, 43, 44, 45] [⟨some 67, none, .mv (.tmp 8)⟩, ⟨some 68, none, .mv (.tmp 13)⟩, ⟨some 69, none, .bsl 3 1 [(.int .i64 0)] 1 [(0, 1, (.tmp 68))]⟩, ⟨some 70, none, .app 25 3 1 8 (.int .i64 0) (.tmp 67) (.tmp 69)⟩, ⟨some 8, none, .mv (.tmp 70)⟩])) .skip)))))
 (.reg [0, 2, 7, 8, 9, 43, 44, 45] [⟨some 71, none, .bin .add 3 (.tmp 45) (.const (.int .i64 1))⟩, ⟨some 45, none, .mv (.tmp 71)⟩]))))
def sc_expand_Map_order_L3 : SCode :=
 (.seq (.seq (.reg [0, 2, 7, 8, 9] [⟨some 28, none, .mv (.tmp 9)⟩, ⟨some 29, none, .mv (.tmp 8)⟩, ⟨some 30, none, .len false (.tmp 29)⟩, ⟨some 31, none, .bin .lss 3 (.tmp 28) (.tmp 30)⟩])
 (.cond (.tmp 31) .skip (.exit 0)))
 (.seq (.block 1 (.seq (.draw [0, 2, 7, 8, 9] [⟨some 34, none, .mv (.tmp 0)⟩, ⟨some 35, none, .nilc (.tmp 34)⟩, ⟨some 36, none, .fld 0 (.tmp 35)⟩, ⟨some 37, none, .load 1 false (.tmp 36)⟩, ⟨some 38, none, .mv (.tmp 8)⟩, ⟨some 39, none, .mv (.tmp 9)⟩, ⟨some 40, none, .ia none 1 (.tmp 38) (.tmp 39)⟩, ⟨some 41, none, .load 1 false (.tmp 40)⟩, ⟨some 42, none, .mv (.tmp 2)⟩, ⟨some 43, none, .call 95 [(.tmp 37), (.tmp 41), (.tmp 42)]⟩, ⟨some 44, none, .len false (.tmp 43)⟩, ⟨some 45, none, .mv (.const (.int .i64 0))⟩])
 (.block 2 (.loop [0, 2, 7, 8, 9, 43, 44, 45] [(8, 70, 3, 1)] sc_expand_Map_order_L2))))
 (.reg [0, 2, 7, 8, 9] [⟨some 32, none, .mv (.tmp 9)⟩, ⟨some 33, none, .bin .add 3 (.tmp 32) (.const (.int .i64 1))⟩, ⟨some 9, none, .mv (.tmp 33)⟩])))
def sc_expand_Map_order : SCode :=
 (.seq (.reg [0, 1, 2] [⟨some 6, none, .mv (.const (.slice none 0 0))⟩])
 (.seq (.reg [0, 1, 2] [⟨some 17, none, .mv (.tmp 0)⟩, ⟨some 18, none, .nilc (.tmp 17)⟩, ⟨some 19, none, .fld 1 (.tmp 18)⟩, ⟨some 20, none, .fld 0 (.tmp 19)⟩, ⟨some 21, none, .load 1 false (.tmp 20)⟩, ⟨some 22, none, .mksl 4 1 1 [(.bool false)] (.tmp 21) (.tmp 21)⟩, ⟨some 7, none, .mv (.tmp 22)⟩])
 (.seq (.reg [0, 1, 2, 7] [⟨some 23, none, .mv (.tmp 7)⟩, ⟨some 24, none, .mv (.tmp 1)⟩, ⟨some 25, none, .ia none 1 (.tmp 23) (.tmp 24)⟩, ⟨none, none, .store 1 (.tmp 25) (.const (.bool true))⟩])
 (.seq (.reg [0, 1, 2, 7] [⟨some 26, none, .mv (.tmp 1)⟩, ⟨some 27, none, .ow (.bsl 3 1 [(.int .i64 0)] 1 [(0, 1, (.tmp 26))])⟩, ⟨some 8, none, .mv (.tmp 27)⟩])
 (.seq (.seq (.reg [0, 2, 7, 8] [⟨some 9, none, .mv (.const (.int .i64 0))⟩])
 (.block 0 (.loop [0, 2, 7, 8, 9] [(8, 70, 3, 1)] sc_expand_Map_order_L3)))
 (.seq (.seq (.reg [0, 2, 8] [⟨some 72, none, .mv (.tmp 8)⟩, ⟨some 73, none, .len false (.tmp 72)⟩, ⟨some 74, none, .mv (.const (.int .i64 0))⟩])
 (.block 4 (.loop [0, 2, 8, 73, 74] [] sc_expand_Map_order_L1)))
 (.seq (.reg [8] [⟨some 123, none, .mv (.tmp 8)⟩, ⟨some 6, none, .mv (.tmp 123)⟩])
 .ret)))))))
theorem fn_expand_Map_order : FnOk Try.prog 106 Try.f106 sc_expand_Map_order [.tmp 6] 3 := ⟨Try.func106, by kernel_rfl, by kernel_rfl, by kernel_rfl, by kernel_rfl, by kernel_rfl, by kernel_rfl⟩

def sc_expand_Map_on_L0 : SCode :=
 (.seq (.reg [0, 1, 2, 3, 16, 17] [⟨some 18, none, .bin .lss 3 (.tmp 17) (.const (.int .i64 6))⟩])
 (.seq (.cond (.tmp 18) .skip (.exit 0))
 (.seq (.block 1 (.seq (.reg [0, 1, 2, 3, 16, 17] [⟨some 19, none, .mv (.tmp 17)⟩, ⟨some 20, none, .ixa 6 1 false (.tmp 16) (.tmp 17)⟩, ⟨some 9, none, .mv (.tmp 19)⟩, ⟨some 10, none, .mv (.tmp 20)⟩])
 (.seq (.seq (.reg [0, 1, 2, 3, 9, 10, 16, 17] [⟨some 21, none, .mv (.tmp 10)⟩, ⟨some 22, none, .un .not (.tmp 21)⟩])
 (.cond (.tmp 22) (.exit 1) .skip))
 (.seq (.reg [0, 1, 2, 3, 9, 16, 17] [⟨some 24, none, .mv (.tmp 0)⟩, ⟨some 25, none, .nilc (.tmp 24)⟩, ⟨some 26, none, .fld 3 (.tmp 25)⟩, ⟨some 27, none, .load 1 false (.tmp 26)⟩, ⟨some 28, none, .mv (.tmp 2)⟩, ⟨some 29, none, .mv (.tmp 9)⟩, ⟨some 30, none, .build [(.int .i64 0), (.int .i64 0)] [(0, 1, (.tmp 28)), (1, 1, (.tmp 29))]⟩, ⟨some 31, none, .mv (.tmp 3)⟩, ⟨some 32, none, .call 92 [(.tmp 27), (.tmp 30), (.tmp 31)]⟩, ⟨some 23, none, .mv (.tmp 32)⟩, ⟨some 33, none, .ext (.tmp 23) 0⟩, ⟨some 34, none, .ext (.tmp 23) 1⟩, ⟨some 11, none, .alloc 82 [(.int .i64 0), (.int .i64 0)]⟩, ⟨none, none, .store 2 (.tmp 11) (.tmp 33)⟩, ⟨some 12, none, .mv (.tmp 34)⟩])
 (.seq (.seq (.reg [0, 1, 2, 3, 11, 12, 16, 17] [⟨some 35, none, .mv (.tmp 12)⟩, ⟨some 36, none, .un .not (.tmp 35)⟩])
 (.cond (.tmp 36) (.seq (.reg [] [⟨some 8, none, .mv (.const (.bool false))⟩])
 .ret) .skip))
 (.draw [0, 1, 2, 3, 11, 16, 17] [⟨some 37, none, .mv (.tmp 1)⟩, ⟨some 38, none, .ia (some 2) 1 (.tmp 11) (.const (.int .i64 0))⟩, ⟨some 39, none, .load 1 false (.tmp 38)⟩, ⟨some 40, none, .ia (some 2) 1 (.tmp 11) (.const (.int .i64 1))⟩, ⟨some 41, none, .load 1 false (.tmp 40)⟩, ⟨some 42, none, .ia none 6 (.tmp 37) (.tmp 39)⟩, ⟨some 43, none, .ia (some 6) 1 (.tmp 42) (.tmp 41)⟩, ⟨none, none, .store 1 (.tmp 43) (.const (.bool true))⟩]))))))
 (.reg [0, 1, 2, 3, 16, 17] [⟨some 44, none, .bin .add 3 (.tmp 17) (.const (.int .i64 1))⟩, ⟨some 17, none, .mv (.tmp 44)⟩]))))
def sc_expand_Map_on : SCode :=
 (.seq (.reg [0, 1, 2, 3] [⟨some 8, none, .mv (.const (.bool false))⟩])
 (.seq (.seq (.reg [0, 1, 2, 3] [⟨some 13, none, .mv (.tmp 1)⟩, ⟨some 14, none, .mv (.tmp 2)⟩, ⟨some 15, none, .ia none 6 (.tmp 13) (.tmp 14)⟩, ⟨some 16, none, .load 6 true (.tmp 15)⟩, ⟨some 17, none, .mv (.const (.int .i64 0))⟩])
 (.block 0 (.loop [0, 1, 2, 3, 16, 17] [] sc_expand_Map_on_L0)))
 (.seq (.reg [] [⟨some 8, none, .mv (.const (.bool true))⟩])
 .ret)))
theorem fn_expand_Map_on : FnOk Try.prog 107 Try.f107 sc_expand_Map_on [.tmp 8] 4 := ⟨Try.func107, by kernel_rfl, by kernel_rfl, by kernel_rfl, by kernel_rfl, by kernel_rfl, by kernel_rfl⟩

def sc_expand_states_only_L0 : SCode :=
 (.seq (.reg [4, 5, 8, 9] [⟨some 10, none, .bin .lss 3 (.tmp 9) (.const (.int .i64 6))⟩])
 (.seq (.cond (.tmp 10) .skip (.exit 0))
 (.seq (.block 1 (.seq (.reg [4, 5, 8, 9] [⟨some 11, none, .mv (.tmp 9)⟩, ⟨some 12, none, .ixa 6 1 false (.tmp 8) (.tmp 9)⟩, ⟨some 6, none, .mv (.tmp 11)⟩, ⟨some 7, none, .mv (.tmp 12)⟩])
 (.seq (.reg [4, 5, 6, 7, 8, 9] [⟨some 13, none, .mv (.tmp 7)⟩])
 (.cond (.tmp 13) (.seq (.reg [5, 6, 8, 9] [⟨some 14, none, .mv (.tmp 6)⟩, ⟨some 4, none, .mv (.tmp 14)⟩])
 (.reg [4, 5, 8, 9] [⟨some 15, none, .mv (.tmp 5)⟩, ⟨some 16, none, .bin .add 3 (.tmp 15) (.const (.int .i64 1))⟩, ⟨some 5, none, .mv (.tmp 16)⟩])) .skip))))
 (.reg [4, 5, 8, 9] [⟨some 17, none, .bin .add 3 (.tmp 9) (.const (.int .i64 1))⟩, ⟨some 9, none, .mv (.tmp 17)⟩]))))
def sc_expand_states_only : SCode :=
 (.seq (.reg [0] [⟨some 1, none, .box 165 (.tmp 0)⟩, ⟨some 2, none, .mv (.const (.int .i64 0))⟩, ⟨some 3, none, .mv (.const (.bool false))⟩])
 (.seq (.reg [1] [⟨some 4, none, .mv (.const (.int .i64 0))⟩, ⟨some 5, none, .mv (.const (.int .i64 0))⟩])
 (.seq (.seq (.reg [1, 4, 5] [⟨some 8, none, .load 6 true (.tmp 1)⟩, ⟨some 9, none, .mv (.const (.int .i64 0))⟩])
 (.block 0 (.loop [4, 5, 8, 9] [] sc_expand_states_only_L0)))
 (.seq (.reg [4, 5] [⟨some 18, none, .mv (.tmp 4)⟩, ⟨some 19, none, .mv (.tmp 5)⟩, ⟨some 20, none, .bin .eql 3 (.tmp 19) (.const (.int .i64 1))⟩, ⟨some 2, none, .mv (.tmp 18)⟩, ⟨some 3, none, .mv (.tmp 20)⟩])
 .ret))))
theorem fn_expand_states_only : FnOk Try.prog 108 Try.f108 sc_expand_states_only [.tmp 2, .tmp 3] 1 := ⟨Try.func108, by kernel_rfl, by kernel_rfl, by kernel_rfl, by kernel_rfl, by kernel_rfl, by kernel_rfl⟩

end Go.Proofs.Ytejmcijcdhoogaa
end

section
namespace Go.Proofs.Ytejmcijcdhoogaa
open Go Abs

def sc_fib_Is : SCode :=
 (.seq (.reg [0, 1] [⟨some 2, none, .box 24 (.tmp 0)⟩, ⟨some 3, none, .box 50 (.tmp 1)⟩, ⟨some 4, none, .mv (.const (.bool false))⟩])
 (.seq (.seq (.reg [2, 3] [⟨some 5, none, .fld 0 (.tmp 3)⟩, ⟨some 6, none, .load 1 false (.tmp 5)⟩])
 (.cond (.tmp 6) (.seq (.reg [2, 3] [⟨some 7, none, .fld 1 (.tmp 3)⟩, ⟨some 8, none, .load 1 false (.tmp 7)⟩, ⟨some 9, none, .bin .geq 3 (.tmp 8) (.const (.int .i64 0))⟩, ⟨some 10, none, .mv (.tmp 9)⟩, ⟨some 11, some (10, true), .fld 1 (.tmp 3)⟩, ⟨some 12, some (10, true), .load 1 false (.tmp 11)⟩, ⟨some 13, some (10, true), .fld 1 (.tmp 2)⟩, ⟨some 14, some (10, true), .load 1 false (.tmp 13)⟩, ⟨some 15, some (10, true), .len false (.tmp 14)⟩, ⟨some 16, some (10, true), .bin .mul 3 (.const (.int .i64 2)) (.tmp 15)⟩, ⟨some 17, some (10, true), .bin .lss 3 (.tmp 12) (.tmp 16)⟩, ⟨some 18, none, .pick (.tmp 10) (.tmp 17) (.const (.bool false))⟩, ⟨some 4, none, .mv (.tmp 18)⟩])
 .ret) .skip))
 (.seq (.reg [2, 3] [⟨some 19, none, .load 2 true (.tmp 2)⟩, ⟨some 20, none, .fld 1 (.tmp 3)⟩, ⟨some 21, none, .load 1 false (.tmp 20)⟩, ⟨some 22, none, .call 62 [(.tmp 19), (.tmp 21)]⟩, ⟨some 4, none, .mv (.tmp 22)⟩])
 .ret)))
theorem fn_fib_Is : FnOk Try.prog 94 Try.f94 sc_fib_Is [.tmp 4] 2 := ⟨Try.func94, by kernel_rfl, by kernel_rfl, by kernel_rfl, by kernel_rfl, by kernel_rfl, by kernel_rfl⟩

end Go.Proofs.Ytejmcijcdhoogaa
end

section
namespace Go.Proofs.Ytejmcijcdhoogaa
open Go Abs

def sc_graph_Ends : SCode :=
 (.seq (.reg [0, 1] [⟨some 2, none, .box 24 (.tmp 0)⟩, ⟨some 4, none, .mv (.const (.int .i64 0))⟩, ⟨some 5, none, .mv (.const (.int .i64 0))⟩, ⟨some 6, none, .mv (.const (.bool false))⟩])
 (.seq (.seq (.reg [1, 2] [⟨some 8, none, .mv (.tmp 1)⟩, ⟨some 9, none, .bin .lss 3 (.tmp 8) (.const (.int .i64 0))⟩, ⟨some 10, none, .mv (.tmp 9)⟩, ⟨some 11, some (10, false), .mv (.tmp 1)⟩, ⟨some 12, some (10, false), .bin .quo 3 (.tmp 11) (.const (.int .i64 2))⟩, ⟨some 13, some (10, false), .fld 1 (.tmp 2)⟩, ⟨some 14, some (10, false), .load 1 false (.tmp 13)⟩, ⟨some 15, some (10, false), .len false (.tmp 14)⟩, ⟨some 16, some (10, false), .bin .geq 3 (.tmp 12) (.tmp 15)⟩, ⟨some 17, none, .pick (.tmp 10) (.const (.bool true)) (.tmp 16)⟩])
 (.cond (.tmp 17) (.seq (.reg [] [⟨some 4, none, .mv (.const (.int .i64 0))⟩, ⟨some 5, none, .mv (.const (.int .i64 0))⟩, ⟨some 6, none, .mv (.const (.bool false))⟩])
 .ret) .skip))
 (.seq (.reg [1, 2] [⟨some 18, none, .fld 1 (.tmp 2)⟩, ⟨some 19, none, .load 1 false (.tmp 18)⟩, ⟨some 20, none, .mv (.tmp 1)⟩, ⟨some 21, none, .bin .quo 3 (.tmp 20) (.const (.int .i64 2))⟩, ⟨some 22, none, .ia none 4 (.tmp 19) (.tmp 21)⟩, ⟨some 23, none, .load 4 true (.tmp 22)⟩, ⟨some 7, none, .alloc 48 [(.int .i64 0), (.int .i64 0), (.int .i64 0), (.int .i64 0)]⟩, ⟨none, none, .store 4 (.tmp 7) (.tmp 23)⟩])
 (.seq (.seq (.reg [1, 7] [⟨some 24, none, .mv (.tmp 1)⟩, ⟨some 25, none, .bin .rem 3 (.tmp 24) (.const (.int .i64 2))⟩, ⟨some 26, none, .bin .eql 3 (.tmp 25) (.const (.int .i64 1))⟩])
 (.cond (.tmp 26) (.seq (.draw [7] [⟨some 27, none, .fld 1 (.tmp 7)⟩, ⟨some 28, none, .load 1 false (.tmp 27)⟩, ⟨some 29, none, .fld 0 (.tmp 7)⟩, ⟨some 30, none, .load 1 false (.tmp 29)⟩, ⟨some 4, none, .mv (.tmp 28)⟩, ⟨some 5, none, .mv (.tmp 30)⟩, ⟨some 6, none, .mv (.const (.bool true))⟩])
 .ret) .skip))
 (.seq (.draw [7] [⟨some 31, none, .fld 0 (.tmp 7)⟩, ⟨some 32, none, .load 1 false (.tmp 31)⟩, ⟨some 33, none, .fld 1 (.tmp 7)⟩, ⟨some 34, none, .load 1 false (.tmp 33)⟩, ⟨some 4, none, .mv (.tmp 32)⟩, ⟨some 5, none, .mv (.tmp 34)⟩, ⟨some 6, none, .mv (.const (.bool true))⟩])
 .ret)))))
theorem fn_graph_Ends : FnOk Try.prog 57 Try.f57 sc_graph_Ends [.tmp 4, .tmp 5, .tmp 6] 2 := ⟨Try.func57, by kernel_rfl, by kernel_rfl, by kernel_rfl, by kernel_rfl, by kernel_rfl, by kernel_rfl⟩

def sc_graph_Is : SCode :=
 (.seq (.reg [0, 1] [⟨some 2, none, .box 24 (.tmp 0)⟩, ⟨some 4, none, .mv (.const (.bool false))⟩])
 (.seq (.reg [1, 2] [⟨some 5, none, .mv (.tmp 1)⟩, ⟨some 6, none, .bin .geq 3 (.tmp 5) (.const (.int .i64 0))⟩, ⟨some 7, none, .mv (.tmp 6)⟩, ⟨some 8, some (7, true), .mv (.tmp 1)⟩, ⟨some 9, some (7, true), .fld 0 (.tmp 2)⟩, ⟨some 10, some (7, true), .load 1 false (.tmp 9)⟩, ⟨some 11, some (7, true), .bin .lss 3 (.tmp 8) (.tmp 10)⟩, ⟨some 12, none, .pick (.tmp 7) (.tmp 11) (.const (.bool false))⟩, ⟨some 4, none, .mv (.tmp 12)⟩])
 .ret))
theorem fn_graph_Is : FnOk Try.prog 62 Try.f62 sc_graph_Is [.tmp 4] 2 := ⟨Try.func62, by kernel_rfl, by kernel_rfl, by kernel_rfl, by kernel_rfl, by kernel_rfl, by kernel_rfl⟩

def sc_graph_Check_L0 : SCode :=
 (.seq (.reg [1, 22, 23, 24] [⟨some 25, none, .bin .lss 3 (.tmp 24) (.tmp 23)⟩])
 (.seq (.cond (.tmp 25) .skip (.exit 1))
 (.seq (.block 2 (.seq (.reg [1, 22, 23, 24] [⟨some 26, none, .mv (.tmp 24)⟩, ⟨some 27, none, .ia none 4 (.tmp 22) (.tmp 24)⟩, ⟨some 28, none, .load 4 true (.tmp 27)⟩, ⟨some 5, none, .alloc 48 [(.int .i64 0), (.int .i64 0), (.int .i64 0), (.int .i64 0)]⟩, ⟨some 4, none, .mv (.tmp 26)⟩, ⟨none, none, .store 4 (.tmp 5) (.tmp 28)⟩])
 (.seq (.reg [1, 4, 5, 22, 23, 24] [⟨some 29, none, .load 2 true (.tmp 1)⟩, ⟨some 30, none, .load 4 true (.tmp 5)⟩, ⟨some 31, none, .call 86 [(.tmp 29), (.tmp 30)]⟩, ⟨some 6, none, .mv (.tmp 31)⟩])
 (.seq (.reg [1, 4, 6, 22, 23, 24] [⟨some 32, none, .mv (.tmp 6)⟩, ⟨some 33, none, .bin .neq 37 (.tmp 32) (.const (.int .i64 0))⟩])
 (.cond (.tmp 33) (.seq (.reg [4, 6] [⟨some 34, none, .mv (.tmp 4)⟩, ⟨some 35, none, .mv (.tmp 6)⟩, ⟨some 2, none, .mv (.tmp 34)⟩, ⟨some 3, none, .mv (.tmp 35)⟩])
 .ret) .skip)))))
 (.reg [1, 22, 23, 24] [⟨some 36, none, .bin .add 3 (.tmp 24) (.const (.int .i64 1))⟩, ⟨some 24, none, .mv (.tmp 36)⟩]))))
def sc_graph_Check : SCode :=
 (.seq (.reg [0] [⟨some 1, none, .box 24 (.tmp 0)⟩, ⟨some 2, none, .mv (.const (.int .i64 0))⟩, ⟨some 3, none, .mv (.const (.int .i64 0))⟩])
 (.seq (.block 0 (.seq (.reg [1] [⟨some 8, none, .fld 1 (.tmp 1)⟩, ⟨some 9, none, .load 1 false (.tmp 8)⟩, ⟨some 10, none, .len false (.tmp 9)⟩, ⟨some 11, none, .bin .gtr 3 (.tmp 10) (.const (.int .i64 120))⟩, ⟨some 7, none, .mv (.tmp 11)⟩])
 (.cond (.tmp 7) (.seq (.reg [] [⟨some 2, none, .mv (.const (.int .i64 (-1)))⟩, ⟨some 3, none, .mv (.const (.int .i64 6))⟩])
 .ret) (.seq (.reg [1] [⟨some 13, none, .fld 0 (.tmp 1)⟩, ⟨some 14, none, .load 1 false (.tmp 13)⟩, ⟨some 15, none, .bin .lss 3 (.tmp 14) (.const (.int .i64 1))⟩, ⟨some 16, none, .mv (.tmp 15)⟩, ⟨some 17, some (16, false), .fld 0 (.tmp 1)⟩, ⟨some 18, some (16, false), .load 1 false (.tmp 17)⟩, ⟨some 19, some (16, false), .bin .gtr 3 (.tmp 18) (.const (.int .i64 40))⟩, ⟨some 20, none, .pick (.tmp 16) (.const (.bool true)) (.tmp 19)⟩, ⟨some 12, none, .mv (.tmp 20)⟩])
 (.cond (.tmp 12) (.seq (.reg [] [⟨some 2, none, .mv (.const (.int .i64 (-1)))⟩, ⟨some 3, none, .mv (.const (.int .i64 1))⟩])
 .ret) .skip)))))
 (.seq (.seq (.reg [1] [⟨some 21, none, .fld 1 (.tmp 1)⟩, ⟨some 22, none, .load 1 false (.tmp 21)⟩, ⟨some 23, none, .len false (.tmp 22)⟩, ⟨some 24, none, .mv (.const (.int .i64 0))⟩])
 (.block 1 (.loop [1, 22, 23, 24] [] sc_graph_Check_L0)))
 (.seq (.reg [] [⟨some 2, none, .mv (.const (.int .i64 (-1)))⟩, ⟨some 3, none, .mv (.const (.int .i64 0))⟩])
 .ret))))
theorem fn_graph_Check : FnOk Try.prog 65 Try.f65 sc_graph_Check [.tmp 2, .tmp 3] 1 := ⟨Try.func65, by kernel_rfl, by kernel_rfl, by kernel_rfl, by kernel_rfl, by kernel_rfl, by kernel_rfl⟩

def sc_graph_link : SCode :=
 (.seq (.reg [0, 1] [⟨some 2, none, .box 24 (.tmp 0)⟩, ⟨some 3, none, .box 48 (.tmp 1)⟩, ⟨some 4, none, .mv (.const (.int .i64 0))⟩])
 (.seq (.block 0 (.seq (.reg [2, 3] [⟨some 6, none, .load 2 true (.tmp 2)⟩, ⟨some 7, none, .fld 0 (.tmp 3)⟩, ⟨some 8, none, .load 1 false (.tmp 7)⟩, ⟨some 9, none, .call 62 [(.tmp 6), (.tmp 8)]⟩, ⟨some 10, none, .un .not (.tmp 9)⟩, ⟨some 11, none, .mv (.tmp 10)⟩, ⟨some 12, some (11, false), .load 2 true (.tmp 2)⟩, ⟨some 13, some (11, false), .fld 1 (.tmp 3)⟩, ⟨some 14, some (11, false), .load 1 false (.tmp 13)⟩, ⟨some 15, some (11, false), .call 62 [(.tmp 12), (.tmp 14)]⟩, ⟨some 16, some (11, false), .un .not (.tmp 15)⟩, ⟨some 17, none, .pick (.tmp 11) (.const (.bool true)) (.tmp 16)⟩, ⟨some 18, none, .mv (.tmp 17)⟩, ⟨some 19, some (18, false), .fld 0 (.tmp 3)⟩, ⟨some 20, some (18, false), .load 1 false (.tmp 19)⟩, ⟨some 21, some (18, false), .fld 1 (.tmp 3)⟩, ⟨some 22, some (18, false), .load 1 false (.tmp 21)⟩, ⟨some 23, some (18, false), .bin .eql 3 (.tmp 20) (.tmp 22)⟩, ⟨some 24, none, .pick (.tmp 18) (.const (.bool true)) (.tmp 23)⟩, ⟨some 5, none, .mv (.tmp 24)⟩])
 (.cond (.tmp 5) (.seq (.reg [] [⟨some 4, none, .mv (.const (.int .i64 4))⟩])
 .ret) (.seq (.reg [3] [⟨some 26, none, .fld 2 (.tmp 3)⟩, ⟨some 27, none, .load 1 false (.tmp 26)⟩, ⟨some 28, none, .bin .lss 3 (.tmp 27) (.const (.int .i64 1))⟩, ⟨some 29, none, .mv (.tmp 28)⟩, ⟨some 30, some (29, false), .fld 2 (.tmp 3)⟩, ⟨some 31, some (29, false), .load 1 false (.tmp 30)⟩, ⟨some 32, some (29, false), .bin .gtr 3 (.tmp 31) (.const (.int .i64 16777216))⟩, ⟨some 33, none, .pick (.tmp 29) (.const (.bool true)) (.tmp 32)⟩, ⟨some 34, none, .mv (.tmp 33)⟩, ⟨some 35, some (34, false), .fld 3 (.tmp 3)⟩, ⟨some 36, some (34, false), .load 1 false (.tmp 35)⟩, ⟨some 37, some (34, false), .bin .lss 3 (.tmp 36) (.const (.int .i64 0))⟩, ⟨some 38, none, .pick (.tmp 34) (.const (.bool true)) (.tmp 37)⟩, ⟨some 39, none, .mv (.tmp 38)⟩, ⟨some 40, some (39, false), .fld 3 (.tmp 3)⟩, ⟨some 41, some (39, false), .load 1 false (.tmp 40)⟩, ⟨some 42, some (39, false), .bin .gtr 3 (.tmp 41) (.const (.int .i64 62))⟩, ⟨some 43, none, .pick (.tmp 39) (.const (.bool true)) (.tmp 42)⟩, ⟨some 25, none, .mv (.tmp 43)⟩])
 (.cond (.tmp 25) (.seq (.reg [] [⟨some 4, none, .mv (.const (.int .i64 1))⟩])
 .ret) .skip)))))
 (.seq (.reg [] [⟨some 4, none, .mv (.const (.int .i64 0))⟩])
 .ret)))
theorem fn_graph_link : FnOk Try.prog 86 Try.f86 sc_graph_link [.tmp 4] 2 := ⟨Try.func86, by kernel_rfl, by kernel_rfl, by kernel_rfl, by kernel_rfl, by kernel_rfl, by kernel_rfl⟩

def sc_graph_Right : SCode :=
 (.seq (.reg [0] [⟨some 1, none, .box 24 (.tmp 0)⟩, ⟨some 2, none, .mv (.const (.bool false))⟩])
 (.seq (.reg [1] [⟨some 6, none, .load 2 true (.tmp 1)⟩, ⟨some 7, none, .call 65 [(.tmp 6)]⟩, ⟨some 5, none, .mv (.tmp 7)⟩, ⟨some 8, none, .ext (.tmp 5) 0⟩, ⟨some 9, none, .ext (.tmp 5) 1⟩, ⟨some 3, none, .mv (.tmp 8)⟩, ⟨some 4, none, .mv (.tmp 9)⟩])
 (.seq (.reg [4] [⟨some 10, none, .mv (.tmp 4)⟩, ⟨some 11, none, .bin .eql 37 (.tmp 10) (.const (.int .i64 0))⟩, ⟨some 2, none, .mv (.tmp 11)⟩])
 .ret)))
theorem fn_graph_Right : FnOk Try.prog 88 Try.f88 sc_graph_Right [.tmp 2] 1 := ⟨Try.func88, by kernel_rfl, by kernel_rfl, by kernel_rfl, by kernel_rfl, by kernel_rfl, by kernel_rfl⟩

def sc_graph_Out_L0 : SCode :=
 (.seq (.reg [1, 2, 5, 13, 14] [⟨some 15, none, .bin .lss 3 (.tmp 14) (.tmp 13)⟩])
 (.seq (.cond (.tmp 15) .skip (.exit 0))
 (.seq (.block 1 (.seq (.reg [1, 2, 5, 13, 14] [⟨some 16, none, .mv (.tmp 14)⟩, ⟨some 6, none, .mv (.tmp 16)⟩])
 (.seq (.reg [1, 2, 5, 6, 13, 14] [⟨some 18, none, .load 2 true (.tmp 2)⟩, ⟨some 19, none, .mv (.tmp 6)⟩, ⟨some 20, none, .call 57 [(.tmp 18), (.tmp 19)]⟩, ⟨some 17, none, .mv (.tmp 20)⟩, ⟨some 21, none, .ext (.tmp 17) 0⟩, ⟨some 22, none, .ext (.tmp 17) 1⟩, ⟨some 23, none, .ext (.tmp 17) 2⟩, ⟨some 7, none, .mv (.tmp 21)⟩, ⟨some 8, none, .mv (.tmp 22)⟩, ⟨some 9, none, .mv (.tmp 23)⟩])
 (.seq (.reg [1, 2, 5, 6, 7, 13, 14] [⟨some 24, none, .mv (.tmp 7)⟩, ⟨some 25, none, .mv (.tmp 1)⟩, ⟨some 26, none, .bin .eql 3 (.tmp 24) (.tmp 25)⟩])
 (.cond (.tmp 26) (.reg [1, 2, 5, 6, 13, 14] [⟨some 27, none, .mv (.tmp 5)⟩, ⟨some 28, none, .mv (.tmp 6)⟩, ⟨some 29, none, .bsl 3 1 [(.int .i64 0)] 1 [(0, 1, (.tmp 28))]⟩, ⟨some 30, none, .app 25 3 1 8 (.int .i64 0) (.tmp 27) (.tmp 29)⟩, ⟨some 5, none, .mv (.tmp 30)⟩]) .skip)))))
 (.reg [1, 2, 5, 13, 14] [⟨some 31, none, .bin .add 3 (.tmp 14) (.const (.int .i64 1))⟩, ⟨some 14, none, .mv (.tmp 31)⟩]))))
def sc_graph_Out : SCode :=
 (.seq (.reg [0, 1] [⟨some 2, none, .box 24 (.tmp 0)⟩, ⟨some 4, none, .mv (.const (.slice none 0 0))⟩])
 (.seq (.reg [1, 2] [⟨some 5, none, .mv (.const (.slice none 0 0))⟩])
 (.seq (.seq (.reg [1, 2, 5] [⟨some 10, none, .fld 1 (.tmp 2)⟩, ⟨some 11, none, .load 1 false (.tmp 10)⟩, ⟨some 12, none, .len false (.tmp 11)⟩, ⟨some 13, none, .bin .mul 3 (.const (.int .i64 2)) (.tmp 12)⟩, ⟨some 14, none, .mv (.const (.int .i64 0))⟩])
 (.block 0 (.loop [1, 2, 5, 13, 14] [(5, 30, 3, 1)] sc_graph_Out_L0)))
 (.seq (.reg [5] [⟨some 32, none, .mv (.tmp 5)⟩, ⟨some 4, none, .mv (.tmp 32)⟩])
 .ret))))
theorem fn_graph_Out : FnOk Try.prog 89 Try.f89 sc_graph_Out [.tmp 4] 2 := ⟨Try.func89, by kernel_rfl, by kernel_rfl, by kernel_rfl, by kernel_rfl, by kernel_rfl, by kernel_rfl⟩

end Go.Proofs.Ytejmcijcdhoogaa
end

section
namespace Go.Proofs.Ytejmcijcdhoogaa
open Go Abs

def sc_heap_Heap_Push_L0 : SCode :=
 (.seq (.seq (.reg [0, 6] [⟨some 28, none, .mv (.tmp 6)⟩, ⟨some 29, none, .bin .gtr 3 (.tmp 28) (.const (.int .i64 0))⟩])
 (.cond (.tmp 29) .skip (.exit 0)))
 (.block 1 (.seq (.reg [0, 6] [⟨some 30, none, .mv (.tmp 6)⟩, ⟨some 31, none, .bin .sub 3 (.tmp 30) (.const (.int .i64 1))⟩, ⟨some 32, none, .bin .quo 3 (.tmp 31) (.const (.int .i64 2))⟩, ⟨some 7, none, .mv (.tmp 32)⟩])
 (.seq (.seq (.draw [0, 6, 7] [⟨some 33, none, .mv (.tmp 0)⟩, ⟨some 34, none, .nilc (.tmp 33)⟩, ⟨some 35, none, .fld 0 (.tmp 34)⟩, ⟨some 36, none, .load 1 false (.tmp 35)⟩, ⟨some 37, none, .mv (.tmp 6)⟩, ⟨some 38, none, .ia none 2 (.tmp 36) (.tmp 37)⟩, ⟨some 39, none, .load 2 true (.tmp 38)⟩, ⟨some 40, none, .mv (.tmp 0)⟩, ⟨some 41, none, .nilc (.tmp 40)⟩, ⟨some 42, none, .fld 0 (.tmp 41)⟩, ⟨some 43, none, .load 1 false (.tmp 42)⟩, ⟨some 44, none, .mv (.tmp 7)⟩, ⟨some 45, none, .ia none 2 (.tmp 43) (.tmp 44)⟩, ⟨some 46, none, .load 2 true (.tmp 45)⟩, ⟨some 47, none, .call 112 [(.tmp 39), (.tmp 46)]⟩, ⟨some 48, none, .un .not (.tmp 47)⟩])
 (.cond (.tmp 48) .ret .skip))
 (.seq (.draw [0, 6, 7] [⟨some 49, none, .mv (.tmp 0)⟩, ⟨some 50, none, .nilc (.tmp 49)⟩, ⟨some 51, none, .fld 0 (.tmp 50)⟩, ⟨some 52, none, .load 1 false (.tmp 51)⟩, ⟨some 53, none, .mv (.tmp 6)⟩, ⟨some 54, none, .mv (.tmp 0)⟩, ⟨some 55, none, .nilc (.tmp 54)⟩, ⟨some 56, none, .fld 0 (.tmp 55)⟩, ⟨some 57, none, .load 1 false (.tmp 56)⟩, ⟨some 58, none, .mv (.tmp 7)⟩, ⟨some 59, none, .mv (.tmp 0)⟩, ⟨some 60, none, .nilc (.tmp 59)⟩, ⟨some 61, none, .fld 0 (.tmp 60)⟩, ⟨some 62, none, .load 1 false (.tmp 61)⟩, ⟨some 63, none, .mv (.tmp 7)⟩, ⟨some 64, none, .ia none 2 (.tmp 62) (.tmp 63)⟩, ⟨some 65, none, .load 2 true (.tmp 64)⟩, ⟨some 66, none, .mv (.tmp 0)⟩, ⟨some 67, none, .nilc (.tmp 66)⟩, ⟨some 68, none, .fld 0 (.tmp 67)⟩, ⟨some 69, none, .load 1 false (.tmp 68)⟩, ⟨some 70, none, .mv (.tmp 6)⟩, ⟨some 71, none, .ia none 2 (.tmp 69) (.tmp 70)⟩, ⟨some 72, none, .load 2 true (.tmp 71)⟩, ⟨some 73, none, .ia none 2 (.tmp 52) (.tmp 53)⟩, ⟨none, none, .store 2 (.tmp 73) (.tmp 65)⟩, ⟨some 74, none, .ia none 2 (.tmp 57) (.tmp 58)⟩, ⟨none, none, .store 2 (.tmp 74) (.tmp 72)⟩])
 (.reg [0, 7] [⟨some 75, none, .mv (.tmp 7)⟩, ⟨some 6, none, .mv (.tmp 75)⟩]))))))
def sc_heap_Heap_Push : SCode :=
 (.seq (.seq (.reg [0, 1, 2] [⟨some 8, none, .mv (.tmp 0)⟩, ⟨some 9, none, .isnil .p false (.tmp 8)⟩])
 (.cond (.tmp 9) .ret .skip))
 (.seq (.reg [0, 1, 2] [⟨some 10, none, .mv (.tmp 0)⟩, ⟨some 11, none, .mv (.tmp 0)⟩, ⟨some 12, none, .nilc (.tmp 11)⟩, ⟨some 13, none, .fld 0 (.tmp 12)⟩, ⟨some 14, none, .load 1 false (.tmp 13)⟩, ⟨some 15, none, .mv (.tmp 1)⟩, ⟨some 16, none, .mv (.tmp 2)⟩, ⟨some 17, none, .build [(.int .i64 0), (.int .i64 0)] [(0, 1, (.tmp 15)), (1, 1, (.tmp 16))]⟩, ⟨some 18, none, .bsl 170 2 [(.int .i64 0), (.int .i64 0)] 1 [(0, 2, (.tmp 17))]⟩, ⟨some 19, none, .hp (.app 156 170 2 16 (.agg #[(.int .i64 0), (.int .i64 0)]) (.tmp 14) (.tmp 18))⟩, ⟨some 20, none, .nilc (.tmp 10)⟩, ⟨some 21, none, .fld 0 (.tmp 20)⟩, ⟨none, none, .store 1 (.tmp 21) (.tmp 19)⟩])
 (.seq (.reg [0] [⟨some 22, none, .mv (.tmp 0)⟩, ⟨some 23, none, .nilc (.tmp 22)⟩, ⟨some 24, none, .fld 0 (.tmp 23)⟩, ⟨some 25, none, .load 1 false (.tmp 24)⟩, ⟨some 26, none, .len false (.tmp 25)⟩, ⟨some 27, none, .bin .sub 3 (.tmp 26) (.const (.int .i64 1))⟩, ⟨some 6, none, .mv (.tmp 27)⟩])
 (.block 0 (.loop [0, 6] [] sc_heap_Heap_Push_L0)))))
theorem fn_heap_Heap_Push : FnOk Try.prog 98 Try.f98 sc_heap_Heap_Push [] 3 := ⟨Try.func98, by kernel_rfl, by kernel_rfl, by kernel_rfl, by kernel_rfl, by kernel_rfl, by kernel_rfl⟩

def sc_heap_Heap_Pop_L0 : SCode :=
 (.block 1 (.seq (.reg [0, 5, 7] [⟨some 45, none, .mv (.tmp 0)⟩, ⟨some 46, none, .mv (.tmp 7)⟩, ⟨some 47, none, .call 114 [(.tmp 45), (.tmp 46)]⟩, ⟨some 8, none, .mv (.tmp 47)⟩])
 (.seq (.seq (.reg [0, 5, 7, 8] [⟨some 48, none, .mv (.tmp 8)⟩, ⟨some 49, none, .mv (.tmp 7)⟩, ⟨some 50, none, .bin .eql 3 (.tmp 48) (.tmp 49)⟩])
 (.cond (.tmp 50) (.seq (.draw [5] [⟨some 51, none, .fld 0 (.tmp 5)⟩, ⟨some 52, none, .load 1 false (.tmp 51)⟩, ⟨some 53, none, .fld 1 (.tmp 5)⟩, ⟨some 54, none, .load 1 false (.tmp 53)⟩, ⟨some 2, none, .mv (.tmp 52)⟩, ⟨some 3, none, .mv (.tmp 54)⟩, ⟨some 4, none, .mv (.const (.bool true))⟩])
 .ret) .skip))
 (.seq (.draw [0, 5, 7, 8] [⟨some 55, none, .mv (.tmp 0)⟩, ⟨some 56, none, .nilc (.tmp 55)⟩, ⟨some 57, none, .fld 0 (.tmp 56)⟩, ⟨some 58, none, .load 1 false (.tmp 57)⟩, ⟨some 59, none, .mv (.tmp 7)⟩, ⟨some 60, none, .mv (.tmp 0)⟩, ⟨some 61, none, .nilc (.tmp 60)⟩, ⟨some 62, none, .fld 0 (.tmp 61)⟩, ⟨some 63, none, .load 1 false (.tmp 62)⟩, ⟨some 64, none, .mv (.tmp 8)⟩, ⟨some 65, none, .mv (.tmp 0)⟩, ⟨some 66, none, .nilc (.tmp 65)⟩, ⟨some 67, none, .fld 0 (.tmp 66)⟩, ⟨some 68, none, .load 1 false (.tmp 67)⟩, ⟨some 69, none, .mv (.tmp 8)⟩, ⟨some 70, none, .ia none 2 (.tmp 68) (.tmp 69)⟩, ⟨some 71, none, .load 2 true (.tmp 70)⟩, ⟨some 72, none, .mv (.tmp 0)⟩, ⟨some 73, none, .nilc (.tmp 72)⟩, ⟨some 74, none, .fld 0 (.tmp 73)⟩, ⟨some 75, none, .load 1 false (.tmp 74)⟩, ⟨some 76, none, .mv (.tmp 7)⟩, ⟨some 77, none, .ia none 2 (.tmp 75) (.tmp 76)⟩, ⟨some 78, none, .load 2 true (.tmp 77)⟩, ⟨some 79, none, .ia none 2 (.tmp 58) (.tmp 59)⟩, ⟨none, none, .store 2 (.tmp 79) (.tmp 71)⟩, ⟨some 80, none, .ia none 2 (.tmp 63) (.tmp 64)⟩, ⟨none, none, .store 2 (.tmp 80) (.tmp 78)⟩])
 (.reg [0, 5, 8] [⟨some 81, none, .mv (.tmp 8)⟩, ⟨some 7, none, .mv (.tmp 81)⟩])))))
def sc_heap_Heap_Pop : SCode :=
 (.seq (.reg [0] [⟨some 2, none, .mv (.const (.int .i64 0))⟩, ⟨some 3, none, .mv (.const (.int .i64 0))⟩, ⟨some 4, none, .mv (.const (.bool false))⟩])
 (.seq (.seq (.reg [0] [⟨some 9, none, .mv (.tmp 0)⟩, ⟨some 10, none, .call 113 [(.tmp 9)]⟩, ⟨some 11, none, .bin .eql 3 (.tmp 10) (.const (.int .i64 0))⟩])
 (.cond (.tmp 11) (.seq (.reg [] [⟨some 2, none, .mv (.const (.int .i64 0))⟩, ⟨some 3, none, .mv (.const (.int .i64 0))⟩, ⟨some 4, none, .mv (.const (.bool false))⟩])
 .ret) .skip))
 (.seq (.reg [0] [⟨some 12, none, .mv (.tmp 0)⟩, ⟨some 13, none, .nilc (.tmp 12)⟩, ⟨some 14, none, .fld 0 (.tmp 13)⟩, ⟨some 15, none, .load 1 false (.tmp 14)⟩, ⟨some 16, none, .ia none 2 (.tmp 15) (.const (.int .i64 0))⟩, ⟨some 17, none, .load 2 true (.tmp 16)⟩, ⟨some 5, none, .alloc 170 [(.int .i64 0), (.int .i64 0)]⟩, ⟨none, none, .store 2 (.tmp 5) (.tmp 17)⟩])
 (.seq (.reg [0, 5] [⟨some 18, none, .mv (.tmp 0)⟩, ⟨some 19, none, .nilc (.tmp 18)⟩, ⟨some 20, none, .fld 0 (.tmp 19)⟩, ⟨some 21, none, .load 1 false (.tmp 20)⟩, ⟨some 22, none, .len false (.tmp 21)⟩, ⟨some 23, none, .bin .sub 3 (.tmp 22) (.const (.int .i64 1))⟩, ⟨some 6, none, .mv (.tmp 23)⟩])
 (.seq (.draw [0, 5, 6] [⟨some 24, none, .mv (.tmp 0)⟩, ⟨some 25, none, .nilc (.tmp 24)⟩, ⟨some 26, none, .fld 0 (.tmp 25)⟩, ⟨some 27, none, .load 1 false (.tmp 26)⟩, ⟨some 28, none, .mv (.tmp 0)⟩, ⟨some 29, none, .nilc (.tmp 28)⟩, ⟨some 30, none, .fld 0 (.tmp 29)⟩, ⟨some 31, none, .load 1 false (.tmp 30)⟩, ⟨some 32, none, .mv (.tmp 6)⟩, ⟨some 33, none, .ia none 2 (.tmp 31) (.tmp 32)⟩, ⟨some 34, none, .load 2 true (.tmp 33)⟩, ⟨some 35, none, .ia none 2 (.tmp 27) (.const (.int .i64 0))⟩, ⟨none, none, .store 2 (.tmp 35) (.tmp 34)⟩])
 (.seq (.reg [0, 5, 6] [⟨some 36, none, .mv (.tmp 0)⟩, ⟨some 37, none, .mv (.tmp 0)⟩, ⟨some 38, none, .nilc (.tmp 37)⟩, ⟨some 39, none, .fld 0 (.tmp 38)⟩, ⟨some 40, none, .load 1 false (.tmp 39)⟩, ⟨some 41, none, .mv (.tmp 6)⟩, ⟨some 42, none, .slc (some 2) (.tmp 40) none (some (.tmp 41)) none⟩, ⟨some 43, none, .nilc (.tmp 36)⟩, ⟨some 44, none, .fld 0 (.tmp 43)⟩, ⟨none, none, .store 1 (.tmp 44) (.tmp 42)⟩])
 (.seq (.reg [0, 5] [⟨some 7, none, .mv (.const (.int .i64 0))⟩])
 (.block 0 (.loop [0, 5, 7] [] sc_heap_Heap_Pop_L0)))))))))
theorem fn_heap_Heap_Pop : FnOk Try.prog 99 Try.f99 sc_heap_Heap_Pop [.tmp 2, .tmp 3, .tmp 4] 1 := ⟨Try.func99, by kernel_rfl, by kernel_rfl, by kernel_rfl, by kernel_rfl, by kernel_rfl, by kernel_rfl⟩

def sc_heap_pair_ahead : SCode :=
 (.seq (.reg [0, 1] [⟨some 2, none, .box 170 (.tmp 0)⟩, ⟨some 3, none, .box 170 (.tmp 1)⟩, ⟨some 4, none, .mv (.const (.bool false))⟩])
 (.seq (.reg [2, 3] [⟨some 5, none, .fld 0 (.tmp 2)⟩, ⟨some 6, none, .load 1 false (.tmp 5)⟩, ⟨some 7, none, .fld 0 (.tmp 3)⟩, ⟨some 8, none, .load 1 false (.tmp 7)⟩, ⟨some 9, none, .bin .lss 3 (.tmp 6) (.tmp 8)⟩, ⟨some 10, none, .mv (.tmp 9)⟩, ⟨some 11, some (10, false), .fld 0 (.tmp 2)⟩, ⟨some 12, some (10, false), .load 1 false (.tmp 11)⟩, ⟨some 13, some (10, false), .fld 0 (.tmp 3)⟩, ⟨some 14, some (10, false), .load 1 false (.tmp 13)⟩, ⟨some 15, some (10, false), .bin .eql 3 (.tmp 12) (.tmp 14)⟩, ⟨some 16, some (10, false), .mv (.tmp 15)⟩, ⟨some 17, some (16, true), .fld 1 (.tmp 2)⟩, ⟨some 18, some (16, true), .load 1 false (.tmp 17)⟩, ⟨some 19, some (16, true), .fld 1 (.tmp 3)⟩, ⟨some 20, some (16, true), .load 1 false (.tmp 19)⟩, ⟨some 21, some (16, true), .bin .lss 3 (.tmp 18) (.tmp 20)⟩, ⟨some 22, some (10, false), .pick (.tmp 16) (.tmp 21) (.const (.bool false))⟩, ⟨some 23, none, .pick (.tmp 10) (.const (.bool true)) (.tmp 22)⟩, ⟨some 4, none, .mv (.tmp 23)⟩])
 .ret))
theorem fn_heap_pair_ahead : FnOk Try.prog 112 Try.f112 sc_heap_pair_ahead [.tmp 4] 2 := ⟨Try.func112, by kernel_rfl, by kernel_rfl, by kernel_rfl, by kernel_rfl, by kernel_rfl, by kernel_rfl⟩

def sc_heap_Heap_Len : SCode :=
 (.seq (.reg [0] [⟨some 2, none, .mv (.const (.int .i64 0))⟩])
 (.seq (.seq (.reg [0] [⟨some 3, none, .mv (.tmp 0)⟩, ⟨some 4, none, .isnil .p false (.tmp 3)⟩])
 (.cond (.tmp 4) (.seq (.reg [] [⟨some 2, none, .mv (.const (.int .i64 0))⟩])
 .ret) .skip))
 (.seq (.reg [0] [⟨some 5, none, .mv (.tmp 0)⟩, ⟨some 6, none, .nilc (.tmp 5)⟩, ⟨some 7, none, .fld 0 (.tmp 6)⟩, ⟨some 8, none, .load 1 false (.tmp 7)⟩, ⟨some 9, none, .len false (.tmp 8)⟩, ⟨some 2, none, .mv (.tmp 9)⟩])
 .ret)))
theorem fn_heap_Heap_Len : FnOk Try.prog 113 Try.f113 sc_heap_Heap_Len [.tmp 2] 1 := ⟨Try.func113, by kernel_rfl, by kernel_rfl, by kernel_rfl, by kernel_rfl, by kernel_rfl, by kernel_rfl⟩

def sc_heap_Heap_least_L0 : SCode :=
 (.seq (.seq (.reg [0, 1, 5, 6] [⟨some 11, none, .mv (.tmp 6)⟩, ⟨some 12, none, .mv (.tmp 1)⟩, ⟨some 13, none, .bin .mul 3 (.const (.int .i64 2)) (.tmp 12)⟩, ⟨some 14, none, .bin .add 3 (.tmp 13) (.const (.int .i64 2))⟩, ⟨some 15, none, .bin .leq 3 (.tmp 11) (.tmp 14)⟩, ⟨some 16, none, .mv (.tmp 15)⟩, ⟨some 17, some (16, true), .mv (.tmp 6)⟩, ⟨some 18, some (16, true), .mv (.tmp 0)⟩, ⟨some 19, some (16, true), .nilc (.tmp 18)⟩, ⟨some 20, some (16, true), .fld 0 (.tmp 19)⟩, ⟨some 21, some (16, true), .load 1 false (.tmp 20)⟩, ⟨some 22, some (16, true), .len false (.tmp 21)⟩, ⟨some 23, some (16, true), .bin .lss 3 (.tmp 17) (.tmp 22)⟩, ⟨some 24, none, .pick (.tmp 16) (.tmp 23) (.const (.bool false))⟩])
 (.cond (.tmp 24) .skip (.exit 0)))
 (.seq (.block 1 (.seq (.draw [0, 1, 5, 6] [⟨some 27, none, .mv (.tmp 0)⟩, ⟨some 28, none, .nilc (.tmp 27)⟩, ⟨some 29, none, .fld 0 (.tmp 28)⟩, ⟨some 30, none, .load 1 false (.tmp 29)⟩, ⟨some 31, none, .mv (.tmp 6)⟩, ⟨some 32, none, .ia none 2 (.tmp 30) (.tmp 31)⟩, ⟨some 33, none, .load 2 true (.tmp 32)⟩, ⟨some 34, none, .mv (.tmp 0)⟩, ⟨some 35, none, .nilc (.tmp 34)⟩, ⟨some 36, none, .fld 0 (.tmp 35)⟩, ⟨some 37, none, .load 1 false (.tmp 36)⟩, ⟨some 38, none, .mv (.tmp 5)⟩, ⟨some 39, none, .ia none 2 (.tmp 37) (.tmp 38)⟩, ⟨some 40, none, .load 2 true (.tmp 39)⟩, ⟨some 41, none, .call 112 [(.tmp 33), (.tmp 40)]⟩])
 (.cond (.tmp 41) (.reg [0, 1, 6] [⟨some 42, none, .mv (.tmp 6)⟩, ⟨some 5, none, .mv (.tmp 42)⟩]) .skip)))
 (.reg [0, 1, 5, 6] [⟨some 25, none, .mv (.tmp 6)⟩, ⟨some 26, none, .bin .add 3 (.tmp 25) (.const (.int .i64 1))⟩, ⟨some 6, none, .mv (.tmp 26)⟩])))
def sc_heap_Heap_least : SCode :=
 (.seq (.reg [0, 1] [⟨some 4, none, .mv (.const (.int .i64 0))⟩])
 (.seq (.reg [0, 1] [⟨some 7, none, .mv (.tmp 1)⟩, ⟨some 5, none, .mv (.tmp 7)⟩])
 (.seq (.seq (.reg [0, 1, 5] [⟨some 8, none, .mv (.tmp 1)⟩, ⟨some 9, none, .bin .mul 3 (.const (.int .i64 2)) (.tmp 8)⟩, ⟨some 10, none, .bin .add 3 (.tmp 9) (.const (.int .i64 1))⟩, ⟨some 6, none, .mv (.tmp 10)⟩])
 (.block 0 (.loop [0, 1, 5, 6] [] sc_heap_Heap_least_L0)))
 (.seq (.reg [5] [⟨some 43, none, .mv (.tmp 5)⟩, ⟨some 4, none, .mv (.tmp 43)⟩])
 .ret))))
theorem fn_heap_Heap_least : FnOk Try.prog 114 Try.f114 sc_heap_Heap_least [.tmp 4] 2 := ⟨Try.func114, by kernel_rfl, by kernel_rfl, by kernel_rfl, by kernel_rfl, by kernel_rfl, by kernel_rfl⟩

end Go.Proofs.Ytejmcijcdhoogaa
end

section
namespace Go.Proofs.Ytejmcijcdhoogaa
open Go Abs

def sc_opt_Goal : SCode :=
 (.seq (.reg [0] [⟨some 1, none, .box 27 (.tmp 0)⟩, ⟨some 2, none, .alloc 82 [(.int .i64 0), (.int .i64 0)]⟩])
 (.seq (.draw [1, 2] [⟨some 3, none, .fld 1 (.tmp 1)⟩, ⟨some 4, none, .load 1 false (.tmp 3)⟩, ⟨some 5, none, .load 7 true (.tmp 1)⟩, ⟨some 6, none, .call 71 [(.tmp 5)]⟩, ⟨some 7, none, .len false (.tmp 6)⟩, ⟨some 8, none, .bin .sub 3 (.tmp 7) (.const (.int .i64 1))⟩, ⟨some 9, none, .build [(.int .i64 0), (.int .i64 0)] [(0, 1, (.tmp 4)), (1, 1, (.tmp 8))]⟩, ⟨none, none, .store 2 (.tmp 2) (.tmp 9)⟩])
 .ret))
theorem fn_opt_Goal : FnOk Try.prog 42 Try.f42 sc_opt_Goal [.cell 2 2 true] 1 := ⟨Try.func42, by kernel_rfl, by kernel_rfl, by kernel_rfl, by kernel_rfl, by kernel_rfl, by kernel_rfl⟩

def sc_opt_Start : SCode :=
 (.seq (.reg [0] [⟨some 1, none, .box 27 (.tmp 0)⟩, ⟨some 2, none, .alloc 82 [(.int .i64 0), (.int .i64 0)]⟩])
 (.seq (.draw [1, 2] [⟨some 3, none, .load 7 true (.tmp 1)⟩, ⟨some 4, none, .call 71 [(.tmp 3)]⟩, ⟨some 5, none, .fld 0 (.tmp 1)⟩, ⟨some 6, none, .load 1 false (.tmp 5)⟩, ⟨some 7, none, .call 72 [(.tmp 4), (.tmp 6), (.const (.int .i64 0))]⟩, ⟨none, none, .store 2 (.tmp 2) (.tmp 7)⟩])
 .ret))
theorem fn_opt_Start : FnOk Try.prog 43 Try.f43 sc_opt_Start [.cell 2 2 true] 1 := ⟨Try.func43, by kernel_rfl, by kernel_rfl, by kernel_rfl, by kernel_rfl, by kernel_rfl, by kernel_rfl⟩

def sc_opt_New_L0 : SCode :=
 (.seq (.reg [3, 4, 9, 33, 34, 35] [⟨some 36, none, .bin .lss 3 (.tmp 35) (.tmp 34)⟩])
 (.seq (.cond (.tmp 36) .skip (.exit 0))
 (.seq (.block 1 (.seq (.reg [3, 4, 9, 33, 34, 35] [⟨some 37, none, .mv (.tmp 35)⟩, ⟨some 38, none, .ia none 1 (.tmp 33) (.tmp 35)⟩, ⟨some 39, none, .load 1 false (.tmp 38)⟩, ⟨some 10, none, .mv (.tmp 37)⟩, ⟨some 11, none, .mv (.tmp 39)⟩])
 (.seq (.draw [3, 4, 9, 10, 11, 33, 34, 35] [⟨some 40, none, .load 2 true (.tmp 3)⟩, ⟨some 41, none, .mv (.tmp 9)⟩, ⟨some 42, none, .nilc (.tmp 41)⟩, ⟨some 43, none, .fld 3 (.tmp 42)⟩, ⟨some 44, none, .hp (.load 1 false (.tmp 43))⟩, ⟨some 45, none, .mv (.tmp 11)⟩, ⟨some 46, none, .call 67 [(.tmp 40), (.tmp 44), (.tmp 45)]⟩, ⟨some 12, none, .mv (.tmp 46)⟩])
 (.seq (.reg [3, 4, 9, 10, 12, 33, 34, 35] [⟨some 47, none, .mv (.tmp 12)⟩, ⟨some 48, none, .mv (.tmp 9)⟩, ⟨some 49, none, .nilc (.tmp 48)⟩, ⟨some 50, none, .fld 2 (.tmp 49)⟩, ⟨some 51, none, .load 1 false (.tmp 50)⟩, ⟨some 52, none, .mv (.tmp 10)⟩, ⟨some 53, none, .ia none 1 (.tmp 51) (.tmp 52)⟩, ⟨some 54, none, .load 1 false (.tmp 53)⟩, ⟨some 55, none, .ia none 1 (.tmp 47) (.tmp 54)⟩, ⟨some 56, none, .load 1 false (.tmp 55)⟩, ⟨some 13, none, .mv (.tmp 56)⟩])
 (.seq (.seq (.reg [3, 4, 9, 12, 13, 33, 34, 35] [⟨some 57, none, .mv (.tmp 13)⟩, ⟨some 58, none, .bin .lss 3 (.tmp 57) (.const (.int .i64 0))⟩])
 (.cond (.tmp 58) (.seq (.reg [] [⟨some 6, none, .mv (.const (.pointer none))⟩, ⟨some 7, none, .mv (.const (.int .i64 8))⟩])
 .ret) .skip))
 (.seq (.reg [3, 4, 9, 12, 13, 33, 34, 35] [⟨some 59, none, .mv (.tmp 9)⟩, ⟨some 60, none, .mv (.tmp 9)⟩, ⟨some 61, none, .nilc (.tmp 60)⟩, ⟨some 62, none, .fld 4 (.tmp 61)⟩, ⟨some 63, none, .load 1 false (.tmp 62)⟩, ⟨some 64, none, .mv (.tmp 12)⟩, ⟨some 65, none, .bsl 25 1 [(.slice none 0 0)] 1 [(0, 1, (.tmp 64))]⟩, ⟨some 66, none, .hp (.app 98 25 1 24 (.slice none 0 0) (.tmp 63) (.tmp 65))⟩, ⟨some 67, none, .nilc (.tmp 59)⟩, ⟨some 68, none, .fld 4 (.tmp 67)⟩, ⟨none, none, .store 1 (.tmp 68) (.tmp 66)⟩])
 (.reg [3, 4, 9, 13, 33, 34, 35] [⟨some 69, none, .mv (.tmp 9)⟩, ⟨some 70, none, .nilc (.tmp 69)⟩, ⟨some 71, none, .fld 5 (.tmp 70)⟩, ⟨some 72, none, .load 1 false (.tmp 71)⟩, ⟨some 73, none, .mv (.tmp 13)⟩, ⟨some 74, none, .bin .add 3 (.tmp 72) (.tmp 73)⟩, ⟨some 75, none, .nilc (.tmp 69)⟩, ⟨some 76, none, .fld 5 (.tmp 75)⟩, ⟨none, none, .store 1 (.tmp 76) (.tmp 74)⟩])))))))
 (.reg [3, 4, 9, 33, 34, 35] [⟨some 77, none, .bin .add 3 (.tmp 35) (.const (.int .i64 1))⟩, ⟨some 35, none, .mv (.tmp 77)⟩]))))
def sc_opt_New : SCode :=
 (.seq (.reg [0, 1, 2] [⟨some 3, none, .box 24 (.tmp 0)⟩, ⟨some 4, none, .box 27 (.tmp 1)⟩, ⟨some 6, none, .mv (.const (.pointer none))⟩, ⟨some 7, none, .mv (.const (.int .i64 0))⟩])
 (.seq (.seq (.reg [2, 3, 4] [⟨some 14, none, .load 2 true (.tmp 3)⟩, ⟨some 15, none, .load 7 true (.tmp 4)⟩, ⟨some 16, none, .call 90 [(.tmp 14), (.tmp 15)]⟩, ⟨some 8, none, .mv (.tmp 16)⟩])
 (.seq (.reg [2, 3, 4, 8] [⟨some 17, none, .mv (.tmp 8)⟩, ⟨some 18, none, .bin .neq 37 (.tmp 17) (.const (.int .i64 0))⟩])
 (.cond (.tmp 18) (.seq (.reg [8] [⟨some 19, none, .mv (.tmp 8)⟩, ⟨some 6, none, .mv (.const (.pointer none))⟩, ⟨some 7, none, .mv (.tmp 19)⟩])
 .ret) .skip)))
 (.seq (.draw [2, 3, 4] [⟨some 20, none, .load 2 true (.tmp 3)⟩, ⟨some 21, none, .load 7 true (.tmp 4)⟩, ⟨some 22, none, .call 71 [(.tmp 21)]⟩, ⟨some 23, none, .load 2 true (.tmp 3)⟩, ⟨some 24, none, .load 7 true (.tmp 4)⟩, ⟨some 25, none, .mv (.tmp 2)⟩, ⟨some 26, none, .call 91 [(.tmp 23), (.tmp 24), (.tmp 25)]⟩, ⟨some 27, none, .build [(.int .i64 0), (.slice none 0 0), (.slice none 0 0), (.slice none 0 0), (.slice none 0 0), (.int .i64 0)] [(0, 2, (.tmp 20)), (2, 1, (.tmp 22)), (3, 1, (.tmp 26))]⟩, ⟨some 28, none, .hp (.box 152 (.tmp 27))⟩, ⟨some 9, none, .mv (.tmp 28)⟩])
 (.seq (.seq (.reg [3, 4, 9] [⟨some 29, none, .mv (.tmp 9)⟩, ⟨some 30, none, .nilc (.tmp 29)⟩, ⟨some 31, none, .fld 2 (.tmp 30)⟩, ⟨some 32, none, .load 1 false (.tmp 31)⟩, ⟨some 33, none, .slc (some 1) (.tmp 32) (some (.const (.int .i64 1))) none none⟩, ⟨some 34, none, .len false (.tmp 33)⟩, ⟨some 35, none, .mv (.const (.int .i64 0))⟩])
 (.block 0 (.loop [3, 4, 9, 33, 34, 35] [] sc_opt_New_L0)))
 (.seq (.seq (.draw [4, 9] [⟨some 78, none, .fld 2 (.tmp 4)⟩, ⟨some 79, none, .load 1 false (.tmp 78)⟩, ⟨some 80, none, .bin .gtr 3 (.tmp 79) (.const (.int .i64 0))⟩, ⟨some 81, none, .mv (.tmp 80)⟩, ⟨some 82, some (81, true), .mv (.tmp 9)⟩, ⟨some 83, some (81, true), .nilc (.tmp 82)⟩, ⟨some 84, some (81, true), .fld 5 (.tmp 83)⟩, ⟨some 85, some (81, true), .hp (.load 1 false (.tmp 84))⟩, ⟨some 86, some (81, true), .fld 2 (.tmp 4)⟩, ⟨some 87, some (81, true), .load 1 false (.tmp 86)⟩, ⟨some 88, some (81, true), .bin .gtr 3 (.tmp 85) (.tmp 87)⟩, ⟨some 89, none, .pick (.tmp 81) (.tmp 88) (.const (.bool false))⟩])
 (.cond (.tmp 89) (.seq (.reg [] [⟨some 6, none, .mv (.const (.pointer none))⟩, ⟨some 7, none, .mv (.const (.int .i64 8))⟩])
 .ret) .skip))
 (.seq (.reg [9] [⟨some 90, none, .mv (.tmp 9)⟩, ⟨some 6, none, .mv (.tmp 90)⟩, ⟨some 7, none, .mv (.const (.int .i64 0))⟩])
 .ret))))))
theorem fn_opt_New : FnOk Try.prog 70 Try.f70 sc_opt_New [.tmp 6, .tmp 7] 3 := ⟨Try.func70, by kernel_rfl, by kernel_rfl, by kernel_rfl, by kernel_rfl, by kernel_rfl, by kernel_rfl⟩

def sc_opt_points : SCode :=
 (.seq (.reg [0] [⟨some 1, none, .box 27 (.tmp 0)⟩, ⟨some 2, none, .mv (.const (.slice none 0 0))⟩])
 (.seq (.reg [1] [⟨some 4, none, .fld 0 (.tmp 1)⟩, ⟨some 5, none, .load 1 false (.tmp 4)⟩, ⟨some 6, none, .ow (.bsl 3 1 [(.int .i64 0)] 1 [(0, 1, (.tmp 5))])⟩, ⟨some 7, none, .fld 3 (.tmp 1)⟩, ⟨some 8, none, .load 1 false (.tmp 7)⟩, ⟨some 9, none, .app 25 3 1 8 (.int .i64 0) (.tmp 6) (.tmp 8)⟩, ⟨some 3, none, .mv (.tmp 9)⟩])
 (.seq (.reg [1, 3] [⟨some 10, none, .mv (.tmp 3)⟩, ⟨some 11, none, .fld 1 (.tmp 1)⟩, ⟨some 12, none, .load 1 false (.tmp 11)⟩, ⟨some 13, none, .bsl 3 1 [(.int .i64 0)] 1 [(0, 1, (.tmp 12))]⟩, ⟨some 14, none, .app 25 3 1 8 (.int .i64 0) (.tmp 10) (.tmp 13)⟩, ⟨some 2, none, .mv (.tmp 14)⟩])
 .ret)))
theorem fn_opt_points : FnOk Try.prog 71 Try.f71 sc_opt_points [.tmp 2] 1 := ⟨Try.func71, by kernel_rfl, by kernel_rfl, by kernel_rfl, by kernel_rfl, by kernel_rfl, by kernel_rfl⟩

def sc_opt_come_L0 : SCode :=
 (.seq (.seq (.reg [0, 1, 2, 6] [⟨some 7, none, .mv (.tmp 2)⟩, ⟨some 8, none, .bin .add 3 (.tmp 7) (.const (.int .i64 1))⟩, ⟨some 9, none, .mv (.tmp 0)⟩, ⟨some 10, none, .len false (.tmp 9)⟩, ⟨some 11, none, .bin .lss 3 (.tmp 8) (.tmp 10)⟩, ⟨some 12, none, .mv (.tmp 11)⟩, ⟨some 13, some (12, true), .mv (.tmp 0)⟩, ⟨some 14, some (12, true), .mv (.tmp 2)⟩, ⟨some 15, some (12, true), .bin .add 3 (.tmp 14) (.const (.int .i64 1))⟩, ⟨some 16, some (12, true), .ia none 1 (.tmp 13) (.tmp 15)⟩, ⟨some 17, some (12, true), .load 1 false (.tmp 16)⟩, ⟨some 18, some (12, true), .mv (.tmp 1)⟩, ⟨some 19, some (12, true), .bin .eql 3 (.tmp 17) (.tmp 18)⟩, ⟨some 20, none, .pick (.tmp 12) (.tmp 19) (.const (.bool false))⟩])
 (.cond (.tmp 20) .skip (.exit 0)))
 (.block 1 (.reg [0, 1, 2, 6] [⟨some 21, none, .mv (.tmp 2)⟩, ⟨some 22, none, .bin .add 3 (.tmp 21) (.const (.int .i64 1))⟩, ⟨some 2, none, .mv (.tmp 22)⟩])))
def sc_opt_come : SCode :=
 (.seq (.reg [0, 1, 2] [⟨some 6, none, .alloc 82 [(.int .i64 0), (.int .i64 0)]⟩])
 (.seq (.block 0 (.loop [0, 1, 2, 6] [] sc_opt_come_L0))
 (.seq (.reg [1, 2, 6] [⟨some 23, none, .mv (.tmp 1)⟩, ⟨some 24, none, .mv (.tmp 2)⟩, ⟨some 25, none, .build [(.int .i64 0), (.int .i64 0)] [(0, 1, (.tmp 23)), (1, 1, (.tmp 24))]⟩, ⟨none, none, .store 2 (.tmp 6) (.tmp 25)⟩])
 .ret)))
theorem fn_opt_come : FnOk Try.prog 72 Try.f72 sc_opt_come [.cell 6 2 true] 3 := ⟨Try.func72, by kernel_rfl, by kernel_rfl, by kernel_rfl, by kernel_rfl, by kernel_rfl, by kernel_rfl⟩

def sc_opt_Ways_Step : SCode :=
 (.seq (.reg [0, 1, 2] [⟨some 4, none, .box 82 (.tmp 1)⟩, ⟨some 6, none, .alloc 82 [(.int .i64 0), (.int .i64 0)]⟩, ⟨some 7, none, .mv (.const (.bool false))⟩])
 (.seq (.draw [0, 2, 4, 6] [⟨some 14, none, .ia (some 2) 1 (.tmp 4) (.const (.int .i64 0))⟩, ⟨some 15, none, .load 1 false (.tmp 14)⟩, ⟨some 16, none, .ia (some 2) 1 (.tmp 4) (.const (.int .i64 1))⟩, ⟨some 17, none, .load 1 false (.tmp 16)⟩, ⟨some 8, none, .mv (.tmp 15)⟩, ⟨some 9, none, .mv (.tmp 17)⟩])
 (.seq (.seq (.reg [0, 2, 6, 8, 9] [⟨some 18, none, .mv (.tmp 0)⟩, ⟨some 19, none, .isnil .p false (.tmp 18)⟩, ⟨some 20, none, .mv (.tmp 19)⟩, ⟨some 21, some (20, false), .mv (.tmp 9)⟩, ⟨some 22, some (20, false), .bin .lss 3 (.tmp 21) (.const (.int .i64 0))⟩, ⟨some 23, none, .pick (.tmp 20) (.const (.bool true)) (.tmp 22)⟩, ⟨some 24, none, .mv (.tmp 23)⟩, ⟨some 25, some (24, false), .mv (.tmp 9)⟩, ⟨some 26, some (24, false), .mv (.tmp 0)⟩, ⟨some 27, some (24, false), .nilc (.tmp 26)⟩, ⟨some 28, some (24, false), .fld 2 (.tmp 27)⟩, ⟨some 29, some (24, false), .load 1 false (.tmp 28)⟩, ⟨some 30, some (24, false), .len false (.tmp 29)⟩, ⟨some 31, some (24, false), .bin .sub 3 (.tmp 30) (.const (.int .i64 1))⟩, ⟨some 32, some (24, false), .bin .geq 3 (.tmp 25) (.tmp 31)⟩, ⟨some 33, none, .pick (.tmp 24) (.const (.bool true)) (.tmp 32)⟩, ⟨some 34, none, .mv (.tmp 33)⟩, ⟨some 35, some (34, false), .mv (.tmp 0)⟩, ⟨some 36, some (34, false), .nilc (.tmp 35)⟩, ⟨some 37, some (34, false), .fld 0 (.tmp 36)⟩, ⟨some 38, some (34, false), .load 2 true (.tmp 37)⟩, ⟨some 39, some (34, false), .mv (.tmp 8)⟩, ⟨some 40, some (34, false), .call 62 [(.tmp 38), (.tmp 39)]⟩, ⟨some 41, some (34, false), .un .not (.tmp 40)⟩, ⟨some 42, none, .pick (.tmp 34) (.const (.bool true)) (.tmp 41)⟩, ⟨some 43, none, .mv (.tmp 42)⟩, ⟨some 44, some (43, false), .mv (.tmp 0)⟩, ⟨some 45, some (43, false), .nilc (.tmp 44)⟩, ⟨some 46, some (43, false), .fld 2 (.tmp 45)⟩, ⟨some 47, some (43, false), .load 1 false (.tmp 46)⟩, ⟨some 48, some (43, false), .mv (.tmp 9)⟩, ⟨some 49, some (43, false), .bin .add 3 (.tmp 48) (.const (.int .i64 1))⟩, ⟨some 50, some (43, false), .ia none 1 (.tmp 47) (.tmp 49)⟩, ⟨some 51, some (43, false), .load 1 false (.tmp 50)⟩, ⟨some 52, some (43, false), .mv (.tmp 8)⟩, ⟨some 53, some (43, false), .bin .eql 3 (.tmp 51) (.tmp 52)⟩, ⟨some 54, none, .pick (.tmp 43) (.const (.bool true)) (.tmp 53)⟩])
 (.cond (.tmp 54) (.seq (.reg [6] [⟨some 55, none, .build [(.int .i64 0), (.int .i64 0)] []⟩, ⟨none, none, .store 2 (.tmp 6) (.tmp 55)⟩, ⟨some 7, none, .mv (.const (.bool false))⟩])
 .ret) .skip))
 (.seq (.reg [0, 2, 6, 8, 9] [⟨some 57, none, .mv (.tmp 0)⟩, ⟨some 58, none, .nilc (.tmp 57)⟩, ⟨some 59, none, .fld 0 (.tmp 58)⟩, ⟨some 60, none, .load 2 true (.tmp 59)⟩, ⟨some 61, none, .mv (.tmp 2)⟩, ⟨some 62, none, .call 57 [(.tmp 60), (.tmp 61)]⟩, ⟨some 56, none, .mv (.tmp 62)⟩, ⟨some 63, none, .ext (.tmp 56) 0⟩, ⟨some 64, none, .ext (.tmp 56) 1⟩, ⟨some 65, none, .ext (.tmp 56) 2⟩, ⟨some 10, none, .mv (.tmp 63)⟩, ⟨some 11, none, .mv (.tmp 64)⟩, ⟨some 12, none, .mv (.tmp 65)⟩])
 (.seq (.reg [0, 2, 6, 8, 9, 10, 11, 12] [⟨some 66, none, .mv (.tmp 0)⟩, ⟨some 67, none, .nilc (.tmp 66)⟩, ⟨some 68, none, .fld 4 (.tmp 67)⟩, ⟨some 69, none, .load 1 false (.tmp 68)⟩, ⟨some 70, none, .mv (.tmp 9)⟩, ⟨some 71, none, .ia none 1 (.tmp 69) (.tmp 70)⟩, ⟨some 72, none, .load 1 false (.tmp 71)⟩, ⟨some 13, none, .mv (.tmp 72)⟩])
 (.seq (.seq (.draw [0, 2, 6, 8, 9, 10, 11, 12, 13] [⟨some 73, none, .mv (.tmp 12)⟩, ⟨some 74, none, .un .not (.tmp 73)⟩, ⟨some 75, none, .mv (.tmp 74)⟩, ⟨some 76, some (75, false), .mv (.tmp 10)⟩, ⟨some 77, some (75, false), .mv (.tmp 8)⟩, ⟨some 78, some (75, false), .bin .neq 3 (.tmp 76) (.tmp 77)⟩, ⟨some 79, none, .pick (.tmp 75) (.const (.bool true)) (.tmp 78)⟩, ⟨some 80, none, .mv (.tmp 79)⟩, ⟨some 81, some (80, false), .mv (.tmp 0)⟩, ⟨some 82, some (80, false), .nilc (.tmp 81)⟩, ⟨some 83, some (80, false), .fld 3 (.tmp 82)⟩, ⟨some 84, some (80, false), .load 1 false (.tmp 83)⟩, ⟨some 85, some (80, false), .mv (.tmp 2)⟩, ⟨some 86, some (80, false), .call 83 [(.tmp 84), (.tmp 85)]⟩, ⟨some 87, some (80, false), .un .not (.tmp 86)⟩, ⟨some 88, none, .pick (.tmp 80) (.const (.bool true)) (.tmp 87)⟩, ⟨some 89, none, .mv (.tmp 88)⟩, ⟨some 90, some (89, false), .mv (.tmp 13)⟩, ⟨some 91, some (89, false), .mv (.tmp 11)⟩, ⟨some 92, some (89, false), .ia none 1 (.tmp 90) (.tmp 91)⟩, ⟨some 93, some (89, false), .load 1 false (.tmp 92)⟩, ⟨some 94, some (89, false), .bin .lss 3 (.tmp 93) (.const (.int .i64 0))⟩, ⟨some 95, none, .pick (.tmp 89) (.const (.bool true)) (.tmp 94)⟩, ⟨some 96, none, .mv (.tmp 95)⟩, ⟨some 97, some (96, false), .mv (.tmp 13)⟩, ⟨some 98, some (96, false), .mv (.tmp 8)⟩, ⟨some 99, some (96, false), .ia none 1 (.tmp 97) (.tmp 98)⟩, ⟨some 100, some (96, false), .load 1 false (.tmp 99)⟩, ⟨some 101, some (96, false), .mv (.tmp 13)⟩, ⟨some 102, some (96, false), .mv (.tmp 11)⟩, ⟨some 103, some (96, false), .ia none 1 (.tmp 101) (.tmp 102)⟩, ⟨some 104, some (96, false), .load 1 false (.tmp 103)⟩, ⟨some 105, some (96, false), .mv (.tmp 0)⟩, ⟨some 106, some (96, false), .nilc (.tmp 105)⟩, ⟨some 107, some (96, false), .fld 0 (.tmp 106)⟩, ⟨some 108, some (96, false), .fld 1 (.tmp 107)⟩, ⟨some 109, some (96, false), .load 1 false (.tmp 108)⟩, ⟨some 110, some (96, false), .mv (.tmp 2)⟩, ⟨some 111, some (96, false), .bin .quo 3 (.tmp 110) (.const (.int .i64 2))⟩, ⟨some 112, some (96, false), .ia none 4 (.tmp 109) (.tmp 111)⟩, ⟨some 113, some (96, false), .fld 2 (.tmp 112)⟩, ⟨some 114, some (96, false), .load 1 false (.tmp 113)⟩, ⟨some 115, some (96, false), .bin .add 3 (.tmp 104) (.tmp 114)⟩, ⟨some 116, some (96, false), .bin .neq 3 (.tmp 100) (.tmp 115)⟩, ⟨some 117, none, .pick (.tmp 96) (.const (.bool true)) (.tmp 116)⟩])
 (.cond (.tmp 117) (.seq (.reg [6] [⟨some 118, none, .build [(.int .i64 0), (.int .i64 0)] []⟩, ⟨none, none, .store 2 (.tmp 6) (.tmp 118)⟩, ⟨some 7, none, .mv (.const (.bool false))⟩])
 .ret) .skip))
 (.seq (.reg [0, 6, 9, 11] [⟨some 119, none, .mv (.tmp 0)⟩, ⟨some 120, none, .nilc (.tmp 119)⟩, ⟨some 121, none, .fld 2 (.tmp 120)⟩, ⟨some 122, none, .load 1 false (.tmp 121)⟩, ⟨some 123, none, .mv (.tmp 11)⟩, ⟨some 124, none, .mv (.tmp 9)⟩, ⟨some 125, none, .call 72 [(.tmp 122), (.tmp 123), (.tmp 124)]⟩, ⟨none, none, .store 2 (.tmp 6) (.tmp 125)⟩, ⟨some 7, none, .mv (.const (.bool true))⟩])
 .ret)))))))
theorem fn_opt_Ways_Step : FnOk Try.prog 92 Try.f92 sc_opt_Ways_Step [.cell 6 2 true, .tmp 7] 3 := ⟨Try.func92, by kernel_rfl, by kernel_rfl, by kernel_rfl, by kernel_rfl, by kernel_rfl, by kernel_rfl⟩

end Go.Proofs.Ytejmcijcdhoogaa
end

section
namespace Go.Proofs.Ytejmcijcdhoogaa
open Go Abs

def sc_prune_Right : SCode :=
 (.seq (.reg [0, 1] [⟨some 2, none, .box 24 (.tmp 0)⟩, ⟨some 3, none, .box 27 (.tmp 1)⟩, ⟨some 4, none, .mv (.const (.int .i64 0))⟩])
 (.seq (.seq (.reg [2, 3] [⟨some 11, none, .load 2 true (.tmp 2)⟩, ⟨some 12, none, .call 65 [(.tmp 11)]⟩, ⟨some 10, none, .mv (.tmp 12)⟩, ⟨some 13, none, .ext (.tmp 10) 0⟩, ⟨some 14, none, .ext (.tmp 10) 1⟩, ⟨some 5, none, .mv (.tmp 13)⟩, ⟨some 6, none, .mv (.tmp 14)⟩])
 (.seq (.reg [2, 3, 6] [⟨some 15, none, .mv (.tmp 6)⟩, ⟨some 16, none, .bin .neq 37 (.tmp 15) (.const (.int .i64 0))⟩])
 (.cond (.tmp 16) (.seq (.reg [6] [⟨some 17, none, .mv (.tmp 6)⟩, ⟨some 4, none, .mv (.tmp 17)⟩])
 .ret) .skip)))
 (.seq (.reg [2, 3] [⟨some 18, none, .mkfn (.func 100) [] [(.tmp 2)]⟩, ⟨some 7, none, .mv (.tmp 18)⟩])
 (.seq (.reg [2, 3, 7] [⟨some 19, none, .mkfn (.func 101) [] [(.tmp 2)]⟩, ⟨some 8, none, .mv (.tmp 19)⟩])
 (.seq (.reg [3, 7, 8] [⟨some 9, none, .mv (.func 102)⟩])
 (.seq (.block 0 (.seq (.reg [3, 7, 8, 9] [⟨some 21, none, .mv (.tmp 7)⟩, ⟨some 22, none, .fld 0 (.tmp 3)⟩, ⟨some 23, none, .load 1 false (.tmp 22)⟩, ⟨some 24, none, .cald (.tmp 21) [(.tmp 23)]⟩, ⟨some 25, none, .mv (.tmp 24)⟩, ⟨some 26, some (25, false), .mv (.tmp 7)⟩, ⟨some 27, some (25, false), .fld 1 (.tmp 3)⟩, ⟨some 28, some (25, false), .load 1 false (.tmp 27)⟩, ⟨some 29, some (25, false), .cald (.tmp 26) [(.tmp 28)]⟩, ⟨some 30, none, .pick (.tmp 25) (.const (.bool true)) (.tmp 29)⟩, ⟨some 31, none, .mv (.tmp 30)⟩, ⟨some 32, some (31, false), .fld 3 (.tmp 3)⟩, ⟨some 33, some (31, false), .load 1 false (.tmp 32)⟩, ⟨some 34, some (31, false), .mv (.tmp 7)⟩, ⟨some 35, some (31, false), .call 103 [(.tmp 33), (.tmp 34)]⟩, ⟨some 36, none, .pick (.tmp 31) (.const (.bool true)) (.tmp 35)⟩, ⟨some 37, none, .mv (.tmp 36)⟩, ⟨some 38, some (37, false), .fld 4 (.tmp 3)⟩, ⟨some 39, some (37, false), .load 1 false (.tmp 38)⟩, ⟨some 40, some (37, false), .mv (.tmp 7)⟩, ⟨some 41, some (37, false), .call 103 [(.tmp 39), (.tmp 40)]⟩, ⟨some 42, none, .pick (.tmp 37) (.const (.bool true)) (.tmp 41)⟩, ⟨some 20, none, .mv (.tmp 42)⟩])
 (.cond (.tmp 20) (.seq (.reg [] [⟨some 4, none, .mv (.const (.int .i64 4))⟩])
 .ret) (.seq (.reg [3, 8, 9] [⟨some 44, none, .fld 5 (.tmp 3)⟩, ⟨some 45, none, .load 1 false (.tmp 44)⟩, ⟨some 46, none, .mv (.tmp 8)⟩, ⟨some 47, none, .call 103 [(.tmp 45), (.tmp 46)]⟩, ⟨some 43, none, .mv (.tmp 47)⟩])
 (.cond (.tmp 43) (.seq (.reg [] [⟨some 4, none, .mv (.const (.int .i64 5))⟩])
 .ret) (.seq (.reg [3, 9] [⟨some 49, none, .fld 6 (.tmp 3)⟩, ⟨some 50, none, .load 1 false (.tmp 49)⟩, ⟨some 51, none, .mv (.tmp 9)⟩, ⟨some 52, none, .call 103 [(.tmp 50), (.tmp 51)]⟩, ⟨some 53, none, .mv (.tmp 52)⟩, ⟨some 54, some (53, false), .fld 2 (.tmp 3)⟩, ⟨some 55, some (53, false), .load 1 false (.tmp 54)⟩, ⟨some 56, some (53, false), .bin .lss 3 (.tmp 55) (.const (.int .i64 0))⟩, ⟨some 57, none, .pick (.tmp 53) (.const (.bool true)) (.tmp 56)⟩, ⟨some 48, none, .mv (.tmp 57)⟩])
 (.cond (.tmp 48) (.seq (.reg [] [⟨some 4, none, .mv (.const (.int .i64 1))⟩])
 .ret) (.seq (.reg [3] [⟨some 59, none, .fld 3 (.tmp 3)⟩, ⟨some 60, none, .load 1 false (.tmp 59)⟩, ⟨some 61, none, .len false (.tmp 60)⟩, ⟨some 62, none, .bin .gtr 3 (.tmp 61) (.const (.int .i64 4))⟩, ⟨some 58, none, .mv (.tmp 62)⟩])
 (.cond (.tmp 58) (.seq (.reg [] [⟨some 4, none, .mv (.const (.int .i64 6))⟩])
 .ret) .skip)))))))))
 (.seq (.reg [] [⟨some 4, none, .mv (.const (.int .i64 0))⟩])
 .ret)))))))
theorem fn_prune_Right : FnOk Try.prog 90 Try.f90 sc_prune_Right [.tmp 4] 2 := ⟨Try.func90, by kernel_rfl, by kernel_rfl, by kernel_rfl, by kernel_rfl, by kernel_rfl, by kernel_rfl⟩

def sc_prune_Down_L0 : SCode :=
 (.seq (.reg [2, 4, 7, 19, 20, 21] [⟨some 22, none, .bin .lss 3 (.tmp 21) (.tmp 20)⟩])
 (.seq (.cond (.tmp 22) .skip (.exit 0))
 (.seq (.block 1 (.seq (.reg [2, 4, 7, 19, 20, 21] [⟨some 23, none, .mv (.tmp 21)⟩, ⟨some 24, none, .ia none 4 (.tmp 19) (.tmp 21)⟩, ⟨some 25, none, .load 4 true (.tmp 24)⟩, ⟨some 9, none, .alloc 48 [(.int .i64 0), (.int .i64 0), (.int .i64 0), (.int .i64 0)]⟩, ⟨some 8, none, .mv (.tmp 23)⟩, ⟨none, none, .store 4 (.tmp 9) (.tmp 25)⟩])
 (.reg [2, 4, 7, 8, 9, 19, 20, 21] [⟨some 26, none, .mv (.tmp 7)⟩, ⟨some 27, none, .mv (.tmp 8)⟩, ⟨some 28, none, .mv (.tmp 8)⟩, ⟨some 29, none, .mv (.tmp 2)⟩, ⟨some 30, none, .len false (.tmp 29)⟩, ⟨some 31, none, .bin .lss 3 (.tmp 28) (.tmp 30)⟩, ⟨some 32, none, .mv (.tmp 31)⟩, ⟨some 33, some (32, true), .mv (.tmp 2)⟩, ⟨some 34, some (32, true), .mv (.tmp 8)⟩, ⟨some 35, some (32, true), .ia none 1 (.tmp 33) (.tmp 34)⟩, ⟨some 36, some (32, true), .load 1 false (.tmp 35)⟩, ⟨some 37, none, .pick (.tmp 32) (.tmp 36) (.const (.bool false))⟩, ⟨some 38, none, .mv (.tmp 37)⟩, ⟨some 39, some (38, false), .fld 5 (.tmp 4)⟩, ⟨some 40, some (38, false), .load 1 false (.tmp 39)⟩, ⟨some 41, some (38, false), .mv (.tmp 8)⟩, ⟨some 42, some (38, false), .call 104 [(.tmp 40), (.tmp 41)]⟩, ⟨some 43, none, .pick (.tmp 38) (.const (.bool true)) (.tmp 42)⟩, ⟨some 44, none, .mv (.tmp 43)⟩, ⟨some 45, some (44, false), .fld 6 (.tmp 4)⟩, ⟨some 46, some (44, false), .load 1 false (.tmp 45)⟩, ⟨some 47, some (44, false), .fld 3 (.tmp 9)⟩, ⟨some 48, some (44, false), .load 1 false (.tmp 47)⟩, ⟨some 49, some (44, false), .call 104 [(.tmp 46), (.tmp 48)]⟩, ⟨some 50, none, .pick (.tmp 44) (.const (.bool true)) (.tmp 49)⟩, ⟨some 51, none, .mv (.tmp 50)⟩, ⟨some 52, some (51, false), .fld 4 (.tmp 4)⟩, ⟨some 53, some (51, false), .load 1 false (.tmp 52)⟩, ⟨some 54, some (51, false), .fld 0 (.tmp 9)⟩, ⟨some 55, some (51, false), .load 1 false (.tmp 54)⟩, ⟨some 56, some (51, false), .call 104 [(.tmp 53), (.tmp 55)]⟩, ⟨some 57, none, .pick (.tmp 51) (.const (.bool true)) (.tmp 56)⟩, ⟨some 58, none, .mv (.tmp 57)⟩, ⟨some 59, some (58, false), .fld 4 (.tmp 4)⟩, ⟨some 60, some (58, false), .load 1 false (.tmp 59)⟩, ⟨some 61, some (58, false), .fld 1 (.tmp 9)⟩, ⟨some 62, some (58, false), .load 1 false (.tmp 61)⟩, ⟨some 63, some (58, false), .call 104 [(.tmp 60), (.tmp 62)]⟩, ⟨some 64, none, .pick (.tmp 58) (.const (.bool true)) (.tmp 63)⟩, ⟨some 65, none, .ia none 1 (.tmp 26) (.tmp 27)⟩, ⟨none, none, .store 1 (.tmp 65) (.tmp 64)⟩])))
 (.reg [2, 4, 7, 19, 20, 21] [⟨some 66, none, .bin .add 3 (.tmp 21) (.const (.int .i64 1))⟩, ⟨some 21, none, .mv (.tmp 66)⟩]))))
def sc_prune_Down : SCode :=
 (.seq (.reg [0, 1, 2] [⟨some 3, none, .box 24 (.tmp 0)⟩, ⟨some 4, none, .box 27 (.tmp 1)⟩, ⟨some 6, none, .mv (.const (.slice none 0 0))⟩])
 (.seq (.seq (.reg [2, 3, 4] [⟨some 10, none, .load 2 true (.tmp 3)⟩, ⟨some 11, none, .load 7 true (.tmp 4)⟩, ⟨some 12, none, .call 90 [(.tmp 10), (.tmp 11)]⟩, ⟨some 13, none, .bin .neq 37 (.tmp 12) (.const (.int .i64 0))⟩])
 (.cond (.tmp 13) (.seq (.reg [] [⟨some 6, none, .mv (.const (.slice none 0 0))⟩])
 .ret) .skip))
 (.seq (.reg [2, 3, 4] [⟨some 14, none, .fld 1 (.tmp 3)⟩, ⟨some 15, none, .load 1 false (.tmp 14)⟩, ⟨some 16, none, .len false (.tmp 15)⟩, ⟨some 17, none, .mksl 4 1 1 [(.bool false)] (.tmp 16) (.tmp 16)⟩, ⟨some 7, none, .mv (.tmp 17)⟩])
 (.seq (.seq (.reg [2, 3, 4, 7] [⟨some 18, none, .fld 1 (.tmp 3)⟩, ⟨some 19, none, .load 1 false (.tmp 18)⟩, ⟨some 20, none, .len false (.tmp 19)⟩, ⟨some 21, none, .mv (.const (.int .i64 0))⟩])
 (.block 0 (.loop [2, 4, 7, 19, 20, 21] [] sc_prune_Down_L0)))
 (.seq (.reg [7] [⟨some 67, none, .mv (.tmp 7)⟩, ⟨some 6, none, .mv (.tmp 67)⟩])
 .ret)))))
theorem fn_prune_Down : FnOk Try.prog 91 Try.f91 sc_prune_Down [.tmp 6] 3 := ⟨Try.func91, by kernel_rfl, by kernel_rfl, by kernel_rfl, by kernel_rfl, by kernel_rfl, by kernel_rfl⟩

def sc_prune_Right_d1 : SCode :=
 (.seq (.reg [0, 1] [⟨some 3, none, .mv (.const (.bool false))⟩])
 (.seq (.reg [0, 1] [⟨some 4, none, .load 2 true (.tmp 1)⟩, ⟨some 5, none, .mv (.tmp 0)⟩, ⟨some 6, none, .call 62 [(.tmp 4), (.tmp 5)]⟩, ⟨some 7, none, .un .not (.tmp 6)⟩, ⟨some 3, none, .mv (.tmp 7)⟩])
 .ret))
theorem fn_prune_Right_d1 : FnOk Try.prog 100 Try.f100 sc_prune_Right_d1 [.tmp 3] 2 := ⟨Try.func100, by kernel_rfl, by kernel_rfl, by kernel_rfl, by kernel_rfl, by kernel_rfl, by kernel_rfl⟩

def sc_prune_Right_d2 : SCode :=
 (.seq (.reg [0, 1] [⟨some 3, none, .mv (.const (.bool false))⟩])
 (.seq (.reg [0, 1] [⟨some 4, none, .mv (.tmp 0)⟩, ⟨some 5, none, .bin .lss 3 (.tmp 4) (.const (.int .i64 0))⟩, ⟨some 6, none, .mv (.tmp 5)⟩, ⟨some 7, some (6, false), .mv (.tmp 0)⟩, ⟨some 8, some (6, false), .fld 1 (.tmp 1)⟩, ⟨some 9, some (6, false), .load 1 false (.tmp 8)⟩, ⟨some 10, some (6, false), .len false (.tmp 9)⟩, ⟨some 11, some (6, false), .bin .geq 3 (.tmp 7) (.tmp 10)⟩, ⟨some 12, none, .pick (.tmp 6) (.const (.bool true)) (.tmp 11)⟩, ⟨some 3, none, .mv (.tmp 12)⟩])
 .ret))
theorem fn_prune_Right_d2 : FnOk Try.prog 101 Try.f101 sc_prune_Right_d2 [.tmp 3] 2 := ⟨Try.func101, by kernel_rfl, by kernel_rfl, by kernel_rfl, by kernel_rfl, by kernel_rfl, by kernel_rfl⟩

def sc_prune_Right_d3 : SCode :=
 (.seq (.reg [0] [⟨some 2, none, .mv (.const (.bool false))⟩])
 (.seq (.reg [0] [⟨some 3, none, .mv (.tmp 0)⟩, ⟨some 4, none, .bin .lss 3 (.tmp 3) (.const (.int .i64 0))⟩, ⟨some 5, none, .mv (.tmp 4)⟩, ⟨some 6, some (5, false), .mv (.tmp 0)⟩, ⟨some 7, some (5, false), .bin .gtr 3 (.tmp 6) (.const (.int .i64 62))⟩, ⟨some 8, none, .pick (.tmp 5) (.const (.bool true)) (.tmp 7)⟩, ⟨some 2, none, .mv (.tmp 8)⟩])
 .ret))
theorem fn_prune_Right_d3 : FnOk Try.prog 102 Try.f102 sc_prune_Right_d3 [.tmp 2] 1 := ⟨Try.func102, by kernel_rfl, by kernel_rfl, by kernel_rfl, by kernel_rfl, by kernel_rfl, by kernel_rfl⟩

end Go.Proofs.Ytejmcijcdhoogaa
end

section
namespace Go.Proofs.Ytejmcijcdhoogaa
open Go Abs

def sc_repair_Around : SCode :=
 (.seq (.reg [0, 1, 2, 3] [⟨some 8, none, .mv (.const (.slice none 0 0))⟩, ⟨some 9, none, .mv (.const (.int .i64 0))⟩])
 (.seq (.seq (.reg [0, 1, 2, 3] [⟨some 15, none, .mv (.tmp 0)⟩, ⟨some 16, none, .isnil .p false (.tmp 15)⟩])
 (.cond (.tmp 16) (.seq (.reg [] [⟨some 8, none, .mv (.const (.slice none 0 0))⟩, ⟨some 9, none, .mv (.const (.int .i64 1))⟩])
 .ret) .skip))
 (.seq (.reg [0, 1, 2, 3] [⟨some 17, none, .mv (.tmp 0)⟩, ⟨some 18, none, .call 56 [(.tmp 17)]⟩, ⟨some 10, none, .alloc 24 [(.int .i64 0), (.slice none 0 0)]⟩, ⟨none, none, .store 2 (.tmp 10) (.tmp 18)⟩])
 (.seq (.reg [0, 1, 2, 3, 10] [⟨some 20, none, .load 2 true (.tmp 10)⟩, ⟨some 21, none, .mv (.tmp 1)⟩, ⟨some 22, none, .call 57 [(.tmp 20), (.tmp 21)]⟩, ⟨some 19, none, .mv (.tmp 22)⟩, ⟨some 23, none, .ext (.tmp 19) 0⟩, ⟨some 24, none, .ext (.tmp 19) 1⟩, ⟨some 25, none, .ext (.tmp 19) 2⟩, ⟨some 11, none, .mv (.tmp 23)⟩, ⟨some 12, none, .mv (.tmp 24)⟩, ⟨some 13, none, .mv (.tmp 25)⟩])
 (.seq (.seq (.reg [0, 1, 2, 3, 10, 11, 13] [⟨some 26, none, .mv (.tmp 13)⟩, ⟨some 27, none, .un .not (.tmp 26)⟩])
 (.cond (.tmp 27) (.seq (.reg [] [⟨some 8, none, .mv (.const (.slice none 0 0))⟩, ⟨some 9, none, .mv (.const (.int .i64 5))⟩])
 .ret) .skip))
 (.seq (.reg [0, 1, 2, 3, 10, 11] [⟨some 28, none, .fld 1 (.tmp 10)⟩, ⟨some 29, none, .load 1 false (.tmp 28)⟩, ⟨some 30, none, .len false (.tmp 29)⟩, ⟨some 31, none, .mksl 4 1 1 [(.bool false)] (.tmp 30) (.tmp 30)⟩, ⟨some 14, none, .mv (.tmp 31)⟩])
 (.seq (.reg [0, 1, 2, 3, 11, 14] [⟨some 32, none, .mv (.tmp 14)⟩, ⟨some 33, none, .mv (.tmp 1)⟩, ⟨some 34, none, .bin .quo 3 (.tmp 33) (.const (.int .i64 2))⟩, ⟨some 35, none, .ia none 1 (.tmp 32) (.tmp 34)⟩, ⟨none, none, .store 1 (.tmp 35) (.const (.bool true))⟩])
 (.seq (.reg [0, 2, 3, 11, 14] [⟨some 36, none, .mv (.tmp 0)⟩, ⟨some 37, none, .mv (.tmp 11)⟩, ⟨some 38, none, .mv (.tmp 2)⟩, ⟨some 39, none, .build [(.int .i64 0), (.int .i64 0), (.int .i64 0), (.slice none 0 0), (.slice none 0 0), (.slice none 0 0), (.slice none 0 0)] [(0, 1, (.tmp 37)), (1, 1, (.tmp 38))]⟩, ⟨some 40, none, .mv (.tmp 14)⟩, ⟨some 41, none, .mv (.tmp 3)⟩, ⟨some 42, none, .call 20 [(.tmp 36), (.tmp 39), (.tmp 40), (.tmp 41)]⟩, ⟨some 43, none, .ext (.tmp 42) 0⟩, ⟨some 44, none, .ext (.tmp 42) 1⟩, ⟨some 8, none, .mv (.tmp 43)⟩, ⟨some 9, none, .mv (.tmp 44)⟩])
 .ret))))))))
theorem fn_repair_Around : FnOk Try.prog 26 Try.f26 sc_repair_Around [.tmp 8, .tmp 9] 4 := ⟨Try.func26, by kernel_rfl, by kernel_rfl, by kernel_rfl, by kernel_rfl, by kernel_rfl, by kernel_rfl⟩

end Go.Proofs.Ytejmcijcdhoogaa
end

section
namespace Go.Proofs.Ytejmcijcdhoogaa
open Go Abs

def sc_slices_Clone_api_Link_api_Link : SCode :=
 (.seq (.reg [0] [⟨some 2, none, .mv (.const (.slice none 0 0))⟩])
 (.seq (.seq (.reg [0] [⟨some 3, none, .mv (.tmp 0)⟩, ⟨some 4, none, .isnil .s false (.tmp 3)⟩])
 (.cond (.tmp 4) (.seq (.reg [] [⟨some 2, none, .mv (.const (.slice none 0 0))⟩])
 .ret) .skip))
 (.seq (.reg [0] [⟨some 5, none, .hp (.bsl 48 4 [(.int .i64 0), (.int .i64 0), (.int .i64 0), (.int .i64 0)] 0 [])⟩, ⟨some 6, none, .mv (.tmp 0)⟩, ⟨some 7, none, .hp (.app 22 48 4 32 (.agg #[(.int .i64 0), (.int .i64 0), (.int .i64 0), (.int .i64 0)]) (.tmp 5) (.tmp 6))⟩, ⟨some 2, none, .mv (.tmp 7)⟩])
 .ret)))
theorem fn_slices_Clone_api_Link_api_Link : FnOk Try.prog 66 Try.f66 sc_slices_Clone_api_Link_api_Link [.tmp 2] 1 := ⟨Try.func66, by kernel_rfl, by kernel_rfl, by kernel_rfl, by kernel_rfl, by kernel_rfl, by kernel_rfl⟩

def sc_slices_Concat_api_Seg_api_Seg_L0 : SCode :=
 (.seq (.reg [6, 25, 26, 27] [⟨some 28, none, .bin .lss 3 (.tmp 27) (.tmp 26)⟩])
 (.seq (.cond (.tmp 28) .skip (.exit 2))
 (.seq (.block 3 (.seq (.reg [6, 25, 26, 27] [⟨some 29, none, .ia none 1 (.tmp 25) (.tmp 27)⟩, ⟨some 30, none, .load 1 false (.tmp 29)⟩, ⟨some 8, none, .mv (.tmp 30)⟩])
 (.reg [6, 8, 25, 26, 27] [⟨some 31, none, .mv (.tmp 6)⟩, ⟨some 32, none, .mv (.tmp 8)⟩, ⟨some 33, none, .hp (.app 36 50 2 16 (.agg #[(.bool false), (.int .i64 0)]) (.tmp 31) (.tmp 32))⟩, ⟨some 6, none, .mv (.tmp 33)⟩])))
 (.reg [6, 25, 26, 27] [⟨some 34, none, .bin .add 3 (.tmp 27) (.const (.int .i64 1))⟩, ⟨some 27, none, .mv (.tmp 34)⟩]))))
def sc_slices_Concat_api_Seg_api_Seg_L1 : SCode :=
 (.seq (.reg [0, 3, 9, 10, 11] [⟨some 12, none, .bin .lss 3 (.tmp 11) (.tmp 10)⟩])
 (.seq (.cond (.tmp 12) .skip (.exit 0))
 (.seq (.block 1 (.seq (.reg [0, 3, 9, 10, 11] [⟨some 13, none, .ia none 1 (.tmp 9) (.tmp 11)⟩, ⟨some 14, none, .load 1 false (.tmp 13)⟩, ⟨some 5, none, .mv (.tmp 14)⟩])
 (.seq (.reg [0, 3, 5, 9, 10, 11] [⟨some 15, none, .mv (.tmp 3)⟩, ⟨some 16, none, .mv (.tmp 5)⟩, ⟨some 17, none, .len false (.tmp 16)⟩, ⟨some 18, none, .bin .add 3 (.tmp 15) (.tmp 17)⟩, ⟨some 3, none, .mv (.tmp 18)⟩])
 (.seq (.reg [0, 3, 9, 10, 11] [⟨some 19, none, .mv (.tmp 3)⟩, ⟨some 20, none, .bin .lss 3 (.tmp 19) (.const (.int .i64 0))⟩])
 (.cond (.tmp 20) (.reg [0, 3, 9, 10, 11] [⟨some 21, none, .halt⟩, ⟨none, none, .halt⟩]) .skip)))))
 (.reg [0, 3, 9, 10, 11] [⟨some 22, none, .bin .add 3 (.tmp 11) (.const (.int .i64 1))⟩, ⟨some 11, none, .mv (.tmp 22)⟩]))))
def sc_slices_Concat_api_Seg_api_Seg : SCode :=
 (.seq (.reg [0] [⟨some 2, none, .mv (.const (.slice none 0 0))⟩])
 (.seq (.reg [0] [⟨some 3, none, .mv (.const (.int .i64 0))⟩])
 (.seq (.seq (.reg [0, 3] [⟨some 9, none, .mv (.tmp 0)⟩, ⟨some 10, none, .len false (.tmp 9)⟩, ⟨some 11, none, .mv (.const (.int .i64 0))⟩])
 (.block 0 (.loop [0, 3, 9, 10, 11] [] sc_slices_Concat_api_Seg_api_Seg_L1)))
 (.seq (.reg [0, 3] [⟨some 23, none, .mv (.tmp 3)⟩, ⟨some 24, none, .call 111 [(.const (.slice none 0 0)), (.tmp 23)]⟩, ⟨some 6, none, .mv (.tmp 24)⟩])
 (.seq (.seq (.reg [0, 6] [⟨some 25, none, .mv (.tmp 0)⟩, ⟨some 26, none, .len false (.tmp 25)⟩, ⟨some 27, none, .mv (.const (.int .i64 0))⟩])
 (.block 2 (.loop [6, 25, 26, 27] [] sc_slices_Concat_api_Seg_api_Seg_L0)))
 (.seq (.reg [6] [⟨some 35, none, .mv (.tmp 6)⟩, ⟨some 2, none, .mv (.tmp 35)⟩])
 .ret))))))
theorem fn_slices_Concat_api_Seg_api_Seg : FnOk Try.prog 97 Try.f97 sc_slices_Concat_api_Seg_api_Seg [.tmp 2] 1 := ⟨Try.func97, by kernel_rfl, by kernel_rfl, by kernel_rfl, by kernel_rfl, by kernel_rfl, by kernel_rfl⟩

def sc_slices_ContainsFunc_int_int : SCode :=
 (.seq (.reg [0, 1] [⟨some 4, none, .mv (.const (.bool false))⟩])
 (.seq (.reg [0, 1] [⟨some 5, none, .mv (.tmp 0)⟩, ⟨some 6, none, .mv (.tmp 1)⟩, ⟨some 7, none, .call 115 [(.tmp 5), (.tmp 6)]⟩, ⟨some 8, none, .bin .geq 3 (.tmp 7) (.const (.int .i64 0))⟩, ⟨some 4, none, .mv (.tmp 8)⟩])
 .ret))
theorem fn_slices_ContainsFunc_int_int : FnOk Try.prog 103 Try.f103 sc_slices_ContainsFunc_int_int [.tmp 4] 2 := ⟨Try.func103, by kernel_rfl, by kernel_rfl, by kernel_rfl, by kernel_rfl, by kernel_rfl, by kernel_rfl⟩

def sc_slices_Contains_int_int : SCode :=
 (.seq (.reg [0, 1] [⟨some 4, none, .mv (.const (.bool false))⟩])
 (.seq (.reg [0, 1] [⟨some 5, none, .mv (.tmp 0)⟩, ⟨some 6, none, .mv (.tmp 1)⟩, ⟨some 7, none, .call 116 [(.tmp 5), (.tmp 6)]⟩, ⟨some 8, none, .bin .geq 3 (.tmp 7) (.const (.int .i64 0))⟩, ⟨some 4, none, .mv (.tmp 8)⟩])
 .ret))
theorem fn_slices_Contains_int_int : FnOk Try.prog 104 Try.f104 sc_slices_Contains_int_int [.tmp 4] 2 := ⟨Try.func104, by kernel_rfl, by kernel_rfl, by kernel_rfl, by kernel_rfl, by kernel_rfl, by kernel_rfl⟩

def sc_slices_Clone_int_int : SCode :=
 (.seq (.reg [0] [⟨some 2, none, .mv (.const (.slice none 0 0))⟩])
 (.seq (.seq (.reg [0] [⟨some 3, none, .mv (.tmp 0)⟩, ⟨some 4, none, .isnil .s false (.tmp 3)⟩])
 (.cond (.tmp 4) (.seq (.reg [] [⟨some 2, none, .mv (.const (.slice none 0 0))⟩])
 .ret) .skip))
 (.seq (.reg [0] [⟨some 5, none, .hp (.bsl 3 1 [(.int .i64 0)] 0 [])⟩, ⟨some 6, none, .mv (.tmp 0)⟩, ⟨some 7, none, .hp (.app 25 3 1 8 (.int .i64 0) (.tmp 5) (.tmp 6))⟩, ⟨some 2, none, .mv (.tmp 7)⟩])
 .ret)))
theorem fn_slices_Clone_int_int : FnOk Try.prog 110 Try.f110 sc_slices_Clone_int_int [.tmp 2] 1 := ⟨Try.func110, by kernel_rfl, by kernel_rfl, by kernel_rfl, by kernel_rfl, by kernel_rfl, by kernel_rfl⟩

def sc_slices_Grow_api_Seg_api_Seg : SCode :=
 (.seq (.reg [0, 1] [⟨some 4, none, .mv (.const (.slice none 0 0))⟩])
 (.seq (.seq (.reg [0, 1] [⟨some 5, none, .mv (.tmp 1)⟩, ⟨some 6, none, .bin .lss 3 (.tmp 5) (.const (.int .i64 0))⟩])
 (.cond (.tmp 6) (.reg [0, 1] [⟨some 7, none, .halt⟩, ⟨none, none, .halt⟩]) .skip))
 (.seq (.seq (.reg [0, 1] [⟨some 8, none, .mv (.tmp 1)⟩, ⟨some 9, none, .mv (.tmp 0)⟩, ⟨some 10, none, .cap (.tmp 9)⟩, ⟨some 11, none, .mv (.tmp 0)⟩, ⟨some 12, none, .len false (.tmp 11)⟩, ⟨some 13, none, .bin .sub 3 (.tmp 10) (.tmp 12)⟩, ⟨some 14, none, .bin .sub 3 (.tmp 8) (.tmp 13)⟩, ⟨some 1, none, .mv (.tmp 14)⟩])
 (.seq (.reg [0, 1] [⟨some 15, none, .mv (.tmp 1)⟩, ⟨some 16, none, .bin .gtr 3 (.tmp 15) (.const (.int .i64 0))⟩])
 (.cond (.tmp 16) (.reg [0, 1] [⟨some 17, none, .mv (.tmp 0)⟩, ⟨some 18, none, .mv (.tmp 0)⟩, ⟨some 19, none, .cap (.tmp 18)⟩, ⟨some 20, none, .slc (some 2) (.tmp 17) none (some (.tmp 19)) none⟩, ⟨some 21, none, .mv (.tmp 1)⟩, ⟨some 22, none, .hp (.appz 36 50 2 16 [(.bool false), (.int .i64 0)] (.tmp 20) (.tmp 21))⟩, ⟨some 23, none, .mv (.tmp 0)⟩, ⟨some 24, none, .len false (.tmp 23)⟩, ⟨some 25, none, .slc (some 2) (.tmp 22) none (some (.tmp 24)) none⟩, ⟨some 0, none, .mv (.tmp 25)⟩]) .skip)))
 (.seq (.reg [0] [⟨some 26, none, .mv (.tmp 0)⟩, ⟨some 4, none, .mv (.tmp 26)⟩])
 .ret))))
theorem fn_slices_Grow_api_Seg_api_Seg : FnOk Try.prog 111 Try.f111 sc_slices_Grow_api_Seg_api_Seg [.tmp 4] 2 := ⟨Try.func111, by kernel_rfl, by kernel_rfl, by kernel_rfl, by kernel_rfl, by kernel_rfl, by kernel_rfl⟩

def sc_slices_IndexFunc_int_int_L0 : SCode :=
 (.seq (.reg [0, 1, 7, 8] [⟨some 9, none, .bin .lss 3 (.tmp 8) (.tmp 7)⟩])
 (.seq (.cond (.tmp 9) .skip (.exit 0))
 (.seq (.block 1 (.seq (.reg [0, 1, 7, 8] [⟨some 10, none, .mv (.tmp 8)⟩, ⟨some 5, none, .mv (.tmp 10)⟩])
 (.seq (.reg [0, 1, 5, 7, 8] [⟨some 11, none, .mv (.tmp 1)⟩, ⟨some 12, none, .mv (.tmp 0)⟩, ⟨some 13, none, .mv (.tmp 5)⟩, ⟨some 14, none, .ia none 1 (.tmp 12) (.tmp 13)⟩, ⟨some 15, none, .load 1 false (.tmp 14)⟩, ⟨some 16, none, .cald (.tmp 11) [(.tmp 15)]⟩])
 (.cond (.tmp 16) (.seq (.reg [5] [⟨some 17, none, .mv (.tmp 5)⟩, ⟨some 4, none, .mv (.tmp 17)⟩])
 .ret) .skip))))
 (.reg [0, 1, 7, 8] [⟨some 18, none, .bin .add 3 (.tmp 8) (.const (.int .i64 1))⟩, ⟨some 8, none, .mv (.tmp 18)⟩]))))
def sc_slices_IndexFunc_int_int : SCode :=
 (.seq (.reg [0, 1] [⟨some 4, none, .mv (.const (.int .i64 0))⟩])
 (.seq (.seq (.reg [0, 1] [⟨some 6, none, .mv (.tmp 0)⟩, ⟨some 7, none, .len false (.tmp 6)⟩, ⟨some 8, none, .mv (.const (.int .i64 0))⟩])
 (.block 0 (.loop [0, 1, 7, 8] [] sc_slices_IndexFunc_int_int_L0)))
 (.seq (.reg [] [⟨some 4, none, .mv (.const (.int .i64 (-1)))⟩])
 .ret)))
theorem fn_slices_IndexFunc_int_int : FnOk Try.prog 115 Try.f115 sc_slices_IndexFunc_int_int [.tmp 4] 2 := ⟨Try.func115, by kernel_rfl, by kernel_rfl, by kernel_rfl, by kernel_rfl, by kernel_rfl, by kernel_rfl⟩

def sc_slices_Index_int_int_L0 : SCode :=
 (.seq (.reg [0, 1, 7, 8] [⟨some 9, none, .bin .lss 3 (.tmp 8) (.tmp 7)⟩])
 (.seq (.cond (.tmp 9) .skip (.exit 0))
 (.seq (.block 1 (.seq (.reg [0, 1, 7, 8] [⟨some 10, none, .mv (.tmp 8)⟩, ⟨some 5, none, .mv (.tmp 10)⟩])
 (.seq (.reg [0, 1, 5, 7, 8] [⟨some 11, none, .mv (.tmp 1)⟩, ⟨some 12, none, .mv (.tmp 0)⟩, ⟨some 13, none, .mv (.tmp 5)⟩, ⟨some 14, none, .ia none 1 (.tmp 12) (.tmp 13)⟩, ⟨some 15, none, .load 1 false (.tmp 14)⟩, ⟨some 16, none, .bin .eql 3 (.tmp 11) (.tmp 15)⟩])
 (.cond (.tmp 16) (.seq (.reg [5] [⟨some 17, none, .mv (.tmp 5)⟩, ⟨some 4, none, .mv (.tmp 17)⟩])
 .ret) .skip))))
 (.reg [0, 1, 7, 8] [⟨some 18, none, .bin .add 3 (.tmp 8) (.const (.int .i64 1))⟩, ⟨some 8, none, .mv (.tmp 18)⟩]))))
def sc_slices_Index_int_int : SCode :=
 (.seq (.reg [0, 1] [⟨some 4, none, .mv (.const (.int .i64 0))⟩])
 (.seq (.seq (.reg [0, 1] [⟨some 6, none, .mv (.tmp 0)⟩, ⟨some 7, none, .len false (.tmp 6)⟩, ⟨some 8, none, .mv (.const (.int .i64 0))⟩])
 (.block 0 (.loop [0, 1, 7, 8] [] sc_slices_Index_int_int_L0)))
 (.seq (.reg [] [⟨some 4, none, .mv (.const (.int .i64 (-1)))⟩])
 .ret)))
theorem fn_slices_Index_int_int : FnOk Try.prog 116 Try.f116 sc_slices_Index_int_int [.tmp 4] 2 := ⟨Try.func116, by kernel_rfl, by kernel_rfl, by kernel_rfl, by kernel_rfl, by kernel_rfl, by kernel_rfl⟩

end Go.Proofs.Ytejmcijcdhoogaa
end

section
namespace Go.Proofs.Ytejmcijcdhoogaa
open Go Abs

def sc_spf_To : SCode :=
 (.seq (.reg [0, 1, 2] [⟨some 3, none, .box 24 (.tmp 0)⟩, ⟨some 6, none, .mv (.const (.slice none 0 0))⟩])
 (.seq (.reg [1, 2, 3] [⟨some 7, none, .load 2 true (.tmp 3)⟩, ⟨some 8, none, .mv (.tmp 1)⟩, ⟨some 9, none, .mv (.tmp 2)⟩, ⟨some 10, none, .call 87 [(.tmp 7), (.tmp 8), (.tmp 9)]⟩, ⟨some 6, none, .mv (.tmp 10)⟩])
 .ret))
theorem fn_spf_To : FnOk Try.prog 67 Try.f67 sc_spf_To [.tmp 6] 3 := ⟨Try.func67, by kernel_rfl, by kernel_rfl, by kernel_rfl, by kernel_rfl, by kernel_rfl, by kernel_rfl⟩

def sc_spf_Next_L0 : SCode :=
 (.seq (.reg [1, 2, 3, 4, 9, 40, 41, 42] [⟨some 43, none, .bin .lss 3 (.tmp 42) (.tmp 41)⟩])
 (.seq (.cond (.tmp 43) .skip (.exit 0))
 (.seq (.block 1 (.seq (.reg [1, 2, 3, 4, 9, 40, 41, 42] [⟨some 44, none, .ia none 1 (.tmp 40) (.tmp 42)⟩, ⟨some 45, none, .load 1 false (.tmp 44)⟩, ⟨some 11, none, .mv (.tmp 45)⟩])
 (.seq (.reg [1, 2, 3, 4, 9, 11, 40, 41, 42] [⟨some 47, none, .load 2 true (.tmp 4)⟩, ⟨some 48, none, .mv (.tmp 11)⟩, ⟨some 49, none, .call 57 [(.tmp 47), (.tmp 48)]⟩, ⟨some 46, none, .mv (.tmp 49)⟩, ⟨some 50, none, .ext (.tmp 46) 0⟩, ⟨some 51, none, .ext (.tmp 46) 1⟩, ⟨some 52, none, .ext (.tmp 46) 2⟩, ⟨some 12, none, .mv (.tmp 50)⟩, ⟨some 13, none, .mv (.tmp 51)⟩, ⟨some 14, none, .mv (.tmp 52)⟩])
 (.seq (.draw [1, 2, 3, 4, 9, 11, 13, 40, 41, 42] [⟨some 53, none, .mv (.tmp 1)⟩, ⟨some 54, none, .mv (.tmp 11)⟩, ⟨some 55, none, .call 83 [(.tmp 53), (.tmp 54)]⟩, ⟨some 56, none, .mv (.tmp 55)⟩, ⟨some 57, some (56, true), .mv (.tmp 2)⟩, ⟨some 58, some (56, true), .mv (.tmp 13)⟩, ⟨some 59, some (56, true), .ia none 1 (.tmp 57) (.tmp 58)⟩, ⟨some 60, some (56, true), .load 1 false (.tmp 59)⟩, ⟨some 61, some (56, true), .bin .geq 3 (.tmp 60) (.const (.int .i64 0))⟩, ⟨some 62, none, .pick (.tmp 56) (.tmp 61) (.const (.bool false))⟩, ⟨some 63, none, .mv (.tmp 62)⟩, ⟨some 64, some (63, true), .mv (.tmp 2)⟩, ⟨some 65, some (63, true), .mv (.tmp 3)⟩, ⟨some 66, some (63, true), .ia none 1 (.tmp 64) (.tmp 65)⟩, ⟨some 67, some (63, true), .load 1 false (.tmp 66)⟩, ⟨some 68, some (63, true), .fld 1 (.tmp 4)⟩, ⟨some 69, some (63, true), .load 1 false (.tmp 68)⟩, ⟨some 70, some (63, true), .mv (.tmp 11)⟩, ⟨some 71, some (63, true), .bin .quo 3 (.tmp 70) (.const (.int .i64 2))⟩, ⟨some 72, some (63, true), .ia none 4 (.tmp 69) (.tmp 71)⟩, ⟨some 73, some (63, true), .fld 2 (.tmp 72)⟩, ⟨some 74, some (63, true), .load 1 false (.tmp 73)⟩, ⟨some 75, some (63, true), .bin .sub 3 (.tmp 67) (.tmp 74)⟩, ⟨some 76, some (63, true), .mv (.tmp 2)⟩, ⟨some 77, some (63, true), .mv (.tmp 13)⟩, ⟨some 78, some (63, true), .ia none 1 (.tmp 76) (.tmp 77)⟩, ⟨some 79, some (63, true), .load 1 false (.tmp 78)⟩, ⟨some 80, some (63, true), .bin .eql 3 (.tmp 75) (.tmp 79)⟩, ⟨some 81, none, .pick (.tmp 63) (.tmp 80) (.const (.bool false))⟩])
 (.cond (.tmp 81) (.reg [1, 2, 3, 4, 9, 11, 40, 41, 42] [⟨some 82, none, .mv (.tmp 9)⟩, ⟨some 83, none, .mv (.tmp 11)⟩, ⟨some 84, none, .bsl 3 1 [(.int .i64 0)] 1 [(0, 1, (.tmp 83))]⟩, ⟨some 85, none, .app 25 3 1 8 (.int .i64 0) (.tmp 82) (.tmp 84)⟩, ⟨some 9, none, .mv (.tmp 85)⟩]) .skip)))))
 (.reg [1, 2, 3, 4, 9, 40, 41, 42] [⟨some 86, none, .bin .add 3 (.tmp 42) (.const (.int .i64 1))⟩, ⟨some 42, none, .mv (.tmp 86)⟩]))))
def sc_spf_Next : SCode :=
 (.seq (.reg [0, 1, 2, 3] [⟨some 4, none, .box 24 (.tmp 0)⟩, ⟨some 8, none, .mv (.const (.slice none 0 0))⟩])
 (.seq (.seq (.reg [1, 2, 3, 4] [⟨some 15, none, .load 2 true (.tmp 4)⟩, ⟨some 16, none, .call 88 [(.tmp 15)]⟩, ⟨some 17, none, .un .not (.tmp 16)⟩, ⟨some 18, none, .mv (.tmp 17)⟩, ⟨some 19, some (18, false), .mv (.tmp 2)⟩, ⟨some 20, some (18, false), .len false (.tmp 19)⟩, ⟨some 21, some (18, false), .fld 0 (.tmp 4)⟩, ⟨some 22, some (18, false), .load 1 false (.tmp 21)⟩, ⟨some 23, some (18, false), .bin .neq 3 (.tmp 20) (.tmp 22)⟩, ⟨some 24, none, .pick (.tmp 18) (.const (.bool true)) (.tmp 23)⟩, ⟨some 25, none, .mv (.tmp 24)⟩, ⟨some 26, some (25, false), .load 2 true (.tmp 4)⟩, ⟨some 27, some (25, false), .mv (.tmp 3)⟩, ⟨some 28, some (25, false), .call 62 [(.tmp 26), (.tmp 27)]⟩, ⟨some 29, some (25, false), .un .not (.tmp 28)⟩, ⟨some 30, none, .pick (.tmp 25) (.const (.bool true)) (.tmp 29)⟩, ⟨some 31, none, .mv (.tmp 30)⟩, ⟨some 32, some (31, false), .mv (.tmp 2)⟩, ⟨some 33, some (31, false), .mv (.tmp 3)⟩, ⟨some 34, some (31, false), .ia none 1 (.tmp 32) (.tmp 33)⟩, ⟨some 35, some (31, false), .load 1 false (.tmp 34)⟩, ⟨some 36, some (31, false), .bin .leq 3 (.tmp 35) (.const (.int .i64 0))⟩, ⟨some 37, none, .pick (.tmp 31) (.const (.bool true)) (.tmp 36)⟩])
 (.cond (.tmp 37) (.seq (.reg [] [⟨some 8, none, .mv (.const (.slice none 0 0))⟩])
 .ret) .skip))
 (.seq (.reg [1, 2, 3, 4] [⟨some 9, none, .mv (.const (.slice none 0 0))⟩])
 (.seq (.seq (.reg [1, 2, 3, 4, 9] [⟨some 38, none, .load 2 true (.tmp 4)⟩, ⟨some 39, none, .mv (.tmp 3)⟩, ⟨some 40, none, .call 89 [(.tmp 38), (.tmp 39)]⟩, ⟨some 41, none, .len false (.tmp 40)⟩, ⟨some 42, none, .mv (.const (.int .i64 0))⟩])
 (.block 0 (.loop [1, 2, 3, 4, 9, 40, 41, 42] [(9, 85, 3, 1)] sc_spf_Next_L0)))
 (.seq (.reg [9] [⟨some 87, none, .mv (.tmp 9)⟩, ⟨some 8, none, .mv (.tmp 87)⟩])
 .ret)))))
theorem fn_spf_Next : FnOk Try.prog 68 Try.f68 sc_spf_Next [.tmp 8] 4 := ⟨Try.func68, by kernel_rfl, by kernel_rfl, by kernel_rfl, by kernel_rfl, by kernel_rfl, by kernel_rfl⟩

def sc_spf_Up : SCode :=
 (.seq (.reg [0, 1] [⟨some 4, none, .mv (.const (.bool false))⟩])
 (.seq (.reg [0, 1] [⟨some 5, none, .mv (.tmp 1)⟩, ⟨some 6, none, .bin .quo 3 (.tmp 5) (.const (.int .i64 2))⟩, ⟨some 7, none, .mv (.tmp 0)⟩, ⟨some 8, none, .len false (.tmp 7)⟩, ⟨some 9, none, .bin .geq 3 (.tmp 6) (.tmp 8)⟩, ⟨some 10, none, .mv (.tmp 9)⟩, ⟨some 11, some (10, false), .mv (.tmp 0)⟩, ⟨some 12, some (10, false), .mv (.tmp 1)⟩, ⟨some 13, some (10, false), .bin .quo 3 (.tmp 12) (.const (.int .i64 2))⟩, ⟨some 14, some (10, false), .ia none 1 (.tmp 11) (.tmp 13)⟩, ⟨some 15, some (10, false), .load 1 false (.tmp 14)⟩, ⟨some 16, some (10, false), .un .not (.tmp 15)⟩, ⟨some 17, none, .pick (.tmp 10) (.const (.bool true)) (.tmp 16)⟩, ⟨some 4, none, .mv (.tmp 17)⟩])
 .ret))
theorem fn_spf_Up : FnOk Try.prog 83 Try.f83 sc_spf_Up [.tmp 4] 2 := ⟨Try.func83, by kernel_rfl, by kernel_rfl, by kernel_rfl, by kernel_rfl, by kernel_rfl, by kernel_rfl⟩

def sc_spf_From_L0 : SCode :=
 (.seq (.reg [1, 3, 7, 9, 10, 64, 65, 66] [⟨some 67, none, .bin .lss 3 (.tmp 66) (.tmp 65)⟩])
 (.seq (.cond (.tmp 67) .skip (.exit 4))
 (.seq (.block 5 (.seq (.reg [1, 3, 7, 9, 10, 64, 65, 66] [⟨some 68, none, .ia none 1 (.tmp 64) (.tmp 66)⟩, ⟨some 69, none, .load 1 false (.tmp 68)⟩, ⟨some 14, none, .mv (.tmp 69)⟩])
 (.seq (.reg [1, 3, 7, 9, 10, 14, 64, 65, 66] [⟨some 71, none, .load 2 true (.tmp 3)⟩, ⟨some 72, none, .mv (.tmp 14)⟩, ⟨some 73, none, .call 57 [(.tmp 71), (.tmp 72)]⟩, ⟨some 70, none, .mv (.tmp 73)⟩, ⟨some 74, none, .ext (.tmp 70) 0⟩, ⟨some 75, none, .ext (.tmp 70) 1⟩, ⟨some 76, none, .ext (.tmp 70) 2⟩, ⟨some 15, none, .mv (.tmp 74)⟩, ⟨some 16, none, .mv (.tmp 75)⟩, ⟨some 17, none, .mv (.tmp 76)⟩])
 (.seq (.reg [1, 3, 7, 9, 10, 14, 16, 64, 65, 66] [⟨some 77, none, .mv (.tmp 1)⟩, ⟨some 78, none, .mv (.tmp 14)⟩, ⟨some 79, none, .call 83 [(.tmp 77), (.tmp 78)]⟩, ⟨some 80, none, .mv (.tmp 79)⟩, ⟨some 81, some (80, true), .mv (.tmp 7)⟩, ⟨some 82, some (80, true), .mv (.tmp 16)⟩, ⟨some 83, some (80, true), .ia none 1 (.tmp 81) (.tmp 82)⟩, ⟨some 84, some (80, true), .load 1 false (.tmp 83)⟩, ⟨some 85, some (80, true), .bin .eql 3 (.tmp 84) (.const (.int .i64 (-1)))⟩, ⟨some 86, none, .pick (.tmp 80) (.tmp 85) (.const (.bool false))⟩])
 (.cond (.tmp 86) (.reg [1, 3, 7, 9, 10, 14, 16, 64, 65, 66] [⟨some 87, none, .mv (.tmp 9)⟩, ⟨some 88, none, .mv (.tmp 10)⟩, ⟨some 89, none, .fld 1 (.tmp 3)⟩, ⟨some 90, none, .load 1 false (.tmp 89)⟩, ⟨some 91, none, .mv (.tmp 14)⟩, ⟨some 92, none, .bin .quo 3 (.tmp 91) (.const (.int .i64 2))⟩, ⟨some 93, none, .ia none 4 (.tmp 90) (.tmp 92)⟩, ⟨some 94, none, .fld 2 (.tmp 93)⟩, ⟨some 95, none, .load 1 false (.tmp 94)⟩, ⟨some 96, none, .bin .add 3 (.tmp 88) (.tmp 95)⟩, ⟨some 97, none, .mv (.tmp 16)⟩, ⟨some 98, none, .call 98 [(.tmp 87), (.tmp 96), (.tmp 97)]⟩]) .skip)))))
 (.reg [1, 3, 7, 9, 10, 64, 65, 66] [⟨some 99, none, .bin .add 3 (.tmp 66) (.const (.int .i64 1))⟩, ⟨some 66, none, .mv (.tmp 99)⟩]))))
def sc_spf_From_L1 : SCode :=
 (.block 3 (.seq (.reg [1, 3, 7, 9] [⟨some 45, none, .mv (.tmp 9)⟩, ⟨some 46, none, .call 99 [(.tmp 45)]⟩, ⟨some 44, none, .mv (.tmp 46)⟩, ⟨some 47, none, .ext (.tmp 44) 0⟩, ⟨some 48, none, .ext (.tmp 44) 1⟩, ⟨some 49, none, .ext (.tmp 44) 2⟩, ⟨some 10, none, .mv (.tmp 47)⟩, ⟨some 11, none, .mv (.tmp 48)⟩, ⟨some 12, none, .mv (.tmp 49)⟩])
 (.seq (.seq (.reg [1, 3, 7, 9, 10, 11, 12] [⟨some 50, none, .mv (.tmp 12)⟩, ⟨some 51, none, .un .not (.tmp 50)⟩])
 (.cond (.tmp 51) (.seq (.reg [7] [⟨some 52, none, .mv (.tmp 7)⟩, ⟨some 6, none, .mv (.tmp 52)⟩])
 .ret) .skip))
 (.seq (.seq (.reg [1, 3, 7, 9, 10, 11] [⟨some 53, none, .mv (.tmp 7)⟩, ⟨some 54, none, .mv (.tmp 11)⟩, ⟨some 55, none, .ia none 1 (.tmp 53) (.tmp 54)⟩, ⟨some 56, none, .load 1 false (.tmp 55)⟩, ⟨some 57, none, .bin .neq 3 (.tmp 56) (.const (.int .i64 (-1)))⟩])
 (.cond (.tmp 57) (.exit 3) .skip))
 (.seq (.reg [1, 3, 7, 9, 10, 11] [⟨some 58, none, .mv (.tmp 7)⟩, ⟨some 59, none, .mv (.tmp 11)⟩, ⟨some 60, none, .mv (.tmp 10)⟩, ⟨some 61, none, .ia none 1 (.tmp 58) (.tmp 59)⟩, ⟨none, none, .store 1 (.tmp 61) (.tmp 60)⟩])
 (.seq (.reg [1, 3, 7, 9, 10, 11] [⟨some 62, none, .load 2 true (.tmp 3)⟩, ⟨some 63, none, .mv (.tmp 11)⟩, ⟨some 64, none, .call 89 [(.tmp 62), (.tmp 63)]⟩, ⟨some 65, none, .len false (.tmp 64)⟩, ⟨some 66, none, .mv (.const (.int .i64 0))⟩])
 (.block 4 (.loop [1, 3, 7, 9, 10, 64, 65, 66] [] sc_spf_From_L0))))))))
def sc_spf_From_L2 : SCode :=
 (.seq (.reg [1, 2, 3, 7, 31, 32] [⟨some 33, none, .bin .lss 3 (.tmp 32) (.tmp 31)⟩])
 (.seq (.cond (.tmp 33) .skip (.exit 0))
 (.seq (.block 1 (.seq (.reg [1, 2, 3, 7, 31, 32] [⟨some 34, none, .mv (.tmp 32)⟩, ⟨some 8, none, .mv (.tmp 34)⟩])
 (.reg [1, 2, 3, 7, 8, 31, 32] [⟨some 35, none, .mv (.tmp 7)⟩, ⟨some 36, none, .mv (.tmp 8)⟩, ⟨some 37, none, .ia none 1 (.tmp 35) (.tmp 36)⟩, ⟨none, none, .store 1 (.tmp 37) (.const (.int .i64 (-1)))⟩])))
 (.reg [1, 2, 3, 7, 31, 32] [⟨some 38, none, .bin .add 3 (.tmp 32) (.const (.int .i64 1))⟩, ⟨some 32, none, .mv (.tmp 38)⟩]))))
def sc_spf_From : SCode :=
 (.seq (.reg [0, 1, 2] [⟨some 3, none, .box 24 (.tmp 0)⟩, ⟨some 6, none, .mv (.const (.slice none 0 0))⟩])
 (.seq (.seq (.reg [1, 2, 3] [⟨some 18, none, .load 2 true (.tmp 3)⟩, ⟨some 19, none, .call 88 [(.tmp 18)]⟩, ⟨some 20, none, .un .not (.tmp 19)⟩, ⟨some 21, none, .mv (.tmp 20)⟩, ⟨some 22, some (21, false), .load 2 true (.tmp 3)⟩, ⟨some 23, some (21, false), .mv (.tmp 2)⟩, ⟨some 24, some (21, false), .call 62 [(.tmp 22), (.tmp 23)]⟩, ⟨some 25, some (21, false), .un .not (.tmp 24)⟩, ⟨some 26, none, .pick (.tmp 21) (.const (.bool true)) (.tmp 25)⟩])
 (.cond (.tmp 26) (.seq (.reg [] [⟨some 6, none, .mv (.const (.slice none 0 0))⟩])
 .ret) .skip))
 (.seq (.reg [1, 2, 3] [⟨some 27, none, .fld 0 (.tmp 3)⟩, ⟨some 28, none, .load 1 false (.tmp 27)⟩, ⟨some 29, none, .mksl 3 1 8 [(.int .i64 0)] (.tmp 28) (.tmp 28)⟩, ⟨some 7, none, .mv (.tmp 29)⟩])
 (.seq (.seq (.reg [1, 2, 3, 7] [⟨some 30, none, .mv (.tmp 7)⟩, ⟨some 31, none, .len false (.tmp 30)⟩, ⟨some 32, none, .mv (.const (.int .i64 0))⟩])
 (.block 0 (.loop [1, 2, 3, 7, 31, 32] [] sc_spf_From_L2)))
 (.seq (.reg [1, 2, 3, 7] [⟨some 39, none, .build [(.slice none 0 0)] []⟩, ⟨some 40, none, .hp (.box 158 (.tmp 39))⟩, ⟨some 9, none, .mv (.tmp 40)⟩])
 (.seq (.reg [1, 2, 3, 7, 9] [⟨some 41, none, .mv (.tmp 9)⟩, ⟨some 42, none, .mv (.tmp 2)⟩, ⟨some 43, none, .call 98 [(.tmp 41), (.const (.int .i64 0)), (.tmp 42)]⟩])
 (.block 2 (.loop [1, 3, 7, 9] [] sc_spf_From_L1))))))))
theorem fn_spf_From : FnOk Try.prog 87 Try.f87 sc_spf_From [.tmp 6] 3 := ⟨Try.func87, by kernel_rfl, by kernel_rfl, by kernel_rfl, by kernel_rfl, by kernel_rfl, by kernel_rfl⟩

end Go.Proofs.Ytejmcijcdhoogaa
end

section
namespace Go.Proofs.Ytejmcijcdhoogaa
open Go Abs

def sc_tables_New_L0 : SCode :=
 (.seq (.reg [1, 6, 8, 9, 28, 29, 39, 40] [⟨some 41, none, .bin .lss 3 (.tmp 40) (.tmp 39)⟩])
 (.seq (.cond (.tmp 41) .skip (.exit 2))
 (.seq (.block 3 (.seq (.reg [1, 6, 8, 9, 28, 29, 39, 40] [⟨some 42, none, .mv (.tmp 40)⟩, ⟨some 10, none, .mv (.tmp 42)⟩])
 (.reg [1, 6, 8, 9, 10, 28, 29, 39, 40] [⟨some 43, none, .mv (.tmp 9)⟩, ⟨some 44, none, .mv (.tmp 6)⟩, ⟨some 45, none, .nilc (.tmp 44)⟩, ⟨some 46, none, .fld 0 (.tmp 45)⟩, ⟨some 47, none, .load 2 true (.tmp 46)⟩, ⟨some 48, none, .mv (.tmp 8)⟩, ⟨some 49, none, .mv (.tmp 10)⟩, ⟨some 50, none, .call 68 [(.tmp 47), (.const (.slice none 0 0)), (.tmp 48), (.tmp 49)]⟩, ⟨some 51, none, .bsl 25 1 [(.slice none 0 0)] 1 [(0, 1, (.tmp 50))]⟩, ⟨some 52, none, .app 98 25 1 24 (.slice none 0 0) (.tmp 43) (.tmp 51)⟩, ⟨some 9, none, .mv (.tmp 52)⟩])))
 (.reg [1, 6, 8, 9, 28, 29, 39, 40] [⟨some 53, none, .bin .add 3 (.tmp 40) (.const (.int .i64 1))⟩, ⟨some 40, none, .mv (.tmp 53)⟩]))))
def sc_tables_New_L1 : SCode :=
 (.seq (.reg [1, 6, 28, 29] [⟨some 30, none, .bin .lss 3 (.tmp 29) (.tmp 28)⟩])
 (.seq (.cond (.tmp 30) .skip (.exit 0))
 (.seq (.block 1 (.seq (.reg [1, 6, 28, 29] [⟨some 31, none, .mv (.tmp 29)⟩, ⟨some 7, none, .mv (.tmp 31)⟩])
 (.seq (.reg [1, 6, 7, 28, 29] [⟨some 32, none, .mv (.tmp 6)⟩, ⟨some 33, none, .nilc (.tmp 32)⟩, ⟨some 34, none, .fld 0 (.tmp 33)⟩, ⟨some 35, none, .load 2 true (.tmp 34)⟩, ⟨some 36, none, .mv (.tmp 7)⟩, ⟨some 37, none, .call 67 [(.tmp 35), (.const (.slice none 0 0)), (.tmp 36)]⟩, ⟨some 8, none, .mv (.tmp 37)⟩])
 (.seq (.reg [1, 6, 8, 28, 29] [⟨some 9, none, .mv (.const (.slice none 0 0))⟩])
 (.seq (.seq (.reg [1, 6, 8, 9, 28, 29] [⟨some 38, none, .fld 0 (.tmp 1)⟩, ⟨some 39, none, .load 1 false (.tmp 38)⟩, ⟨some 40, none, .mv (.const (.int .i64 0))⟩])
 (.block 2 (.loop [1, 6, 8, 9, 28, 29, 39, 40] [(9, 52, 25, 1)] sc_tables_New_L0)))
 (.fz [9] (.draw [1, 6, 8, 9, 28, 29] [⟨some 54, none, .mv (.tmp 6)⟩, ⟨some 55, none, .mv (.tmp 6)⟩, ⟨some 56, none, .mv (.tmp 6)⟩, ⟨some 57, none, .nilc (.tmp 56)⟩, ⟨some 58, none, .fld 2 (.tmp 57)⟩, ⟨some 59, none, .load 1 false (.tmp 58)⟩, ⟨some 60, none, .mv (.tmp 8)⟩, ⟨some 61, none, .bsl 25 1 [(.slice none 0 0)] 1 [(0, 1, (.tmp 60))]⟩, ⟨some 62, none, .hp (.app 98 25 1 24 (.slice none 0 0) (.tmp 59) (.tmp 61))⟩, ⟨some 63, none, .mv (.tmp 6)⟩, ⟨some 64, none, .nilc (.tmp 63)⟩, ⟨some 65, none, .fld 3 (.tmp 64)⟩, ⟨some 66, none, .hp (.load 1 false (.tmp 65))⟩, ⟨some 67, none, .mv (.tmp 9)⟩, ⟨some 68, none, .bsl 98 1 [(.slice none 0 0)] 1 [(0, 1, (.tmp 67))]⟩, ⟨some 69, none, .hp (.app 124 98 1 24 (.slice none 0 0) (.tmp 66) (.tmp 68))⟩, ⟨some 70, none, .nilc (.tmp 54)⟩, ⟨some 71, none, .fld 2 (.tmp 70)⟩, ⟨none, none, .store 1 (.tmp 71) (.tmp 62)⟩, ⟨some 72, none, .nilc (.tmp 55)⟩, ⟨some 73, none, .fld 3 (.tmp 72)⟩, ⟨none, none, .store 1 (.tmp 73) (.tmp 69)⟩])))))))
 (.reg [1, 6, 28, 29] [⟨some 74, none, .bin .add 3 (.tmp 29) (.const (.int .i64 1))⟩, ⟨some 29, none, .mv (.tmp 74)⟩]))))
def sc_tables_New : SCode :=
 (.seq (.reg [0] [⟨some 1, none, .box 24 (.tmp 0)⟩, ⟨some 2, none, .mv (.const (.pointer none))⟩, ⟨some 3, none, .mv (.const (.int .i64 0))⟩])
 (.seq (.seq (.reg [1] [⟨some 12, none, .load 2 true (.tmp 1)⟩, ⟨some 13, none, .call 65 [(.tmp 12)]⟩, ⟨some 11, none, .mv (.tmp 13)⟩, ⟨some 14, none, .ext (.tmp 11) 0⟩, ⟨some 15, none, .ext (.tmp 11) 1⟩, ⟨some 4, none, .mv (.tmp 14)⟩, ⟨some 5, none, .mv (.tmp 15)⟩])
 (.seq (.reg [1, 5] [⟨some 16, none, .mv (.tmp 5)⟩, ⟨some 17, none, .bin .neq 37 (.tmp 16) (.const (.int .i64 0))⟩])
 (.cond (.tmp 17) (.seq (.reg [5] [⟨some 18, none, .mv (.tmp 5)⟩, ⟨some 2, none, .mv (.const (.pointer none))⟩, ⟨some 3, none, .mv (.tmp 18)⟩])
 .ret) .skip)))
 (.seq (.draw [1] [⟨some 19, none, .fld 0 (.tmp 1)⟩, ⟨some 20, none, .load 1 false (.tmp 19)⟩, ⟨some 21, none, .fld 1 (.tmp 1)⟩, ⟨some 22, none, .load 1 false (.tmp 21)⟩, ⟨some 23, none, .call 66 [(.tmp 22)]⟩, ⟨some 24, none, .build [(.int .i64 0), (.slice none 0 0)] [(0, 1, (.tmp 20)), (1, 1, (.tmp 23))]⟩, ⟨some 25, none, .build [(.int .i64 0), (.slice none 0 0), (.slice none 0 0), (.slice none 0 0)] [(0, 2, (.tmp 24))]⟩, ⟨some 26, none, .hp (.box 126 (.tmp 25))⟩, ⟨some 6, none, .mv (.tmp 26)⟩])
 (.seq (.seq (.reg [1, 6] [⟨some 27, none, .fld 0 (.tmp 1)⟩, ⟨some 28, none, .load 1 false (.tmp 27)⟩, ⟨some 29, none, .mv (.const (.int .i64 0))⟩])
 (.block 0 (.loop [1, 6, 28, 29] [] sc_tables_New_L1)))
 (.seq (.reg [6] [⟨some 75, none, .mv (.tmp 6)⟩, ⟨some 2, none, .mv (.tmp 75)⟩, ⟨some 3, none, .mv (.const (.int .i64 0))⟩])
 .ret)))))
theorem fn_tables_New : FnOk Try.prog 39 Try.f39 sc_tables_New [.tmp 2, .tmp 3] 1 := ⟨Try.func39, by kernel_rfl, by kernel_rfl, by kernel_rfl, by kernel_rfl, by kernel_rfl, by kernel_rfl⟩

def sc_tables_Tables_Graph : SCode :=
 (.seq (.reg [0] [⟨some 2, none, .alloc 24 [(.int .i64 0), (.slice none 0 0)]⟩])
 (.seq (.seq (.reg [0, 2] [⟨some 3, none, .mv (.tmp 0)⟩, ⟨some 4, none, .isnil .p false (.tmp 3)⟩])
 (.cond (.tmp 4) (.seq (.reg [2] [⟨some 5, none, .build [(.int .i64 0), (.slice none 0 0)] []⟩, ⟨none, none, .store 2 (.tmp 2) (.tmp 5)⟩])
 .ret) .skip))
 (.seq (.draw [0, 2] [⟨some 6, none, .mv (.tmp 0)⟩, ⟨some 7, none, .nilc (.tmp 6)⟩, ⟨some 8, none, .fld 0 (.tmp 7)⟩, ⟨some 9, none, .fld 0 (.tmp 8)⟩, ⟨some 10, none, .load 1 false (.tmp 9)⟩, ⟨some 11, none, .mv (.tmp 0)⟩, ⟨some 12, none, .nilc (.tmp 11)⟩, ⟨some 13, none, .fld 0 (.tmp 12)⟩, ⟨some 14, none, .fld 1 (.tmp 13)⟩, ⟨some 15, none, .load 1 false (.tmp 14)⟩, ⟨some 16, none, .call 66 [(.tmp 15)]⟩, ⟨some 17, none, .build [(.int .i64 0), (.slice none 0 0)] [(0, 1, (.tmp 10)), (1, 1, (.tmp 16))]⟩, ⟨none, none, .store 2 (.tmp 2) (.tmp 17)⟩])
 .ret)))
theorem fn_tables_Tables_Graph : FnOk Try.prog 56 Try.f56 sc_tables_Tables_Graph [.cell 2 2 true] 1 := ⟨Try.func56, by kernel_rfl, by kernel_rfl, by kernel_rfl, by kernel_rfl, by kernel_rfl, by kernel_rfl⟩

def sc_tables_Tables_Next : SCode :=
 (.seq (.reg [0, 1, 2] [⟨some 6, none, .mv (.const (.slice none 0 0))⟩])
 (.seq (.seq (.reg [0, 1, 2] [⟨some 7, none, .mv (.tmp 0)⟩, ⟨some 8, none, .mv (.tmp 1)⟩, ⟨some 9, none, .call 109 [(.tmp 7), (.tmp 8)]⟩, ⟨some 10, none, .un .not (.tmp 9)⟩, ⟨some 11, none, .mv (.tmp 10)⟩, ⟨some 12, some (11, false), .mv (.tmp 0)⟩, ⟨some 13, some (11, false), .mv (.tmp 2)⟩, ⟨some 14, some (11, false), .call 109 [(.tmp 12), (.tmp 13)]⟩, ⟨some 15, some (11, false), .un .not (.tmp 14)⟩, ⟨some 16, none, .pick (.tmp 11) (.const (.bool true)) (.tmp 15)⟩])
 (.cond (.tmp 16) (.seq (.reg [] [⟨some 6, none, .mv (.const (.slice none 0 0))⟩])
 .ret) .skip))
 (.seq (.reg [0, 1, 2] [⟨some 17, none, .mv (.tmp 0)⟩, ⟨some 18, none, .nilc (.tmp 17)⟩, ⟨some 19, none, .fld 3 (.tmp 18)⟩, ⟨some 20, none, .load 1 false (.tmp 19)⟩, ⟨some 21, none, .mv (.tmp 2)⟩, ⟨some 22, none, .ia none 1 (.tmp 20) (.tmp 21)⟩, ⟨some 23, none, .load 1 false (.tmp 22)⟩, ⟨some 24, none, .mv (.tmp 1)⟩, ⟨some 25, none, .ia none 1 (.tmp 23) (.tmp 24)⟩, ⟨some 26, none, .load 1 false (.tmp 25)⟩, ⟨some 27, none, .call 110 [(.tmp 26)]⟩, ⟨some 6, none, .mv (.tmp 27)⟩])
 .ret)))
theorem fn_tables_Tables_Next : FnOk Try.prog 95 Try.f95 sc_tables_Tables_Next [.tmp 6] 3 := ⟨Try.func95, by kernel_rfl, by kernel_rfl, by kernel_rfl, by kernel_rfl, by kernel_rfl, by kernel_rfl⟩

def sc_tables_Tables_Dist : SCode :=
 (.seq (.reg [0, 1, 2] [⟨some 6, none, .mv (.const (.int .i64 0))⟩])
 (.seq (.seq (.reg [0, 1, 2] [⟨some 7, none, .mv (.tmp 0)⟩, ⟨some 8, none, .mv (.tmp 1)⟩, ⟨some 9, none, .call 109 [(.tmp 7), (.tmp 8)]⟩, ⟨some 10, none, .un .not (.tmp 9)⟩, ⟨some 11, none, .mv (.tmp 10)⟩, ⟨some 12, some (11, false), .mv (.tmp 0)⟩, ⟨some 13, some (11, false), .mv (.tmp 2)⟩, ⟨some 14, some (11, false), .call 109 [(.tmp 12), (.tmp 13)]⟩, ⟨some 15, some (11, false), .un .not (.tmp 14)⟩, ⟨some 16, none, .pick (.tmp 11) (.const (.bool true)) (.tmp 15)⟩])
 (.cond (.tmp 16) (.seq (.reg [] [⟨some 6, none, .mv (.const (.int .i64 (-1)))⟩])
 .ret) .skip))
 (.seq (.reg [0, 1, 2] [⟨some 17, none, .mv (.tmp 0)⟩, ⟨some 18, none, .nilc (.tmp 17)⟩, ⟨some 19, none, .fld 2 (.tmp 18)⟩, ⟨some 20, none, .load 1 false (.tmp 19)⟩, ⟨some 21, none, .mv (.tmp 2)⟩, ⟨some 22, none, .ia none 1 (.tmp 20) (.tmp 21)⟩, ⟨some 23, none, .load 1 false (.tmp 22)⟩, ⟨some 24, none, .mv (.tmp 1)⟩, ⟨some 25, none, .ia none 1 (.tmp 23) (.tmp 24)⟩, ⟨some 26, none, .load 1 false (.tmp 25)⟩, ⟨some 6, none, .mv (.tmp 26)⟩])
 .ret)))
theorem fn_tables_Tables_Dist : FnOk Try.prog 105 Try.f105 sc_tables_Tables_Dist [.tmp 6] 3 := ⟨Try.func105, by kernel_rfl, by kernel_rfl, by kernel_rfl, by kernel_rfl, by kernel_rfl, by kernel_rfl⟩

def sc_tables_Tables_is : SCode :=
 (.seq (.reg [0, 1] [⟨some 4, none, .mv (.const (.bool false))⟩])
 (.seq (.reg [0, 1] [⟨some 5, none, .mv (.tmp 0)⟩, ⟨some 6, none, .isnil .p true (.tmp 5)⟩, ⟨some 7, none, .mv (.tmp 6)⟩, ⟨some 8, some (7, true), .mv (.tmp 0)⟩, ⟨some 9, some (7, true), .nilc (.tmp 8)⟩, ⟨some 10, some (7, true), .fld 0 (.tmp 9)⟩, ⟨some 11, some (7, true), .load 2 true (.tmp 10)⟩, ⟨some 12, some (7, true), .mv (.tmp 1)⟩, ⟨some 13, some (7, true), .call 62 [(.tmp 11), (.tmp 12)]⟩, ⟨some 14, none, .pick (.tmp 7) (.tmp 13) (.const (.bool false))⟩, ⟨some 4, none, .mv (.tmp 14)⟩])
 .ret))
theorem fn_tables_Tables_is : FnOk Try.prog 109 Try.f109 sc_tables_Tables_is [.tmp 4] 2 := ⟨Try.func109, by kernel_rfl, by kernel_rfl, by kernel_rfl, by kernel_rfl, by kernel_rfl, by kernel_rfl⟩

end Go.Proofs.Ytejmcijcdhoogaa
end

section
namespace Go.Proofs.Ytejmcijcdhoogaa
open Go Abs

def sc_walk_Run_L0 : SCode :=
 (.seq (.seq (.reg [14, 16] [⟨some 46, none, .mv (.tmp 16)⟩, ⟨some 47, none, .nilc (.tmp 46)⟩, ⟨some 48, none, .fld 8 (.tmp 47)⟩, ⟨some 49, none, .fld 2 (.tmp 48)⟩, ⟨some 50, none, .load 1 false (.tmp 49)⟩, ⟨some 51, none, .bin .eql 3 (.tmp 50) (.const (.int .i64 0))⟩])
 (.cond (.tmp 51) .skip (.exit 0)))
 (.block 1 (.reg [14, 16] [⟨some 52, none, .mv (.tmp 16)⟩, ⟨some 53, none, .mv (.tmp 16)⟩, ⟨some 54, none, .call 63 [(.tmp 53)]⟩, ⟨some 55, none, .nilc (.tmp 52)⟩, ⟨some 56, none, .fld 8 (.tmp 55)⟩, ⟨some 57, none, .fld 2 (.tmp 56)⟩, ⟨none, none, .store 1 (.tmp 57) (.tmp 54)⟩])))
def sc_walk_Run : SCode :=
 (.seq (.reg [0, 1, 2, 3, 4, 5, 6] [⟨some 14, none, .alloc 64 [(.slice none 0 0), (.int .i64 0), (.int .i64 0), (.int .i64 0), (.int .i64 0)]⟩])
 (.seq (.reg [0, 1, 2, 3, 4, 5, 6, 14] [⟨some 17, none, .mv (.tmp 0)⟩, ⟨some 18, none, .call 56 [(.tmp 17)]⟩, ⟨some 15, none, .alloc 24 [(.int .i64 0), (.slice none 0 0)]⟩, ⟨none, none, .store 2 (.tmp 15) (.tmp 18)⟩])
 (.seq (.seq (.reg [0, 1, 2, 3, 4, 5, 6, 14, 15] [⟨some 19, none, .load 2 true (.tmp 15)⟩, ⟨some 20, none, .mv (.tmp 1)⟩, ⟨some 21, none, .call 62 [(.tmp 19), (.tmp 20)]⟩, ⟨some 22, none, .un .not (.tmp 21)⟩])
 (.cond (.tmp 22) (.seq (.reg [14] [⟨some 23, none, .build [(.slice none 0 0), (.int .i64 0), (.int .i64 0), (.int .i64 0), (.int .i64 0)] [(1, 1, (.const (.int .i64 (-1)))), (2, 1, (.const (.int .i64 4)))]⟩, ⟨none, none, .store 5 (.tmp 14) (.tmp 23)⟩])
 .ret) .skip))
 (.seq (.reg [0, 1, 2, 3, 4, 5, 6, 14, 15] [⟨some 24, none, .mv (.tmp 0)⟩, ⟨some 25, none, .load 2 true (.tmp 15)⟩, ⟨some 26, none, .mv (.tmp 2)⟩, ⟨some 27, none, .mv (.tmp 3)⟩, ⟨some 28, none, .mv (.tmp 4)⟩, ⟨some 29, none, .mv (.tmp 5)⟩, ⟨some 30, none, .mv (.tmp 6)⟩, ⟨some 31, none, .mnx false (.tmp 30) (.const (.int .i64 10))⟩, ⟨some 32, none, .mnx true (.const (.int .i64 0)) (.tmp 31)⟩, ⟨some 33, none, .build [(.pointer none), (.int .i64 0), (.slice none 0 0), (.slice none 0 0), (.int .i64 0), (.slice none 0 0), (.bool false), (.int .i64 0), (.slice none 0 0), (.int .i64 0), (.int .i64 0), (.int .i64 0), (.int .i64 0)] [(0, 1, (.tmp 24)), (1, 2, (.tmp 25)), (3, 1, (.tmp 26)), (4, 1, (.tmp 27)), (5, 1, (.tmp 28)), (6, 1, (.tmp 29)), (7, 1, (.tmp 32))]⟩, ⟨some 34, none, .hp (.box 118 (.tmp 33))⟩, ⟨some 16, none, .mv (.tmp 34)⟩])
 (.seq (.reg [1, 2, 14, 16] [⟨some 35, none, .mv (.tmp 16)⟩, ⟨some 36, none, .mv (.tmp 16)⟩, ⟨some 37, none, .mv (.tmp 1)⟩, ⟨some 38, none, .mv (.tmp 2)⟩, ⟨some 39, none, .len false (.tmp 38)⟩, ⟨some 40, none, .nilc (.tmp 35)⟩, ⟨some 41, none, .fld 8 (.tmp 40)⟩, ⟨some 42, none, .fld 1 (.tmp 41)⟩, ⟨none, none, .store 1 (.tmp 42) (.tmp 37)⟩, ⟨some 43, none, .nilc (.tmp 36)⟩, ⟨some 44, none, .fld 8 (.tmp 43)⟩, ⟨some 45, none, .fld 4 (.tmp 44)⟩, ⟨none, none, .store 1 (.tmp 45) (.tmp 39)⟩])
 (.seq (.block 0 (.loop [14, 16] [] sc_walk_Run_L0))
 (.seq (.reg [14, 16] [⟨some 58, none, .mv (.tmp 16)⟩, ⟨some 59, none, .nilc (.tmp 58)⟩, ⟨some 60, none, .fld 8 (.tmp 59)⟩, ⟨some 61, none, .load 5 true (.tmp 60)⟩, ⟨none, none, .store 5 (.tmp 14) (.tmp 61)⟩])
 .ret)))))))
theorem fn_walk_Run : FnOk Try.prog 34 Try.f34 sc_walk_Run [.cell 14 5 true] 7 := ⟨Try.func34, by kernel_rfl, by kernel_rfl, by kernel_rfl, by kernel_rfl, by kernel_rfl, by kernel_rfl⟩

def sc_walk_packet_step : SCode :=
 (.seq (.reg [0] [⟨some 2, none, .mv (.const (.int .i64 0))⟩])
 (.seq (.block 0 (.seq (.reg [0] [⟨some 6, none, .mv (.tmp 0)⟩, ⟨some 7, none, .nilc (.tmp 6)⟩, ⟨some 8, none, .fld 3 (.tmp 7)⟩, ⟨some 9, none, .load 1 false (.tmp 8)⟩, ⟨some 10, none, .len false (.tmp 9)⟩, ⟨some 11, none, .bin .eql 3 (.tmp 10) (.const (.int .i64 0))⟩, ⟨some 5, none, .mv (.tmp 11)⟩])
 (.cond (.tmp 5) (.seq (.reg [] [⟨some 2, none, .mv (.const (.int .i64 1))⟩])
 .ret) (.seq (.draw [0] [⟨some 13, none, .mv (.tmp 0)⟩, ⟨some 14, none, .nilc (.tmp 13)⟩, ⟨some 15, none, .fld 3 (.tmp 14)⟩, ⟨some 16, none, .load 1 false (.tmp 15)⟩, ⟨some 17, none, .ia none 2 (.tmp 16) (.const (.int .i64 0))⟩, ⟨some 18, none, .fld 0 (.tmp 17)⟩, ⟨some 19, none, .load 1 false (.tmp 18)⟩, ⟨some 20, none, .un .not (.tmp 19)⟩, ⟨some 21, none, .mv (.tmp 20)⟩, ⟨some 22, some (21, true), .mv (.tmp 0)⟩, ⟨some 23, some (21, true), .nilc (.tmp 22)⟩, ⟨some 24, some (21, true), .fld 3 (.tmp 23)⟩, ⟨some 25, some (21, true), .load 1 false (.tmp 24)⟩, ⟨some 26, some (21, true), .ia none 2 (.tmp 25) (.const (.int .i64 0))⟩, ⟨some 27, some (21, true), .fld 1 (.tmp 26)⟩, ⟨some 28, some (21, true), .load 1 false (.tmp 27)⟩, ⟨some 29, some (21, true), .mv (.tmp 0)⟩, ⟨some 30, some (21, true), .nilc (.tmp 29)⟩, ⟨some 31, some (21, true), .fld 8 (.tmp 30)⟩, ⟨some 32, some (21, true), .fld 1 (.tmp 31)⟩, ⟨some 33, some (21, true), .load 1 false (.tmp 32)⟩, ⟨some 34, some (21, true), .bin .eql 3 (.tmp 28) (.tmp 33)⟩, ⟨some 35, none, .pick (.tmp 21) (.tmp 34) (.const (.bool false))⟩, ⟨some 12, none, .mv (.tmp 35)⟩])
 (.cond (.tmp 12) (.seq (.reg [0] [⟨some 36, none, .mv (.tmp 0)⟩, ⟨some 37, none, .mv (.tmp 0)⟩, ⟨some 38, none, .nilc (.tmp 37)⟩, ⟨some 39, none, .fld 3 (.tmp 38)⟩, ⟨some 40, none, .load 1 false (.tmp 39)⟩, ⟨some 41, none, .slc (some 2) (.tmp 40) (some (.const (.int .i64 1))) none none⟩, ⟨some 42, none, .nilc (.tmp 36)⟩, ⟨some 43, none, .fld 3 (.tmp 42)⟩, ⟨none, none, .store 1 (.tmp 43) (.tmp 41)⟩])
 (.seq (.reg [] [⟨some 2, none, .mv (.const (.int .i64 0))⟩])
 .ret)) (.seq (.reg [0] [⟨some 45, none, .mv (.tmp 0)⟩, ⟨some 46, none, .nilc (.tmp 45)⟩, ⟨some 47, none, .fld 8 (.tmp 46)⟩, ⟨some 48, none, .fld 0 (.tmp 47)⟩, ⟨some 49, none, .load 1 false (.tmp 48)⟩, ⟨some 50, none, .len false (.tmp 49)⟩, ⟨some 51, none, .bin .eql 3 (.tmp 50) (.const (.int .i64 255))⟩, ⟨some 44, none, .mv (.tmp 51)⟩])
 (.cond (.tmp 44) (.seq (.reg [] [⟨some 2, none, .mv (.const (.int .i64 2))⟩])
 .ret) (.seq (.reg [0] [⟨some 53, none, .mv (.tmp 0)⟩, ⟨some 54, none, .call 81 [(.tmp 53)]⟩, ⟨some 52, none, .mv (.tmp 54)⟩])
 (.cond (.tmp 52) (.seq (.reg [] [⟨some 2, none, .mv (.const (.int .i64 5))⟩])
 .ret) .skip)))))))))
 (.seq (.reg [0] [⟨some 56, none, .mv (.tmp 0)⟩, ⟨some 57, none, .call 82 [(.tmp 56)]⟩, ⟨some 55, none, .mv (.tmp 57)⟩, ⟨some 58, none, .ext (.tmp 55) 0⟩, ⟨some 59, none, .ext (.tmp 55) 1⟩, ⟨some 3, none, .mv (.tmp 58)⟩, ⟨some 4, none, .mv (.tmp 59)⟩])
 (.seq (.block 1 (.seq (.reg [0, 3, 4] [⟨some 61, none, .mv (.tmp 4)⟩, ⟨some 62, none, .un .not (.tmp 61)⟩, ⟨some 60, none, .mv (.tmp 62)⟩])
 (.cond (.tmp 60) (.seq (.reg [] [⟨some 2, none, .mv (.const (.int .i64 4))⟩])
 .ret) (.seq (.reg [0, 3] [⟨some 64, none, .mv (.tmp 0)⟩, ⟨some 65, none, .nilc (.tmp 64)⟩, ⟨some 66, none, .fld 5 (.tmp 65)⟩, ⟨some 67, none, .load 1 false (.tmp 66)⟩, ⟨some 68, none, .mv (.tmp 3)⟩, ⟨some 69, none, .call 83 [(.tmp 67), (.tmp 68)]⟩, ⟨some 63, none, .mv (.tmp 69)⟩])
 (.cond (.tmp 63) (.seq (.reg [0, 3] [⟨some 70, none, .mv (.tmp 0)⟩, ⟨some 71, none, .mv (.tmp 3)⟩, ⟨some 72, none, .call 84 [(.tmp 70), (.tmp 71)]⟩])
 (.seq (.reg [] [⟨some 2, none, .mv (.const (.int .i64 0))⟩])
 .ret)) (.seq (.reg [0, 3] [⟨some 74, none, .mv (.tmp 0)⟩, ⟨some 75, none, .nilc (.tmp 74)⟩, ⟨some 76, none, .fld 6 (.tmp 75)⟩, ⟨some 77, none, .load 1 false (.tmp 76)⟩, ⟨some 78, none, .mv (.tmp 77)⟩, ⟨some 79, some (78, false), .mv (.tmp 0)⟩, ⟨some 80, some (78, false), .mv (.tmp 3)⟩, ⟨some 81, some (78, false), .call 85 [(.tmp 79), (.tmp 80)]⟩, ⟨some 82, some (78, false), .un .not (.tmp 81)⟩, ⟨some 83, none, .pick (.tmp 78) (.const (.bool true)) (.tmp 82)⟩, ⟨some 73, none, .mv (.tmp 83)⟩])
 (.cond (.tmp 73) (.seq (.reg [] [⟨some 2, none, .mv (.const (.int .i64 3))⟩])
 .ret) (.seq (.reg [0] [⟨some 85, none, .mv (.tmp 0)⟩, ⟨some 86, none, .nilc (.tmp 85)⟩, ⟨some 87, none, .fld 8 (.tmp 86)⟩, ⟨some 88, none, .fld 3 (.tmp 87)⟩, ⟨some 89, none, .load 1 false (.tmp 88)⟩, ⟨some 90, none, .bin .eql 3 (.tmp 89) (.const (.int .i64 255))⟩, ⟨some 84, none, .mv (.tmp 90)⟩])
 (.cond (.tmp 84) (.seq (.reg [] [⟨some 2, none, .mv (.const (.int .i64 2))⟩])
 .ret) .skip)))))))))
 (.seq (.reg [] [⟨some 2, none, .mv (.const (.int .i64 0))⟩])
 .ret)))))
theorem fn_walk_packet_step : FnOk Try.prog 63 Try.f63 sc_walk_packet_step [.tmp 2] 1 := ⟨Try.func63, by kernel_rfl, by kernel_rfl, by kernel_rfl, by kernel_rfl, by kernel_rfl, by kernel_rfl⟩

def sc_walk_packet_label : SCode :=
 (.seq (.reg [0] [⟨some 2, none, .mv (.const (.bool false))⟩])
 (.seq (.seq (.draw [0] [⟨some 6, none, .mv (.tmp 0)⟩, ⟨some 7, none, .nilc (.tmp 6)⟩, ⟨some 8, none, .fld 1 (.tmp 7)⟩, ⟨some 9, none, .load 2 true (.tmp 8)⟩, ⟨some 10, none, .mv (.tmp 0)⟩, ⟨some 11, none, .nilc (.tmp 10)⟩, ⟨some 12, none, .fld 3 (.tmp 11)⟩, ⟨some 13, none, .load 1 false (.tmp 12)⟩, ⟨some 14, none, .ia none 2 (.tmp 13) (.const (.int .i64 0))⟩, ⟨some 15, none, .load 2 true (.tmp 14)⟩, ⟨some 16, none, .call 94 [(.tmp 9), (.tmp 15)]⟩, ⟨some 17, none, .un .not (.tmp 16)⟩])
 (.cond (.tmp 17) (.seq (.reg [] [⟨some 2, none, .mv (.const (.bool true))⟩])
 .ret) .skip))
 (.seq (.draw [0] [⟨some 19, none, .mv (.tmp 0)⟩, ⟨some 20, none, .nilc (.tmp 19)⟩, ⟨some 21, none, .fld 1 (.tmp 20)⟩, ⟨some 22, none, .load 2 true (.tmp 21)⟩, ⟨some 23, none, .mv (.tmp 0)⟩, ⟨some 24, none, .nilc (.tmp 23)⟩, ⟨some 25, none, .fld 3 (.tmp 24)⟩, ⟨some 26, none, .load 1 false (.tmp 25)⟩, ⟨some 27, none, .ia none 2 (.tmp 26) (.const (.int .i64 0))⟩, ⟨some 28, none, .fld 1 (.tmp 27)⟩, ⟨some 29, none, .load 1 false (.tmp 28)⟩, ⟨some 30, none, .call 57 [(.tmp 22), (.tmp 29)]⟩, ⟨some 18, none, .mv (.tmp 30)⟩, ⟨some 31, none, .ext (.tmp 18) 0⟩, ⟨some 32, none, .ext (.tmp 18) 1⟩, ⟨some 33, none, .ext (.tmp 18) 2⟩, ⟨some 3, none, .mv (.tmp 31)⟩, ⟨some 4, none, .mv (.tmp 32)⟩, ⟨some 5, none, .mv (.tmp 33)⟩])
 (.seq (.reg [0, 3] [⟨some 34, none, .mv (.tmp 0)⟩, ⟨some 35, none, .nilc (.tmp 34)⟩, ⟨some 36, none, .fld 3 (.tmp 35)⟩, ⟨some 37, none, .load 1 false (.tmp 36)⟩, ⟨some 38, none, .ia none 2 (.tmp 37) (.const (.int .i64 0))⟩, ⟨some 39, none, .fld 0 (.tmp 38)⟩, ⟨some 40, none, .load 1 false (.tmp 39)⟩, ⟨some 41, none, .mv (.tmp 40)⟩, ⟨some 42, some (41, true), .mv (.tmp 3)⟩, ⟨some 43, some (41, true), .mv (.tmp 0)⟩, ⟨some 44, some (41, true), .nilc (.tmp 43)⟩, ⟨some 45, some (41, true), .fld 8 (.tmp 44)⟩, ⟨some 46, some (41, true), .fld 1 (.tmp 45)⟩, ⟨some 47, some (41, true), .load 1 false (.tmp 46)⟩, ⟨some 48, some (41, true), .bin .neq 3 (.tmp 42) (.tmp 47)⟩, ⟨some 49, none, .pick (.tmp 41) (.tmp 48) (.const (.bool false))⟩, ⟨some 2, none, .mv (.tmp 49)⟩])
 .ret))))
theorem fn_walk_packet_label : FnOk Try.prog 81 Try.f81 sc_walk_packet_label [.tmp 2] 1 := ⟨Try.func81, by kernel_rfl, by kernel_rfl, by kernel_rfl, by kernel_rfl, by kernel_rfl, by kernel_rfl⟩

def sc_walk_packet_hop : SCode :=
 (.seq (.reg [0] [⟨some 2, none, .mv (.const (.int .i64 0))⟩, ⟨some 3, none, .mv (.const (.bool false))⟩])
 (.seq (.seq (.reg [0] [⟨some 6, none, .mv (.tmp 0)⟩, ⟨some 7, none, .nilc (.tmp 6)⟩, ⟨some 8, none, .fld 3 (.tmp 7)⟩, ⟨some 9, none, .load 1 false (.tmp 8)⟩, ⟨some 10, none, .ia none 2 (.tmp 9) (.const (.int .i64 0))⟩, ⟨some 11, none, .fld 0 (.tmp 10)⟩, ⟨some 12, none, .load 1 false (.tmp 11)⟩])
 (.cond (.tmp 12) (.seq (.reg [0] [⟨some 13, none, .mv (.tmp 0)⟩, ⟨some 14, none, .nilc (.tmp 13)⟩, ⟨some 15, none, .fld 3 (.tmp 14)⟩, ⟨some 16, none, .load 1 false (.tmp 15)⟩, ⟨some 17, none, .ia none 2 (.tmp 16) (.const (.int .i64 0))⟩, ⟨some 18, none, .fld 1 (.tmp 17)⟩, ⟨some 19, none, .load 1 false (.tmp 18)⟩, ⟨some 2, none, .mv (.tmp 19)⟩, ⟨some 3, none, .mv (.const (.bool true))⟩])
 .ret) .skip))
 (.seq (.draw [0] [⟨some 20, none, .mv (.tmp 0)⟩, ⟨some 21, none, .nilc (.tmp 20)⟩, ⟨some 22, none, .fld 0 (.tmp 21)⟩, ⟨some 23, none, .load 1 false (.tmp 22)⟩, ⟨some 24, none, .mv (.tmp 0)⟩, ⟨some 25, none, .nilc (.tmp 24)⟩, ⟨some 26, none, .fld 8 (.tmp 25)⟩, ⟨some 27, none, .fld 1 (.tmp 26)⟩, ⟨some 28, none, .load 1 false (.tmp 27)⟩, ⟨some 29, none, .mv (.tmp 0)⟩, ⟨some 30, none, .nilc (.tmp 29)⟩, ⟨some 31, none, .fld 3 (.tmp 30)⟩, ⟨some 32, none, .load 1 false (.tmp 31)⟩, ⟨some 33, none, .ia none 2 (.tmp 32) (.const (.int .i64 0))⟩, ⟨some 34, none, .fld 1 (.tmp 33)⟩, ⟨some 35, none, .load 1 false (.tmp 34)⟩, ⟨some 36, none, .call 95 [(.tmp 23), (.tmp 28), (.tmp 35)]⟩, ⟨some 4, none, .mv (.tmp 36)⟩])
 (.seq (.reg [0, 4] [⟨some 37, none, .mv (.tmp 4)⟩, ⟨some 38, none, .len false (.tmp 37)⟩, ⟨some 5, none, .mv (.tmp 38)⟩])
 (.seq (.seq (.reg [0, 4, 5] [⟨some 39, none, .mv (.tmp 5)⟩, ⟨some 40, none, .bin .eql 3 (.tmp 39) (.const (.int .i64 0))⟩])
 (.cond (.tmp 40) (.seq (.reg [] [⟨some 2, none, .mv (.const (.int .i64 0))⟩, ⟨some 3, none, .mv (.const (.bool false))⟩])
 .ret) .skip))
 (.seq (.reg [0, 4, 5] [⟨some 41, none, .mv (.tmp 4)⟩, ⟨some 42, none, .mv (.tmp 0)⟩, ⟨some 43, none, .nilc (.tmp 42)⟩, ⟨some 44, none, .fld 4 (.tmp 43)⟩, ⟨some 45, none, .load 1 false (.tmp 44)⟩, ⟨some 46, none, .mv (.tmp 5)⟩, ⟨some 47, none, .bin .rem 3 (.tmp 45) (.tmp 46)⟩, ⟨some 48, none, .mv (.tmp 5)⟩, ⟨some 49, none, .bin .add 3 (.tmp 47) (.tmp 48)⟩, ⟨some 50, none, .mv (.tmp 5)⟩, ⟨some 51, none, .bin .rem 3 (.tmp 49) (.tmp 50)⟩, ⟨some 52, none, .ia none 1 (.tmp 41) (.tmp 51)⟩, ⟨some 53, none, .load 1 false (.tmp 52)⟩, ⟨some 2, none, .mv (.tmp 53)⟩, ⟨some 3, none, .mv (.const (.bool true))⟩])
 .ret))))))
theorem fn_walk_packet_hop : FnOk Try.prog 82 Try.f82 sc_walk_packet_hop [.tmp 2, .tmp 3] 1 := ⟨Try.func82, by kernel_rfl, by kernel_rfl, by kernel_rfl, by kernel_rfl, by kernel_rfl, by kernel_rfl⟩

def sc_walk_packet_cross : SCode :=
 (.seq (.seq (.reg [0, 1] [⟨some 4, none, .mv (.tmp 0)⟩, ⟨some 5, none, .nilc (.tmp 4)⟩, ⟨some 6, none, .fld 3 (.tmp 5)⟩, ⟨some 7, none, .load 1 false (.tmp 6)⟩, ⟨some 8, none, .ia none 2 (.tmp 7) (.const (.int .i64 0))⟩, ⟨some 9, none, .fld 0 (.tmp 8)⟩, ⟨some 10, none, .load 1 false (.tmp 9)⟩])
 (.cond (.tmp 10) (.reg [0, 1] [⟨some 11, none, .mv (.tmp 0)⟩, ⟨some 12, none, .mv (.tmp 0)⟩, ⟨some 13, none, .nilc (.tmp 12)⟩, ⟨some 14, none, .fld 3 (.tmp 13)⟩, ⟨some 15, none, .load 1 false (.tmp 14)⟩, ⟨some 16, none, .slc (some 2) (.tmp 15) (some (.const (.int .i64 1))) none none⟩, ⟨some 17, none, .nilc (.tmp 11)⟩, ⟨some 18, none, .fld 3 (.tmp 17)⟩, ⟨none, none, .store 1 (.tmp 18) (.tmp 16)⟩]) .skip))
 (.seq (.reg [0, 1] [⟨some 19, none, .mv (.tmp 0)⟩, ⟨some 20, none, .mv (.tmp 0)⟩, ⟨some 21, none, .nilc (.tmp 20)⟩, ⟨some 22, none, .fld 8 (.tmp 21)⟩, ⟨some 23, none, .fld 0 (.tmp 22)⟩, ⟨some 24, none, .load 1 false (.tmp 23)⟩, ⟨some 25, none, .mv (.tmp 1)⟩, ⟨some 26, none, .bsl 3 1 [(.int .i64 0)] 1 [(0, 1, (.tmp 25))]⟩, ⟨some 27, none, .hp (.app 25 3 1 8 (.int .i64 0) (.tmp 24) (.tmp 26))⟩, ⟨some 28, none, .nilc (.tmp 19)⟩, ⟨some 29, none, .fld 8 (.tmp 28)⟩, ⟨some 30, none, .fld 0 (.tmp 29)⟩, ⟨none, none, .store 1 (.tmp 30) (.tmp 27)⟩])
 (.reg [0, 1] [⟨some 32, none, .mv (.tmp 0)⟩, ⟨some 33, none, .mv (.tmp 0)⟩, ⟨some 34, none, .nilc (.tmp 33)⟩, ⟨some 35, none, .fld 1 (.tmp 34)⟩, ⟨some 36, none, .load 2 true (.tmp 35)⟩, ⟨some 37, none, .mv (.tmp 1)⟩, ⟨some 38, none, .call 57 [(.tmp 36), (.tmp 37)]⟩, ⟨some 31, none, .mv (.tmp 38)⟩, ⟨some 39, none, .ext (.tmp 31) 0⟩, ⟨some 40, none, .ext (.tmp 31) 1⟩, ⟨some 41, none, .ext (.tmp 31) 2⟩, ⟨some 42, none, .nilc (.tmp 32)⟩, ⟨some 43, none, .fld 8 (.tmp 42)⟩, ⟨some 44, none, .fld 1 (.tmp 43)⟩, ⟨none, none, .store 1 (.tmp 44) (.tmp 40)⟩])))
theorem fn_walk_packet_cross : FnOk Try.prog 84 Try.f84 sc_walk_packet_cross [] 2 := ⟨Try.func84, by kernel_rfl, by kernel_rfl, by kernel_rfl, by kernel_rfl, by kernel_rfl, by kernel_rfl⟩

def sc_walk_packet_around : SCode :=
 (.seq (.reg [0, 1] [⟨some 4, none, .mv (.const (.bool false))⟩])
 (.seq (.draw [0, 1] [⟨some 8, none, .mv (.tmp 0)⟩, ⟨some 9, none, .nilc (.tmp 8)⟩, ⟨some 10, none, .fld 0 (.tmp 9)⟩, ⟨some 11, none, .load 1 false (.tmp 10)⟩, ⟨some 12, none, .mv (.tmp 1)⟩, ⟨some 13, none, .mv (.tmp 0)⟩, ⟨some 14, none, .call 96 [(.tmp 13)]⟩, ⟨some 15, none, .mv (.tmp 0)⟩, ⟨some 16, none, .nilc (.tmp 15)⟩, ⟨some 17, none, .fld 7 (.tmp 16)⟩, ⟨some 18, none, .load 1 false (.tmp 17)⟩, ⟨some 19, none, .call 26 [(.tmp 11), (.tmp 12), (.tmp 14), (.tmp 18)]⟩, ⟨some 7, none, .mv (.tmp 19)⟩, ⟨some 20, none, .ext (.tmp 7) 0⟩, ⟨some 21, none, .ext (.tmp 7) 1⟩, ⟨some 5, none, .mv (.tmp 20)⟩, ⟨some 6, none, .mv (.tmp 21)⟩])
 (.seq (.seq (.draw [0, 5, 6] [⟨some 22, none, .mv (.tmp 6)⟩, ⟨some 23, none, .bin .neq 37 (.tmp 22) (.const (.int .i64 0))⟩, ⟨some 24, none, .mv (.tmp 23)⟩, ⟨some 25, some (24, false), .mv (.tmp 5)⟩, ⟨some 26, some (24, false), .len false (.tmp 25)⟩, ⟨some 27, some (24, false), .mv (.tmp 0)⟩, ⟨some 28, some (24, false), .nilc (.tmp 27)⟩, ⟨some 29, some (24, false), .fld 3 (.tmp 28)⟩, ⟨some 30, some (24, false), .load 1 false (.tmp 29)⟩, ⟨some 31, some (24, false), .len false (.tmp 30)⟩, ⟨some 32, some (24, false), .bin .add 3 (.tmp 26) (.tmp 31)⟩, ⟨some 33, some (24, false), .bin .sub 3 (.tmp 32) (.const (.int .i64 1))⟩, ⟨some 34, some (24, false), .mv (.tmp 0)⟩, ⟨some 35, some (24, false), .nilc (.tmp 34)⟩, ⟨some 36, some (24, false), .fld 7 (.tmp 35)⟩, ⟨some 37, some (24, false), .load 1 false (.tmp 36)⟩, ⟨some 38, some (24, false), .bin .gtr 3 (.tmp 33) (.tmp 37)⟩, ⟨some 39, none, .pick (.tmp 24) (.const (.bool true)) (.tmp 38)⟩])
 (.cond (.tmp 39) (.seq (.reg [] [⟨some 4, none, .mv (.const (.bool false))⟩])
 .ret) .skip))
 (.seq (.reg [0, 5] [⟨some 40, none, .mv (.tmp 0)⟩, ⟨some 41, none, .mv (.tmp 5)⟩, ⟨some 42, none, .mv (.tmp 0)⟩, ⟨some 43, none, .nilc (.tmp 42)⟩, ⟨some 44, none, .fld 3 (.tmp 43)⟩, ⟨some 45, none, .load 1 false (.tmp 44)⟩, ⟨some 46, none, .slc (some 2) (.tmp 45) (some (.const (.int .i64 1))) none none⟩, ⟨some 47, none, .bsl 36 1 [(.slice none 0 0)] 2 [(0, 1, (.tmp 41)), (1, 1, (.tmp 46))]⟩, ⟨some 48, none, .call 97 [(.tmp 47)]⟩, ⟨some 49, none, .nilc (.tmp 40)⟩, ⟨some 50, none, .fld 3 (.tmp 49)⟩, ⟨none, none, .store 1 (.tmp 50) (.tmp 48)⟩])
 (.seq (.reg [0] [⟨some 51, none, .mv (.tmp 0)⟩, ⟨some 52, none, .nilc (.tmp 51)⟩, ⟨some 53, none, .fld 8 (.tmp 52)⟩, ⟨some 54, none, .fld 3 (.tmp 53)⟩, ⟨some 55, none, .load 1 false (.tmp 54)⟩, ⟨some 56, none, .bin .add 3 (.tmp 55) (.const (.int .i64 1))⟩, ⟨some 57, none, .nilc (.tmp 51)⟩, ⟨some 58, none, .fld 8 (.tmp 57)⟩, ⟨some 59, none, .fld 3 (.tmp 58)⟩, ⟨none, none, .store 1 (.tmp 59) (.tmp 56)⟩])
 (.seq (.draw [0] [⟨some 60, none, .mv (.tmp 0)⟩, ⟨some 61, none, .mv (.tmp 0)⟩, ⟨some 62, none, .nilc (.tmp 61)⟩, ⟨some 63, none, .fld 8 (.tmp 62)⟩, ⟨some 64, none, .fld 4 (.tmp 63)⟩, ⟨some 65, none, .load 1 false (.tmp 64)⟩, ⟨some 66, none, .mv (.tmp 0)⟩, ⟨some 67, none, .nilc (.tmp 66)⟩, ⟨some 68, none, .fld 3 (.tmp 67)⟩, ⟨some 69, none, .load 1 false (.tmp 68)⟩, ⟨some 70, none, .len false (.tmp 69)⟩, ⟨some 71, none, .mnx true (.tmp 65) (.tmp 70)⟩, ⟨some 72, none, .nilc (.tmp 60)⟩, ⟨some 73, none, .fld 8 (.tmp 72)⟩, ⟨some 74, none, .fld 4 (.tmp 73)⟩, ⟨none, none, .store 1 (.tmp 74) (.tmp 71)⟩])
 (.seq (.reg [] [⟨some 4, none, .mv (.const (.bool true))⟩])
 .ret)))))))
theorem fn_walk_packet_around : FnOk Try.prog 85 Try.f85 sc_walk_packet_around [.tmp 4] 2 := ⟨Try.func85, by kernel_rfl, by kernel_rfl, by kernel_rfl, by kernel_rfl, by kernel_rfl, by kernel_rfl⟩

def sc_walk_packet_end : SCode :=
 (.seq (.reg [0] [⟨some 2, none, .mv (.const (.int .i64 0))⟩])
 (.seq (.seq (.reg [0] [⟨some 6, none, .mv (.tmp 0)⟩, ⟨some 7, none, .nilc (.tmp 6)⟩, ⟨some 8, none, .fld 3 (.tmp 7)⟩, ⟨some 9, none, .load 1 false (.tmp 8)⟩, ⟨some 10, none, .ia none 2 (.tmp 9) (.const (.int .i64 0))⟩, ⟨some 11, none, .fld 0 (.tmp 10)⟩, ⟨some 12, none, .load 1 false (.tmp 11)⟩, ⟨some 13, none, .un .not (.tmp 12)⟩])
 (.cond (.tmp 13) (.seq (.reg [0] [⟨some 14, none, .mv (.tmp 0)⟩, ⟨some 15, none, .nilc (.tmp 14)⟩, ⟨some 16, none, .fld 3 (.tmp 15)⟩, ⟨some 17, none, .load 1 false (.tmp 16)⟩, ⟨some 18, none, .ia none 2 (.tmp 17) (.const (.int .i64 0))⟩, ⟨some 19, none, .fld 1 (.tmp 18)⟩, ⟨some 20, none, .load 1 false (.tmp 19)⟩, ⟨some 2, none, .mv (.tmp 20)⟩])
 .ret) .skip))
 (.seq (.draw [0] [⟨some 22, none, .mv (.tmp 0)⟩, ⟨some 23, none, .nilc (.tmp 22)⟩, ⟨some 24, none, .fld 1 (.tmp 23)⟩, ⟨some 25, none, .load 2 true (.tmp 24)⟩, ⟨some 26, none, .mv (.tmp 0)⟩, ⟨some 27, none, .nilc (.tmp 26)⟩, ⟨some 28, none, .fld 3 (.tmp 27)⟩, ⟨some 29, none, .load 1 false (.tmp 28)⟩, ⟨some 30, none, .ia none 2 (.tmp 29) (.const (.int .i64 0))⟩, ⟨some 31, none, .fld 1 (.tmp 30)⟩, ⟨some 32, none, .load 1 false (.tmp 31)⟩, ⟨some 33, none, .call 57 [(.tmp 25), (.tmp 32)]⟩, ⟨some 21, none, .mv (.tmp 33)⟩, ⟨some 34, none, .ext (.tmp 21) 0⟩, ⟨some 35, none, .ext (.tmp 21) 1⟩, ⟨some 36, none, .ext (.tmp 21) 2⟩, ⟨some 3, none, .mv (.tmp 34)⟩, ⟨some 4, none, .mv (.tmp 35)⟩, ⟨some 5, none, .mv (.tmp 36)⟩])
 (.seq (.reg [4] [⟨some 37, none, .mv (.tmp 4)⟩, ⟨some 2, none, .mv (.tmp 37)⟩])
 .ret))))
theorem fn_walk_packet_end : FnOk Try.prog 96 Try.f96 sc_walk_packet_end [.tmp 2] 1 := ⟨Try.func96, by kernel_rfl, by kernel_rfl, by kernel_rfl, by kernel_rfl, by kernel_rfl, by kernel_rfl⟩

end Go.Proofs.Ytejmcijcdhoogaa
end

section
namespace Go.Proofs.Ytejmcijcdhoogaa
open Go Abs

def sc_waymarklaw15_Small : SCode :=
 (.seq (.reg [0] [⟨some 1, none, .box 24 (.tmp 0)⟩, ⟨some 2, none, .mv (.const (.bool false))⟩])
 (.seq (.reg [1] [⟨some 3, none, .fld 0 (.tmp 1)⟩, ⟨some 4, none, .load 1 false (.tmp 3)⟩, ⟨some 5, none, .bin .leq 3 (.tmp 4) (.const (.int .i64 10))⟩, ⟨some 6, none, .mv (.tmp 5)⟩, ⟨some 7, some (6, true), .fld 1 (.tmp 1)⟩, ⟨some 8, some (6, true), .load 1 false (.tmp 7)⟩, ⟨some 9, some (6, true), .len false (.tmp 8)⟩, ⟨some 10, some (6, true), .bin .leq 3 (.tmp 9) (.const (.int .i64 16))⟩, ⟨some 11, none, .pick (.tmp 6) (.tmp 10) (.const (.bool false))⟩, ⟨some 2, none, .mv (.tmp 11)⟩])
 .ret))
theorem fn_waymarklaw15_Small : FnOk Try.prog 17 Try.f17 sc_waymarklaw15_Small [.tmp 2] 1 := ⟨Try.func17, by kernel_rfl, by kernel_rfl, by kernel_rfl, by kernel_rfl, by kernel_rfl, by kernel_rfl⟩

end Go.Proofs.Ytejmcijcdhoogaa
end

section
namespace Go.Proofs.Ytejmcijcdhoogaa
open Go Abs

def sc_waymarklaw16_Tables : SCode :=
 (.seq (.reg [0] [⟨some 1, none, .box 24 (.tmp 0)⟩, ⟨some 2, none, .mv (.const (.pointer none))⟩, ⟨some 3, none, .mv (.const (.pointer none))⟩, ⟨some 4, none, .mv (.const (.bool false))⟩])
 (.seq (.reg [1] [⟨some 10, none, .load 2 true (.tmp 1)⟩, ⟨some 11, none, .call 39 [(.tmp 10)]⟩, ⟨some 9, none, .mv (.tmp 11)⟩, ⟨some 12, none, .ext (.tmp 9) 0⟩, ⟨some 13, none, .ext (.tmp 9) 1⟩, ⟨some 5, none, .mv (.tmp 12)⟩, ⟨some 6, none, .mv (.tmp 13)⟩])
 (.seq (.reg [1, 5] [⟨some 15, none, .load 2 true (.tmp 1)⟩, ⟨some 16, none, .call 40 [(.tmp 15)]⟩, ⟨some 14, none, .mv (.tmp 16)⟩, ⟨some 17, none, .ext (.tmp 14) 0⟩, ⟨some 18, none, .ext (.tmp 14) 1⟩, ⟨some 7, none, .mv (.tmp 17)⟩, ⟨some 8, none, .mv (.tmp 18)⟩])
 (.seq (.reg [5, 7, 8] [⟨some 19, none, .mv (.tmp 5)⟩, ⟨some 20, none, .mv (.tmp 7)⟩, ⟨some 21, none, .mv (.tmp 8)⟩, ⟨some 22, none, .bin .eql 3 (.tmp 21) (.const (.int .i64 0))⟩, ⟨some 23, none, .mv (.tmp 22)⟩, ⟨some 24, some (23, true), .mv (.tmp 5)⟩, ⟨some 25, some (23, true), .isnil .p true (.tmp 24)⟩, ⟨some 26, none, .pick (.tmp 23) (.tmp 25) (.const (.bool false))⟩, ⟨some 2, none, .mv (.tmp 19)⟩, ⟨some 3, none, .mv (.tmp 20)⟩, ⟨some 4, none, .mv (.tmp 26)⟩])
 .ret))))
theorem fn_waymarklaw16_Tables : FnOk Try.prog 19 Try.f19 sc_waymarklaw16_Tables [.tmp 2, .tmp 3, .tmp 4] 1 := ⟨Try.func19, by kernel_rfl, by kernel_rfl, by kernel_rfl, by kernel_rfl, by kernel_rfl, by kernel_rfl⟩

end Go.Proofs.Ytejmcijcdhoogaa
end

section
namespace Go.Proofs.Ytejmcijcdhoogaa
open Go Abs

end Go.Proofs.Ytejmcijcdhoogaa
end

section
namespace Go.Proofs.Ytejmcijcdhoogaa
open Go Abs

end Go.Proofs.Ytejmcijcdhoogaa
end

section
namespace Go.Proofs.Ytejmcijcdhoogaa
open Go Abs

def sc_waymarklaw21_WalkBest : SCode :=
 (.seq (.reg [0, 1, 2, 3] [⟨some 4, none, .box 24 (.tmp 0)⟩, ⟨some 5, none, .box 27 (.tmp 1)⟩, ⟨some 8, none, .mv (.const (.bool false))⟩])
 (.seq (.reg [2, 3, 4, 5] [⟨some 16, none, .call 32 []⟩, ⟨some 9, none, .mv (.tmp 16)⟩])
 (.seq (.seq (.reg [2, 3, 4, 5, 9] [⟨some 17, none, .mv (.tmp 9)⟩, ⟨some 18, none, .un .not (.tmp 17)⟩, ⟨some 19, none, .mv (.tmp 18)⟩, ⟨some 20, some (19, false), .load 2 true (.tmp 4)⟩, ⟨some 21, some (19, false), .call 17 [(.tmp 20)]⟩, ⟨some 22, some (19, false), .un .not (.tmp 21)⟩, ⟨some 23, none, .pick (.tmp 19) (.const (.bool true)) (.tmp 22)⟩, ⟨some 24, none, .mv (.tmp 23)⟩, ⟨some 25, some (24, false), .load 7 true (.tmp 5)⟩, ⟨some 26, some (24, false), .call 18 [(.tmp 25)]⟩, ⟨some 27, some (24, false), .un .not (.tmp 26)⟩, ⟨some 28, none, .pick (.tmp 24) (.const (.bool true)) (.tmp 27)⟩, ⟨some 29, none, .mv (.tmp 28)⟩, ⟨some 30, some (29, false), .mv (.tmp 2)⟩, ⟨some 31, some (29, false), .len false (.tmp 30)⟩, ⟨some 32, some (29, false), .bin .gtr 3 (.tmp 31) (.const (.int .i64 200))⟩, ⟨some 33, none, .pick (.tmp 29) (.const (.bool true)) (.tmp 32)⟩])
 (.cond (.tmp 33) (.seq (.reg [9] [⟨some 34, none, .mv (.tmp 9)⟩, ⟨some 8, none, .mv (.tmp 34)⟩])
 .ret) .skip))
 (.seq (.reg [2, 3, 4, 5] [⟨some 36, none, .load 2 true (.tmp 4)⟩, ⟨some 37, none, .call 19 [(.tmp 36)]⟩, ⟨some 35, none, .mv (.tmp 37)⟩, ⟨some 38, none, .ext (.tmp 35) 0⟩, ⟨some 39, none, .ext (.tmp 35) 1⟩, ⟨some 40, none, .ext (.tmp 35) 2⟩, ⟨some 10, none, .mv (.tmp 38)⟩, ⟨some 11, none, .mv (.tmp 39)⟩, ⟨some 12, none, .mv (.tmp 40)⟩])
 (.seq (.seq (.reg [2, 3, 4, 5, 10, 12] [⟨some 41, none, .mv (.tmp 12)⟩, ⟨some 42, none, .un .not (.tmp 41)⟩])
 (.cond (.tmp 42) (.seq (.reg [] [⟨some 8, none, .mv (.const (.bool true))⟩])
 .ret) .skip))
 (.seq (.reg [2, 3, 4, 5, 10] [⟨some 44, none, .mv (.tmp 10)⟩, ⟨some 45, none, .load 7 true (.tmp 5)⟩, ⟨some 46, none, .mv (.tmp 2)⟩, ⟨some 47, none, .call 20 [(.tmp 44), (.tmp 45), (.tmp 46), (.const (.int .i64 10))]⟩, ⟨some 43, none, .mv (.tmp 47)⟩, ⟨some 48, none, .ext (.tmp 43) 0⟩, ⟨some 49, none, .ext (.tmp 43) 1⟩, ⟨some 13, none, .mv (.tmp 48)⟩, ⟨some 14, none, .mv (.tmp 49)⟩])
 (.seq (.seq (.reg [2, 3, 4, 5, 10, 13, 14] [⟨some 50, none, .mv (.tmp 14)⟩, ⟨some 51, none, .call 36 [(.tmp 50)]⟩, ⟨some 52, none, .bin .neq 3 (.tmp 51) (.const (.int .i64 0))⟩])
 (.cond (.tmp 52) (.seq (.reg [] [⟨some 8, none, .mv (.const (.bool true))⟩])
 .ret) .skip))
 (.seq (.reg [2, 3, 4, 5, 10, 13] [⟨some 53, none, .mv (.tmp 10)⟩, ⟨some 54, none, .fld 0 (.tmp 5)⟩, ⟨some 55, none, .load 1 false (.tmp 54)⟩, ⟨some 56, none, .mv (.tmp 13)⟩, ⟨some 57, none, .mv (.tmp 3)⟩, ⟨some 58, none, .mv (.tmp 2)⟩, ⟨some 59, none, .call 34 [(.tmp 53), (.tmp 55), (.tmp 56), (.tmp 57), (.tmp 58), (.const (.bool true)), (.const (.int .i64 10))]⟩, ⟨some 15, none, .alloc 64 [(.slice none 0 0), (.int .i64 0), (.int .i64 0), (.int .i64 0), (.int .i64 0)]⟩, ⟨none, none, .store 5 (.tmp 15) (.tmp 59)⟩])
 (.seq (.reg [2, 4, 5, 13, 15] [⟨some 60, none, .fld 2 (.tmp 15)⟩, ⟨some 61, none, .load 1 false (.tmp 60)⟩, ⟨some 62, none, .bin .eql 3 (.tmp 61) (.const (.int .i64 1))⟩, ⟨some 63, none, .mv (.tmp 62)⟩, ⟨some 64, some (63, true), .fld 1 (.tmp 15)⟩, ⟨some 65, some (63, true), .load 1 false (.tmp 64)⟩, ⟨some 66, some (63, true), .fld 1 (.tmp 5)⟩, ⟨some 67, some (63, true), .load 1 false (.tmp 66)⟩, ⟨some 68, some (63, true), .bin .eql 3 (.tmp 65) (.tmp 67)⟩, ⟨some 69, none, .pick (.tmp 63) (.tmp 68) (.const (.bool false))⟩, ⟨some 70, none, .mv (.tmp 69)⟩, ⟨some 71, some (70, true), .fld 3 (.tmp 15)⟩, ⟨some 72, some (70, true), .load 1 false (.tmp 71)⟩, ⟨some 73, some (70, true), .bin .eql 3 (.tmp 72) (.const (.int .i64 0))⟩, ⟨some 74, none, .pick (.tmp 70) (.tmp 73) (.const (.bool false))⟩, ⟨some 75, none, .mv (.tmp 74)⟩, ⟨some 76, some (75, true), .fld 4 (.tmp 15)⟩, ⟨some 77, some (75, true), .load 1 false (.tmp 76)⟩, ⟨some 78, some (75, true), .mv (.tmp 13)⟩, ⟨some 79, some (75, true), .len false (.tmp 78)⟩, ⟨some 80, some (75, true), .bin .eql 3 (.tmp 77) (.tmp 79)⟩, ⟨some 81, none, .pick (.tmp 75) (.tmp 80) (.const (.bool false))⟩, ⟨some 82, none, .mv (.tmp 81)⟩, ⟨some 83, some (82, true), .load 2 true (.tmp 4)⟩, ⟨some 84, some (82, true), .load 7 true (.tmp 5)⟩, ⟨some 85, some (82, true), .mv (.tmp 2)⟩, ⟨some 86, some (82, true), .fld 0 (.tmp 15)⟩, ⟨some 87, some (82, true), .load 1 false (.tmp 86)⟩, ⟨some 88, some (82, true), .call 37 [(.tmp 83), (.tmp 84), (.tmp 85), (.tmp 87)]⟩, ⟨some 89, none, .pick (.tmp 82) (.tmp 88) (.const (.bool false))⟩, ⟨some 8, none, .mv (.tmp 89)⟩])
 .ret)))))))))
theorem fn_waymarklaw21_WalkBest : FnOk Try.prog 11 Try.f11 sc_waymarklaw21_WalkBest [.tmp 8] 4 := ⟨Try.func11, by kernel_rfl, by kernel_rfl, by kernel_rfl, by kernel_rfl, by kernel_rfl, by kernel_rfl⟩

def sc_waymarklaw21_WalkAround_L0 : SCode :=
 (.seq (.seq (.reg [2, 4, 5, 6, 18, 19] [⟨some 77, none, .mv (.tmp 19)⟩, ⟨some 78, none, .fld 0 (.tmp 18)⟩, ⟨some 79, none, .load 1 false (.tmp 78)⟩, ⟨some 80, none, .len false (.tmp 79)⟩, ⟨some 81, none, .bin .lss 3 (.tmp 77) (.tmp 80)⟩])
 (.cond (.tmp 81) .skip (.exit 0)))
 (.seq (.block 1 (.seq (.reg [2, 4, 5, 6, 18, 19] [⟨some 84, none, .fld 0 (.tmp 18)⟩, ⟨some 85, none, .load 1 false (.tmp 84)⟩, ⟨some 86, none, .mv (.tmp 19)⟩, ⟨some 87, none, .ia none 1 (.tmp 85) (.tmp 86)⟩, ⟨some 88, none, .load 1 false (.tmp 87)⟩, ⟨some 89, none, .bin .quo 3 (.tmp 88) (.const (.int .i64 2))⟩, ⟨some 90, none, .mv (.tmp 2)⟩, ⟨some 91, none, .bin .eql 3 (.tmp 89) (.tmp 90)⟩])
 (.cond (.tmp 91) (.seq (.reg [] [⟨some 10, none, .mv (.const (.bool false))⟩])
 .ret) .skip)))
 (.reg [2, 4, 5, 6, 18, 19] [⟨some 82, none, .mv (.tmp 19)⟩, ⟨some 83, none, .bin .add 3 (.tmp 82) (.const (.int .i64 1))⟩, ⟨some 19, none, .mv (.tmp 83)⟩])))
def sc_waymarklaw21_WalkAround : SCode :=
 (.seq (.reg [0, 1, 2, 3, 4] [⟨some 5, none, .box 24 (.tmp 0)⟩, ⟨some 6, none, .box 27 (.tmp 1)⟩, ⟨some 10, none, .mv (.const (.bool false))⟩])
 (.seq (.reg [2, 3, 4, 5, 6] [⟨some 20, none, .call 32 []⟩, ⟨some 11, none, .mv (.tmp 20)⟩])
 (.seq (.seq (.reg [2, 3, 4, 5, 6, 11] [⟨some 21, none, .mv (.tmp 11)⟩, ⟨some 22, none, .un .not (.tmp 21)⟩, ⟨some 23, none, .mv (.tmp 22)⟩, ⟨some 24, some (23, false), .load 2 true (.tmp 5)⟩, ⟨some 25, some (23, false), .call 17 [(.tmp 24)]⟩, ⟨some 26, some (23, false), .un .not (.tmp 25)⟩, ⟨some 27, none, .pick (.tmp 23) (.const (.bool true)) (.tmp 26)⟩, ⟨some 28, none, .mv (.tmp 27)⟩, ⟨some 29, some (28, false), .load 7 true (.tmp 6)⟩, ⟨some 30, some (28, false), .call 18 [(.tmp 29)]⟩, ⟨some 31, some (28, false), .un .not (.tmp 30)⟩, ⟨some 32, none, .pick (.tmp 28) (.const (.bool true)) (.tmp 31)⟩, ⟨some 33, none, .mv (.tmp 32)⟩, ⟨some 34, some (33, false), .mv (.tmp 2)⟩, ⟨some 35, some (33, false), .bin .lss 3 (.tmp 34) (.const (.int .i64 0))⟩, ⟨some 36, none, .pick (.tmp 33) (.const (.bool true)) (.tmp 35)⟩, ⟨some 37, none, .mv (.tmp 36)⟩, ⟨some 38, some (37, false), .mv (.tmp 2)⟩, ⟨some 39, some (37, false), .fld 1 (.tmp 5)⟩, ⟨some 40, some (37, false), .load 1 false (.tmp 39)⟩, ⟨some 41, some (37, false), .len false (.tmp 40)⟩, ⟨some 42, some (37, false), .bin .geq 3 (.tmp 38) (.tmp 41)⟩, ⟨some 43, none, .pick (.tmp 37) (.const (.bool true)) (.tmp 42)⟩])
 (.cond (.tmp 43) (.seq (.reg [11] [⟨some 44, none, .mv (.tmp 11)⟩, ⟨some 10, none, .mv (.tmp 44)⟩])
 .ret) .skip))
 (.seq (.reg [2, 3, 4, 5, 6] [⟨some 46, none, .load 2 true (.tmp 5)⟩, ⟨some 47, none, .call 19 [(.tmp 46)]⟩, ⟨some 45, none, .mv (.tmp 47)⟩, ⟨some 48, none, .ext (.tmp 45) 0⟩, ⟨some 49, none, .ext (.tmp 45) 1⟩, ⟨some 50, none, .ext (.tmp 45) 2⟩, ⟨some 12, none, .mv (.tmp 48)⟩, ⟨some 13, none, .mv (.tmp 49)⟩, ⟨some 14, none, .mv (.tmp 50)⟩])
 (.seq (.seq (.reg [2, 3, 4, 5, 6, 12, 14] [⟨some 51, none, .mv (.tmp 14)⟩, ⟨some 52, none, .un .not (.tmp 51)⟩])
 (.cond (.tmp 52) (.seq (.reg [] [⟨some 10, none, .mv (.const (.bool true))⟩])
 .ret) .skip))
 (.seq (.reg [2, 3, 4, 5, 6, 12] [⟨some 54, none, .mv (.tmp 12)⟩, ⟨some 55, none, .load 7 true (.tmp 6)⟩, ⟨some 56, none, .call 20 [(.tmp 54), (.tmp 55), (.const (.slice none 0 0)), (.const (.int .i64 4))]⟩, ⟨some 53, none, .mv (.tmp 56)⟩, ⟨some 57, none, .ext (.tmp 53) 0⟩, ⟨some 58, none, .ext (.tmp 53) 1⟩, ⟨some 15, none, .mv (.tmp 57)⟩, ⟨some 16, none, .mv (.tmp 58)⟩])
 (.seq (.seq (.reg [2, 3, 4, 5, 6, 12, 15, 16] [⟨some 59, none, .mv (.tmp 16)⟩, ⟨some 60, none, .call 36 [(.tmp 59)]⟩, ⟨some 61, none, .bin .neq 3 (.tmp 60) (.const (.int .i64 0))⟩])
 (.cond (.tmp 61) (.seq (.reg [] [⟨some 10, none, .mv (.const (.bool true))⟩])
 .ret) .skip))
 (.seq (.reg [2, 3, 4, 5, 6, 12, 15] [⟨some 62, none, .fld 1 (.tmp 5)⟩, ⟨some 63, none, .load 1 false (.tmp 62)⟩, ⟨some 64, none, .len false (.tmp 63)⟩, ⟨some 65, none, .mksl 4 1 1 [(.bool false)] (.tmp 64) (.tmp 64)⟩, ⟨some 17, none, .mv (.tmp 65)⟩])
 (.seq (.reg [2, 3, 4, 5, 6, 12, 15, 17] [⟨some 66, none, .mv (.tmp 17)⟩, ⟨some 67, none, .mv (.tmp 2)⟩, ⟨some 68, none, .ia none 1 (.tmp 66) (.tmp 67)⟩, ⟨none, none, .store 1 (.tmp 68) (.const (.bool true))⟩])
 (.seq (.reg [2, 3, 4, 5, 6, 12, 15, 17] [⟨some 69, none, .mv (.tmp 12)⟩, ⟨some 70, none, .fld 0 (.tmp 6)⟩, ⟨some 71, none, .load 1 false (.tmp 70)⟩, ⟨some 72, none, .mv (.tmp 15)⟩, ⟨some 73, none, .mv (.tmp 3)⟩, ⟨some 74, none, .mv (.tmp 17)⟩, ⟨some 75, none, .mv (.tmp 4)⟩, ⟨some 76, none, .call 34 [(.tmp 69), (.tmp 71), (.tmp 72), (.tmp 73), (.tmp 74), (.tmp 75), (.const (.int .i64 10))]⟩, ⟨some 18, none, .alloc 64 [(.slice none 0 0), (.int .i64 0), (.int .i64 0), (.int .i64 0), (.int .i64 0)]⟩, ⟨none, none, .store 5 (.tmp 18) (.tmp 76)⟩])
 (.seq (.seq (.reg [2, 4, 5, 6, 18] [⟨some 19, none, .mv (.const (.int .i64 0))⟩])
 (.block 0 (.loop [2, 4, 5, 6, 18, 19] [] sc_waymarklaw21_WalkAround_L0)))
 (.seq (.seq (.reg [4, 5, 6, 18] [⟨some 92, none, .mv (.tmp 4)⟩])
 (.cond (.tmp 92) (.seq (.reg [5, 6, 18] [⟨some 93, none, .fld 3 (.tmp 18)⟩, ⟨some 94, none, .load 1 false (.tmp 93)⟩, ⟨some 95, none, .bin .eql 3 (.tmp 94) (.const (.int .i64 0))⟩, ⟨some 96, none, .mv (.tmp 95)⟩, ⟨some 97, some (96, true), .fld 2 (.tmp 18)⟩, ⟨some 98, some (96, true), .load 1 false (.tmp 97)⟩, ⟨some 99, some (96, true), .bin .eql 3 (.tmp 98) (.const (.int .i64 1))⟩, ⟨some 100, some (96, true), .mv (.tmp 99)⟩, ⟨some 101, some (100, true), .fld 1 (.tmp 18)⟩, ⟨some 102, some (100, true), .load 1 false (.tmp 101)⟩, ⟨some 103, some (100, true), .fld 1 (.tmp 6)⟩, ⟨some 104, some (100, true), .load 1 false (.tmp 103)⟩, ⟨some 105, some (100, true), .bin .eql 3 (.tmp 102) (.tmp 104)⟩, ⟨some 106, some (96, true), .pick (.tmp 100) (.tmp 105) (.const (.bool false))⟩, ⟨some 107, some (96, true), .mv (.tmp 106)⟩, ⟨some 108, some (107, true), .load 2 true (.tmp 5)⟩, ⟨some 109, some (107, true), .load 7 true (.tmp 6)⟩, ⟨some 110, some (107, true), .fld 0 (.tmp 18)⟩, ⟨some 111, some (107, true), .load 1 false (.tmp 110)⟩, ⟨some 112, some (107, true), .call 37 [(.tmp 108), (.tmp 109), (.const (.slice none 0 0)), (.tmp 111)]⟩, ⟨some 113, some (96, true), .pick (.tmp 107) (.tmp 112) (.const (.bool false))⟩, ⟨some 114, some (96, true), .mv (.tmp 113)⟩, ⟨some 115, some (114, false), .fld 2 (.tmp 18)⟩, ⟨some 116, some (114, false), .load 1 false (.tmp 115)⟩, ⟨some 117, some (114, false), .bin .eql 3 (.tmp 116) (.const (.int .i64 3))⟩, ⟨some 118, some (114, false), .mv (.tmp 117)⟩, ⟨some 119, some (118, true), .load 2 true (.tmp 5)⟩, ⟨some 120, some (118, true), .load 7 true (.tmp 6)⟩, ⟨some 121, some (118, true), .fld 0 (.tmp 18)⟩, ⟨some 122, some (118, true), .load 1 false (.tmp 121)⟩, ⟨some 123, some (118, true), .call 37 [(.tmp 119), (.tmp 120), (.const (.slice none 0 0)), (.tmp 122)]⟩, ⟨some 124, some (118, true), .un .not (.tmp 123)⟩, ⟨some 125, some (114, false), .pick (.tmp 118) (.tmp 124) (.const (.bool false))⟩, ⟨some 126, some (96, true), .pick (.tmp 114) (.const (.bool true)) (.tmp 125)⟩, ⟨some 127, none, .pick (.tmp 96) (.tmp 126) (.const (.bool false))⟩, ⟨some 10, none, .mv (.tmp 127)⟩])
 .ret) .skip))
 (.seq (.seq (.reg [6, 18] [⟨some 128, none, .fld 2 (.tmp 18)⟩, ⟨some 129, none, .load 1 false (.tmp 128)⟩])
 (.block 2 (.seq (.reg [6, 18, 129] [⟨some 131, none, .bin .eql 3 (.tmp 129) (.const (.int .i64 1))⟩, ⟨some 130, none, .mv (.tmp 131)⟩])
 (.cond (.tmp 130) (.seq (.reg [6, 18] [⟨some 132, none, .fld 1 (.tmp 18)⟩, ⟨some 133, none, .load 1 false (.tmp 132)⟩, ⟨some 134, none, .fld 1 (.tmp 6)⟩, ⟨some 135, none, .load 1 false (.tmp 134)⟩, ⟨some 136, none, .bin .eql 3 (.tmp 133) (.tmp 135)⟩, ⟨some 10, none, .mv (.tmp 136)⟩])
 .ret) (.seq (.reg [129] [⟨some 138, none, .bin .eql 3 (.tmp 129) (.const (.int .i64 3))⟩, ⟨some 137, none, .mv (.tmp 138)⟩])
 (.cond (.tmp 137) (.seq (.reg [] [⟨some 10, none, .mv (.const (.bool true))⟩])
 .ret) .skip))))))
 (.seq (.reg [] [⟨some 10, none, .mv (.const (.bool false))⟩])
 .ret))))))))))))))
theorem fn_waymarklaw21_WalkAround : FnOk Try.prog 12 Try.f12 sc_waymarklaw21_WalkAround [.tmp 10] 5 := ⟨Try.func12, by kernel_rfl, by kernel_rfl, by kernel_rfl, by kernel_rfl, by kernel_rfl, by kernel_rfl⟩

def sc_waymarklaw21_alive : SCode :=
 (.seq (.reg [] [⟨some 0, none, .mv (.const (.bool false))⟩])
 (.seq (.reg [] [⟨some 7, none, .build [(.int .i64 0), (.int .i64 0), (.int .i64 0), (.int .i64 0)] [(1, 1, (.const (.int .i64 1))), (2, 1, (.const (.int .i64 7)))]⟩, ⟨some 8, none, .bsl 48 4 [(.int .i64 0), (.int .i64 0), (.int .i64 0), (.int .i64 0)] 1 [(0, 4, (.tmp 7))]⟩, ⟨some 9, none, .build [(.int .i64 0), (.slice none 0 0)] [(0, 1, (.const (.int .i64 2))), (1, 1, (.tmp 8))]⟩, ⟨some 10, none, .call 19 [(.tmp 9)]⟩, ⟨some 6, none, .mv (.tmp 10)⟩, ⟨some 11, none, .ext (.tmp 6) 0⟩, ⟨some 12, none, .ext (.tmp 6) 1⟩, ⟨some 13, none, .ext (.tmp 6) 2⟩, ⟨some 1, none, .mv (.tmp 11)⟩, ⟨some 2, none, .mv (.tmp 12)⟩, ⟨some 3, none, .mv (.tmp 13)⟩])
 (.seq (.reg [1, 3] [⟨some 14, none, .mv (.tmp 1)⟩, ⟨some 15, none, .call 34 [(.tmp 14), (.const (.int .i64 0)), (.const (.slice none 0 0)), (.const (.int .i64 5)), (.const (.slice none 0 0)), (.const (.bool false)), (.const (.int .i64 3))]⟩, ⟨some 4, none, .alloc 64 [(.slice none 0 0), (.int .i64 0), (.int .i64 0), (.int .i64 0), (.int .i64 0)]⟩, ⟨none, none, .store 5 (.tmp 4) (.tmp 15)⟩])
 (.seq (.reg [1, 3, 4] [⟨some 16, none, .mv (.tmp 1)⟩, ⟨some 17, none, .build [(.bool false), (.int .i64 0)] [(1, 1, (.const (.int .i64 1)))]⟩, ⟨some 18, none, .bsl 50 2 [(.bool false), (.int .i64 0)] 1 [(0, 2, (.tmp 17))]⟩, ⟨some 19, none, .call 34 [(.tmp 16), (.const (.int .i64 0)), (.tmp 18), (.const (.int .i64 5)), (.const (.slice none 0 0)), (.const (.bool false)), (.const (.int .i64 3))]⟩, ⟨some 5, none, .alloc 64 [(.slice none 0 0), (.int .i64 0), (.int .i64 0), (.int .i64 0), (.int .i64 0)]⟩, ⟨none, none, .store 5 (.tmp 5) (.tmp 19)⟩])
 (.seq (.reg [3, 4, 5] [⟨some 20, none, .mv (.tmp 3)⟩, ⟨some 21, none, .mv (.tmp 20)⟩, ⟨some 22, some (21, true), .fld 2 (.tmp 4)⟩, ⟨some 23, some (21, true), .load 1 false (.tmp 22)⟩, ⟨some 24, some (21, true), .bin .eql 3 (.tmp 23) (.const (.int .i64 1))⟩, ⟨some 25, none, .pick (.tmp 21) (.tmp 24) (.const (.bool false))⟩, ⟨some 26, none, .mv (.tmp 25)⟩, ⟨some 27, some (26, true), .fld 1 (.tmp 4)⟩, ⟨some 28, some (26, true), .load 1 false (.tmp 27)⟩, ⟨some 29, some (26, true), .bin .eql 3 (.tmp 28) (.const (.int .i64 0))⟩, ⟨some 30, none, .pick (.tmp 26) (.tmp 29) (.const (.bool false))⟩, ⟨some 31, none, .mv (.tmp 30)⟩, ⟨some 32, some (31, true), .fld 2 (.tmp 5)⟩, ⟨some 33, some (31, true), .load 1 false (.tmp 32)⟩, ⟨some 34, some (31, true), .bin .eql 3 (.tmp 33) (.const (.int .i64 1))⟩, ⟨some 35, none, .pick (.tmp 31) (.tmp 34) (.const (.bool false))⟩, ⟨some 36, none, .mv (.tmp 35)⟩, ⟨some 37, some (36, true), .fld 1 (.tmp 5)⟩, ⟨some 38, some (36, true), .load 1 false (.tmp 37)⟩, ⟨some 39, some (36, true), .bin .eql 3 (.tmp 38) (.const (.int .i64 1))⟩, ⟨some 40, none, .pick (.tmp 36) (.tmp 39) (.const (.bool false))⟩, ⟨some 41, none, .mv (.tmp 40)⟩, ⟨some 42, some (41, true), .fld 0 (.tmp 5)⟩, ⟨some 43, some (41, true), .load 1 false (.tmp 42)⟩, ⟨some 44, some (41, true), .len false (.tmp 43)⟩, ⟨some 45, some (41, true), .bin .eql 3 (.tmp 44) (.const (.int .i64 1))⟩, ⟨some 46, none, .pick (.tmp 41) (.tmp 45) (.const (.bool false))⟩, ⟨some 0, none, .mv (.tmp 46)⟩])
 .ret)))))
theorem fn_waymarklaw21_alive : FnOk Try.prog 32 Try.f32 sc_waymarklaw21_alive [.tmp 0] 0 := ⟨Try.func32, by kernel_rfl, by kernel_rfl, by kernel_rfl, by kernel_rfl, by kernel_rfl, by kernel_rfl⟩

def sc_waymarklaw21_num : SCode :=
 (.seq (.reg [0] [⟨some 2, none, .mv (.const (.int .i64 0))⟩])
 (.seq (.reg [0] [⟨some 3, none, .mv (.tmp 0)⟩, ⟨some 2, none, .mv (.tmp 3)⟩])
 .ret))
theorem fn_waymarklaw21_num : FnOk Try.prog 36 Try.f36 sc_waymarklaw21_num [.tmp 2] 1 := ⟨Try.func36, by kernel_rfl, by kernel_rfl, by kernel_rfl, by kernel_rfl, by kernel_rfl, by kernel_rfl⟩

end Go.Proofs.Ytejmcijcdhoogaa
end

section
namespace Go.Proofs.Ytejmcijcdhoogaa
open Go Abs

def sc_waymarklaw8_Few : SCode :=
 (.seq (.reg [0] [⟨some 1, none, .box 27 (.tmp 0)⟩, ⟨some 2, none, .mv (.const (.bool false))⟩])
 (.seq (.reg [1] [⟨some 3, none, .fld 3 (.tmp 1)⟩, ⟨some 4, none, .load 1 false (.tmp 3)⟩, ⟨some 5, none, .len false (.tmp 4)⟩, ⟨some 6, none, .bin .leq 3 (.tmp 5) (.const (.int .i64 20))⟩, ⟨some 7, none, .mv (.tmp 6)⟩, ⟨some 8, some (7, true), .fld 4 (.tmp 1)⟩, ⟨some 9, some (7, true), .load 1 false (.tmp 8)⟩, ⟨some 10, some (7, true), .len false (.tmp 9)⟩, ⟨some 11, some (7, true), .bin .leq 3 (.tmp 10) (.const (.int .i64 60))⟩, ⟨some 12, none, .pick (.tmp 7) (.tmp 11) (.const (.bool false))⟩, ⟨some 13, none, .mv (.tmp 12)⟩, ⟨some 14, some (13, true), .fld 5 (.tmp 1)⟩, ⟨some 15, some (13, true), .load 1 false (.tmp 14)⟩, ⟨some 16, some (13, true), .len false (.tmp 15)⟩, ⟨some 17, some (13, true), .bin .leq 3 (.tmp 16) (.const (.int .i64 60))⟩, ⟨some 18, none, .pick (.tmp 13) (.tmp 17) (.const (.bool false))⟩, ⟨some 19, none, .mv (.tmp 18)⟩, ⟨some 20, some (19, true), .fld 6 (.tmp 1)⟩, ⟨some 21, some (19, true), .load 1 false (.tmp 20)⟩, ⟨some 22, some (19, true), .len false (.tmp 21)⟩, ⟨some 23, some (19, true), .bin .leq 3 (.tmp 22) (.const (.int .i64 60))⟩, ⟨some 24, none, .pick (.tmp 19) (.tmp 23) (.const (.bool false))⟩, ⟨some 2, none, .mv (.tmp 24)⟩])
 .ret))
theorem fn_waymarklaw8_Few : FnOk Try.prog 18 Try.f18 sc_waymarklaw8_Few [.tmp 2] 1 := ⟨Try.func18, by kernel_rfl, by kernel_rfl, by kernel_rfl, by kernel_rfl, by kernel_rfl, by kernel_rfl⟩

end Go.Proofs.Ytejmcijcdhoogaa
end

section
namespace Go.Proofs.Ytejmcijcdhoogaa
open Go Abs

def sc_waymarkref1_Ends : SCode :=
 (.seq (.reg [0, 1] [⟨some 2, none, .box 24 (.tmp 0)⟩, ⟨some 4, none, .mv (.const (.int .i64 0))⟩, ⟨some 5, none, .mv (.const (.int .i64 0))⟩, ⟨some 6, none, .mv (.const (.bool false))⟩])
 (.seq (.seq (.reg [1, 2] [⟨some 8, none, .mv (.tmp 1)⟩, ⟨some 9, none, .bin .lss 3 (.tmp 8) (.const (.int .i64 0))⟩, ⟨some 10, none, .mv (.tmp 9)⟩, ⟨some 11, some (10, false), .mv (.tmp 1)⟩, ⟨some 12, some (10, false), .bin .quo 3 (.tmp 11) (.const (.int .i64 2))⟩, ⟨some 13, some (10, false), .fld 1 (.tmp 2)⟩, ⟨some 14, some (10, false), .load 1 false (.tmp 13)⟩, ⟨some 15, some (10, false), .len false (.tmp 14)⟩, ⟨some 16, some (10, false), .bin .geq 3 (.tmp 12) (.tmp 15)⟩, ⟨some 17, none, .pick (.tmp 10) (.const (.bool true)) (.tmp 16)⟩])
 (.cond (.tmp 17) (.seq (.reg [] [⟨some 4, none, .mv (.const (.int .i64 0))⟩, ⟨some 5, none, .mv (.const (.int .i64 0))⟩, ⟨some 6, none, .mv (.const (.bool false))⟩])
 .ret) .skip))
 (.seq (.reg [1, 2] [⟨some 18, none, .fld 1 (.tmp 2)⟩, ⟨some 19, none, .load 1 false (.tmp 18)⟩, ⟨some 20, none, .mv (.tmp 1)⟩, ⟨some 21, none, .bin .quo 3 (.tmp 20) (.const (.int .i64 2))⟩, ⟨some 22, none, .ia none 4 (.tmp 19) (.tmp 21)⟩, ⟨some 23, none, .load 4 true (.tmp 22)⟩, ⟨some 7, none, .alloc 48 [(.int .i64 0), (.int .i64 0), (.int .i64 0), (.int .i64 0)]⟩, ⟨none, none, .store 4 (.tmp 7) (.tmp 23)⟩])
 (.seq (.seq (.reg [1, 7] [⟨some 24, none, .mv (.tmp 1)⟩, ⟨some 25, none, .bin .rem 3 (.tmp 24) (.const (.int .i64 2))⟩, ⟨some 26, none, .bin .eql 3 (.tmp 25) (.const (.int .i64 1))⟩])
 (.cond (.tmp 26) (.seq (.draw [7] [⟨some 27, none, .fld 1 (.tmp 7)⟩, ⟨some 28, none, .load 1 false (.tmp 27)⟩, ⟨some 29, none, .fld 0 (.tmp 7)⟩, ⟨some 30, none, .load 1 false (.tmp 29)⟩, ⟨some 4, none, .mv (.tmp 28)⟩, ⟨some 5, none, .mv (.tmp 30)⟩, ⟨some 6, none, .mv (.const (.bool true))⟩])
 .ret) .skip))
 (.seq (.draw [7] [⟨some 31, none, .fld 0 (.tmp 7)⟩, ⟨some 32, none, .load 1 false (.tmp 31)⟩, ⟨some 33, none, .fld 1 (.tmp 7)⟩, ⟨some 34, none, .load 1 false (.tmp 33)⟩, ⟨some 4, none, .mv (.tmp 32)⟩, ⟨some 5, none, .mv (.tmp 34)⟩, ⟨some 6, none, .mv (.const (.bool true))⟩])
 .ret)))))
theorem fn_waymarkref1_Ends : FnOk Try.prog 29 Try.f29 sc_waymarkref1_Ends [.tmp 4, .tmp 5, .tmp 6] 2 := ⟨Try.func29, by kernel_rfl, by kernel_rfl, by kernel_rfl, by kernel_rfl, by kernel_rfl, by kernel_rfl⟩

def sc_waymarkref1_From_L0 : SCode :=
 (.seq (.seq (.reg [1, 3, 9, 11, 12] [⟨some 46, none, .mv (.tmp 12)⟩, ⟨some 47, none, .fld 1 (.tmp 3)⟩, ⟨some 48, none, .load 1 false (.tmp 47)⟩, ⟨some 49, none, .len false (.tmp 48)⟩, ⟨some 50, none, .bin .mul 3 (.const (.int .i64 2)) (.tmp 49)⟩, ⟨some 51, none, .bin .lss 3 (.tmp 46) (.tmp 50)⟩])
 (.cond (.tmp 51) .skip (.exit 4)))
 (.seq (.block 5 (.seq (.reg [1, 3, 9, 11, 12] [⟨some 55, none, .load 2 true (.tmp 3)⟩, ⟨some 56, none, .mv (.tmp 12)⟩, ⟨some 57, none, .call 29 [(.tmp 55), (.tmp 56)]⟩, ⟨some 54, none, .mv (.tmp 57)⟩, ⟨some 58, none, .ext (.tmp 54) 0⟩, ⟨some 59, none, .ext (.tmp 54) 1⟩, ⟨some 60, none, .ext (.tmp 54) 2⟩, ⟨some 13, none, .mv (.tmp 58)⟩, ⟨some 14, none, .mv (.tmp 59)⟩, ⟨some 15, none, .mv (.tmp 60)⟩])
 (.seq (.draw [1, 3, 9, 11, 12, 13, 14] [⟨some 61, none, .mv (.tmp 9)⟩, ⟨some 62, none, .mv (.tmp 13)⟩, ⟨some 63, none, .ia none 1 (.tmp 61) (.tmp 62)⟩, ⟨some 64, none, .load 1 false (.tmp 63)⟩, ⟨some 65, none, .fld 1 (.tmp 3)⟩, ⟨some 66, none, .load 1 false (.tmp 65)⟩, ⟨some 67, none, .mv (.tmp 12)⟩, ⟨some 68, none, .bin .quo 3 (.tmp 67) (.const (.int .i64 2))⟩, ⟨some 69, none, .ia none 4 (.tmp 66) (.tmp 68)⟩, ⟨some 70, none, .fld 2 (.tmp 69)⟩, ⟨some 71, none, .load 1 false (.tmp 70)⟩, ⟨some 72, none, .bin .add 3 (.tmp 64) (.tmp 71)⟩, ⟨some 16, none, .mv (.tmp 72)⟩])
 (.seq (.reg [1, 3, 9, 11, 12, 13, 14, 16] [⟨some 73, none, .mv (.tmp 9)⟩, ⟨some 74, none, .mv (.tmp 13)⟩, ⟨some 75, none, .ia none 1 (.tmp 73) (.tmp 74)⟩, ⟨some 76, none, .load 1 false (.tmp 75)⟩, ⟨some 77, none, .bin .geq 3 (.tmp 76) (.const (.int .i64 0))⟩, ⟨some 78, none, .mv (.tmp 77)⟩, ⟨some 79, some (78, true), .mv (.tmp 1)⟩, ⟨some 80, some (78, true), .mv (.tmp 12)⟩, ⟨some 81, some (78, true), .bin .quo 3 (.tmp 80) (.const (.int .i64 2))⟩, ⟨some 82, some (78, true), .call 38 [(.tmp 79), (.tmp 81)]⟩, ⟨some 83, some (78, true), .un .not (.tmp 82)⟩, ⟨some 84, none, .pick (.tmp 78) (.tmp 83) (.const (.bool false))⟩, ⟨some 85, none, .mv (.tmp 84)⟩, ⟨some 86, some (85, true), .mv (.tmp 9)⟩, ⟨some 87, some (85, true), .mv (.tmp 14)⟩, ⟨some 88, some (85, true), .ia none 1 (.tmp 86) (.tmp 87)⟩, ⟨some 89, some (85, true), .load 1 false (.tmp 88)⟩, ⟨some 90, some (85, true), .bin .lss 3 (.tmp 89) (.const (.int .i64 0))⟩, ⟨some 91, some (85, true), .mv (.tmp 90)⟩, ⟨some 92, some (91, false), .mv (.tmp 16)⟩, ⟨some 93, some (91, false), .mv (.tmp 9)⟩, ⟨some 94, some (91, false), .mv (.tmp 14)⟩, ⟨some 95, some (91, false), .ia none 1 (.tmp 93) (.tmp 94)⟩, ⟨some 96, some (91, false), .load 1 false (.tmp 95)⟩, ⟨some 97, some (91, false), .bin .lss 3 (.tmp 92) (.tmp 96)⟩, ⟨some 98, some (85, true), .pick (.tmp 91) (.const (.bool true)) (.tmp 97)⟩, ⟨some 99, none, .pick (.tmp 85) (.tmp 98) (.const (.bool false))⟩])
 (.cond (.tmp 99) (.seq (.reg [1, 3, 9, 12, 14, 16] [⟨some 100, none, .mv (.tmp 9)⟩, ⟨some 101, none, .mv (.tmp 14)⟩, ⟨some 102, none, .mv (.tmp 16)⟩, ⟨some 103, none, .ia none 1 (.tmp 100) (.tmp 101)⟩, ⟨none, none, .store 1 (.tmp 103) (.tmp 102)⟩])
 (.reg [1, 3, 9, 12] [⟨some 11, none, .mv (.const (.bool true))⟩])) .skip)))))
 (.reg [1, 3, 9, 11, 12] [⟨some 52, none, .mv (.tmp 12)⟩, ⟨some 53, none, .bin .add 3 (.tmp 52) (.const (.int .i64 1))⟩, ⟨some 12, none, .mv (.tmp 53)⟩])))
def sc_waymarkref1_From_L1 : SCode :=
 (.seq (.seq (.reg [1, 3, 9, 11] [⟨some 45, none, .mv (.tmp 11)⟩])
 (.cond (.tmp 45) .skip (.exit 2)))
 (.block 3 (.seq (.reg [1, 3, 9] [⟨some 11, none, .mv (.const (.bool false))⟩])
 (.seq (.reg [1, 3, 9, 11] [⟨some 12, none, .mv (.const (.int .i64 0))⟩])
 (.block 4 (.loop [1, 3, 9, 11, 12] [] sc_waymarkref1_From_L0))))))
def sc_waymarkref1_From_L2 : SCode :=
 (.seq (.seq (.reg [1, 2, 3, 9, 10] [⟨some 33, none, .mv (.tmp 10)⟩, ⟨some 34, none, .fld 0 (.tmp 3)⟩, ⟨some 35, none, .load 1 false (.tmp 34)⟩, ⟨some 36, none, .bin .lss 3 (.tmp 33) (.tmp 35)⟩])
 (.cond (.tmp 36) .skip (.exit 0)))
 (.seq (.block 1 (.reg [1, 2, 3, 9, 10] [⟨some 39, none, .mv (.tmp 9)⟩, ⟨some 40, none, .mv (.tmp 10)⟩, ⟨some 41, none, .ia none 1 (.tmp 39) (.tmp 40)⟩, ⟨none, none, .store 1 (.tmp 41) (.const (.int .i64 (-1)))⟩]))
 (.reg [1, 2, 3, 9, 10] [⟨some 37, none, .mv (.tmp 10)⟩, ⟨some 38, none, .bin .add 3 (.tmp 37) (.const (.int .i64 1))⟩, ⟨some 10, none, .mv (.tmp 38)⟩])))
def sc_waymarkref1_From : SCode :=
 (.seq (.reg [0, 1, 2] [⟨some 3, none, .box 24 (.tmp 0)⟩, ⟨some 6, none, .mv (.const (.slice none 0 0))⟩])
 (.seq (.reg [1, 2, 3] [⟨some 18, none, .load 2 true (.tmp 3)⟩, ⟨some 19, none, .call 58 [(.tmp 18)]⟩, ⟨some 17, none, .mv (.tmp 19)⟩, ⟨some 20, none, .ext (.tmp 17) 0⟩, ⟨some 21, none, .ext (.tmp 17) 1⟩, ⟨some 7, none, .mv (.tmp 20)⟩, ⟨some 8, none, .mv (.tmp 21)⟩])
 (.seq (.seq (.reg [1, 2, 3, 8] [⟨some 22, none, .mv (.tmp 8)⟩, ⟨some 23, none, .bin .neq 3 (.tmp 22) (.const (.int .i64 0))⟩, ⟨some 24, none, .mv (.tmp 23)⟩, ⟨some 25, some (24, false), .load 2 true (.tmp 3)⟩, ⟨some 26, some (24, false), .mv (.tmp 2)⟩, ⟨some 27, some (24, false), .call 59 [(.tmp 25), (.tmp 26)]⟩, ⟨some 28, some (24, false), .un .not (.tmp 27)⟩, ⟨some 29, none, .pick (.tmp 24) (.const (.bool true)) (.tmp 28)⟩])
 (.cond (.tmp 29) (.seq (.reg [] [⟨some 6, none, .mv (.const (.slice none 0 0))⟩])
 .ret) .skip))
 (.seq (.reg [1, 2, 3] [⟨some 30, none, .fld 0 (.tmp 3)⟩, ⟨some 31, none, .load 1 false (.tmp 30)⟩, ⟨some 32, none, .mksl 3 1 8 [(.int .i64 0)] (.tmp 31) (.tmp 31)⟩, ⟨some 9, none, .mv (.tmp 32)⟩])
 (.seq (.seq (.reg [1, 2, 3, 9] [⟨some 10, none, .mv (.const (.int .i64 0))⟩])
 (.block 0 (.loop [1, 2, 3, 9, 10] [] sc_waymarkref1_From_L2)))
 (.seq (.reg [1, 2, 3, 9] [⟨some 42, none, .mv (.tmp 9)⟩, ⟨some 43, none, .mv (.tmp 2)⟩, ⟨some 44, none, .ia none 1 (.tmp 42) (.tmp 43)⟩, ⟨none, none, .store 1 (.tmp 44) (.const (.int .i64 0))⟩])
 (.seq (.seq (.reg [1, 3, 9] [⟨some 11, none, .mv (.const (.bool true))⟩])
 (.block 2 (.loop [1, 3, 9, 11] [] sc_waymarkref1_From_L1)))
 (.seq (.reg [9] [⟨some 104, none, .mv (.tmp 9)⟩, ⟨some 6, none, .mv (.tmp 104)⟩])
 .ret))))))))
theorem fn_waymarkref1_From : FnOk Try.prog 30 Try.f30 sc_waymarkref1_From [.tmp 6] 3 := ⟨Try.func30, by kernel_rfl, by kernel_rfl, by kernel_rfl, by kernel_rfl, by kernel_rfl, by kernel_rfl⟩

def sc_waymarkref1_IsDown : SCode :=
 (.seq (.reg [0, 1] [⟨some 4, none, .mv (.const (.bool false))⟩])
 (.seq (.reg [0, 1] [⟨some 5, none, .mv (.tmp 1)⟩, ⟨some 6, none, .bin .geq 3 (.tmp 5) (.const (.int .i64 0))⟩, ⟨some 7, none, .mv (.tmp 6)⟩, ⟨some 8, some (7, true), .mv (.tmp 1)⟩, ⟨some 9, some (7, true), .mv (.tmp 0)⟩, ⟨some 10, some (7, true), .len false (.tmp 9)⟩, ⟨some 11, some (7, true), .bin .lss 3 (.tmp 8) (.tmp 10)⟩, ⟨some 12, none, .pick (.tmp 7) (.tmp 11) (.const (.bool false))⟩, ⟨some 13, none, .mv (.tmp 12)⟩, ⟨some 14, some (13, true), .mv (.tmp 0)⟩, ⟨some 15, some (13, true), .mv (.tmp 1)⟩, ⟨some 16, some (13, true), .ia none 1 (.tmp 14) (.tmp 15)⟩, ⟨some 17, some (13, true), .load 1 false (.tmp 16)⟩, ⟨some 18, none, .pick (.tmp 13) (.tmp 17) (.const (.bool false))⟩, ⟨some 4, none, .mv (.tmp 18)⟩])
 .ret))
theorem fn_waymarkref1_IsDown : FnOk Try.prog 38 Try.f38 sc_waymarkref1_IsDown [.tmp 4] 2 := ⟨Try.func38, by kernel_rfl, by kernel_rfl, by kernel_rfl, by kernel_rfl, by kernel_rfl, by kernel_rfl⟩

def sc_waymarkref1_NewTables_L0 : SCode :=
 (.seq (.seq (.reg [1, 6, 7] [⟨some 20, none, .mv (.tmp 7)⟩, ⟨some 21, none, .fld 0 (.tmp 1)⟩, ⟨some 22, none, .load 1 false (.tmp 21)⟩, ⟨some 23, none, .bin .lss 3 (.tmp 20) (.tmp 22)⟩])
 (.cond (.tmp 23) .skip (.exit 0)))
 (.seq (.block 1 (.draw [1, 6, 7] [⟨some 26, none, .mv (.tmp 6)⟩, ⟨some 27, none, .mv (.tmp 6)⟩, ⟨some 28, none, .nilc (.tmp 27)⟩, ⟨some 29, none, .fld 2 (.tmp 28)⟩, ⟨some 30, none, .hp (.load 1 false (.tmp 29))⟩, ⟨some 31, none, .load 2 true (.tmp 1)⟩, ⟨some 32, none, .mv (.tmp 7)⟩, ⟨some 33, none, .call 30 [(.tmp 31), (.const (.slice none 0 0)), (.tmp 32)]⟩, ⟨some 34, none, .bsl 25 1 [(.slice none 0 0)] 1 [(0, 1, (.tmp 33))]⟩, ⟨some 35, none, .hp (.app 98 25 1 24 (.slice none 0 0) (.tmp 30) (.tmp 34))⟩, ⟨some 36, none, .nilc (.tmp 26)⟩, ⟨some 37, none, .fld 2 (.tmp 36)⟩, ⟨none, none, .store 1 (.tmp 37) (.tmp 35)⟩]))
 (.reg [1, 6, 7] [⟨some 24, none, .mv (.tmp 7)⟩, ⟨some 25, none, .bin .add 3 (.tmp 24) (.const (.int .i64 1))⟩, ⟨some 7, none, .mv (.tmp 25)⟩])))
def sc_waymarkref1_NewTables : SCode :=
 (.seq (.reg [0] [⟨some 1, none, .box 24 (.tmp 0)⟩, ⟨some 2, none, .mv (.const (.pointer none))⟩, ⟨some 3, none, .mv (.const (.int .i64 0))⟩])
 (.seq (.reg [1] [⟨some 9, none, .load 2 true (.tmp 1)⟩, ⟨some 10, none, .call 58 [(.tmp 9)]⟩, ⟨some 8, none, .mv (.tmp 10)⟩, ⟨some 11, none, .ext (.tmp 8) 0⟩, ⟨some 12, none, .ext (.tmp 8) 1⟩, ⟨some 4, none, .mv (.tmp 11)⟩, ⟨some 5, none, .mv (.tmp 12)⟩])
 (.seq (.seq (.reg [1, 5] [⟨some 13, none, .mv (.tmp 5)⟩, ⟨some 14, none, .bin .neq 3 (.tmp 13) (.const (.int .i64 0))⟩])
 (.cond (.tmp 14) (.seq (.reg [5] [⟨some 15, none, .mv (.tmp 5)⟩, ⟨some 2, none, .mv (.const (.pointer none))⟩, ⟨some 3, none, .mv (.tmp 15)⟩])
 .ret) .skip))
 (.seq (.reg [1] [⟨some 16, none, .load 2 true (.tmp 1)⟩, ⟨some 17, none, .call 69 [(.tmp 16)]⟩, ⟨some 18, none, .build [(.int .i64 0), (.slice none 0 0), (.slice none 0 0)] [(0, 2, (.tmp 17))]⟩, ⟨some 19, none, .hp (.box 100 (.tmp 18))⟩, ⟨some 6, none, .mv (.tmp 19)⟩])
 (.seq (.seq (.reg [1, 6] [⟨some 7, none, .mv (.const (.int .i64 0))⟩])
 (.block 0 (.loop [1, 6, 7] [] sc_waymarkref1_NewTables_L0)))
 (.seq (.reg [6] [⟨some 38, none, .mv (.tmp 6)⟩, ⟨some 2, none, .mv (.tmp 38)⟩, ⟨some 3, none, .mv (.const (.int .i64 0))⟩])
 .ret))))))
theorem fn_waymarkref1_NewTables : FnOk Try.prog 40 Try.f40 sc_waymarkref1_NewTables [.tmp 2, .tmp 3] 1 := ⟨Try.func40, by kernel_rfl, by kernel_rfl, by kernel_rfl, by kernel_rfl, by kernel_rfl, by kernel_rfl⟩

def sc_waymarkref1_RightWant_L0 : SCode :=
 (.seq (.seq (.reg [3, 11] [⟨some 93, none, .mv (.tmp 11)⟩, ⟨some 94, none, .fld 6 (.tmp 3)⟩, ⟨some 95, none, .load 1 false (.tmp 94)⟩, ⟨some 96, none, .len false (.tmp 95)⟩, ⟨some 97, none, .bin .lss 3 (.tmp 93) (.tmp 96)⟩])
 (.cond (.tmp 97) .skip (.exit 6)))
 (.seq (.block 7 (.seq (.reg [3, 11] [⟨some 100, none, .fld 6 (.tmp 3)⟩, ⟨some 101, none, .load 1 false (.tmp 100)⟩, ⟨some 102, none, .mv (.tmp 11)⟩, ⟨some 103, none, .ia none 1 (.tmp 101) (.tmp 102)⟩, ⟨some 104, none, .load 1 false (.tmp 103)⟩, ⟨some 105, none, .bin .lss 3 (.tmp 104) (.const (.int .i64 0))⟩, ⟨some 106, none, .mv (.tmp 105)⟩, ⟨some 107, some (106, false), .fld 6 (.tmp 3)⟩, ⟨some 108, some (106, false), .load 1 false (.tmp 107)⟩, ⟨some 109, some (106, false), .mv (.tmp 11)⟩, ⟨some 110, some (106, false), .ia none 1 (.tmp 108) (.tmp 109)⟩, ⟨some 111, some (106, false), .load 1 false (.tmp 110)⟩, ⟨some 112, some (106, false), .bin .gtr 3 (.tmp 111) (.const (.int .i64 62))⟩, ⟨some 113, none, .pick (.tmp 106) (.const (.bool true)) (.tmp 112)⟩])
 (.cond (.tmp 113) (.seq (.reg [] [⟨some 4, none, .mv (.const (.int .i64 1))⟩])
 .ret) .skip)))
 (.reg [3, 11] [⟨some 98, none, .mv (.tmp 11)⟩, ⟨some 99, none, .bin .add 3 (.tmp 98) (.const (.int .i64 1))⟩, ⟨some 11, none, .mv (.tmp 99)⟩])))
def sc_waymarkref1_RightWant_L1 : SCode :=
 (.seq (.seq (.reg [2, 3, 10] [⟨some 69, none, .mv (.tmp 10)⟩, ⟨some 70, none, .fld 5 (.tmp 3)⟩, ⟨some 71, none, .load 1 false (.tmp 70)⟩, ⟨some 72, none, .len false (.tmp 71)⟩, ⟨some 73, none, .bin .lss 3 (.tmp 69) (.tmp 72)⟩])
 (.cond (.tmp 73) .skip (.exit 4)))
 (.seq (.block 5 (.seq (.draw [2, 3, 10] [⟨some 76, none, .fld 5 (.tmp 3)⟩, ⟨some 77, none, .load 1 false (.tmp 76)⟩, ⟨some 78, none, .mv (.tmp 10)⟩, ⟨some 79, none, .ia none 1 (.tmp 77) (.tmp 78)⟩, ⟨some 80, none, .load 1 false (.tmp 79)⟩, ⟨some 81, none, .bin .lss 3 (.tmp 80) (.const (.int .i64 0))⟩, ⟨some 82, none, .mv (.tmp 81)⟩, ⟨some 83, some (82, false), .fld 5 (.tmp 3)⟩, ⟨some 84, some (82, false), .load 1 false (.tmp 83)⟩, ⟨some 85, some (82, false), .mv (.tmp 10)⟩, ⟨some 86, some (82, false), .ia none 1 (.tmp 84) (.tmp 85)⟩, ⟨some 87, some (82, false), .load 1 false (.tmp 86)⟩, ⟨some 88, some (82, false), .fld 1 (.tmp 2)⟩, ⟨some 89, some (82, false), .load 1 false (.tmp 88)⟩, ⟨some 90, some (82, false), .len false (.tmp 89)⟩, ⟨some 91, some (82, false), .bin .geq 3 (.tmp 87) (.tmp 90)⟩, ⟨some 92, none, .pick (.tmp 82) (.const (.bool true)) (.tmp 91)⟩])
 (.cond (.tmp 92) (.seq (.reg [] [⟨some 4, none, .mv (.const (.int .i64 5))⟩])
 .ret) .skip)))
 (.reg [2, 3, 10] [⟨some 74, none, .mv (.tmp 10)⟩, ⟨some 75, none, .bin .add 3 (.tmp 74) (.const (.int .i64 1))⟩, ⟨some 10, none, .mv (.tmp 75)⟩])))
def sc_waymarkref1_RightWant_L2 : SCode :=
 (.seq (.seq (.reg [2, 3, 7, 9] [⟨some 50, none, .mv (.tmp 9)⟩, ⟨some 51, none, .fld 4 (.tmp 3)⟩, ⟨some 52, none, .load 1 false (.tmp 51)⟩, ⟨some 53, none, .len false (.tmp 52)⟩, ⟨some 54, none, .bin .lss 3 (.tmp 50) (.tmp 53)⟩])
 (.cond (.tmp 54) .skip (.exit 2)))
 (.seq (.block 3 (.draw [2, 3, 7, 9] [⟨some 57, none, .mv (.tmp 7)⟩, ⟨some 58, none, .mv (.tmp 57)⟩, ⟨some 59, some (58, false), .load 2 true (.tmp 2)⟩, ⟨some 60, some (58, false), .fld 4 (.tmp 3)⟩, ⟨some 61, some (58, false), .load 1 false (.tmp 60)⟩, ⟨some 62, some (58, false), .mv (.tmp 9)⟩, ⟨some 63, some (58, false), .ia none 1 (.tmp 61) (.tmp 62)⟩, ⟨some 64, some (58, false), .load 1 false (.tmp 63)⟩, ⟨some 65, some (58, false), .call 59 [(.tmp 59), (.tmp 64)]⟩, ⟨some 66, some (58, false), .un .not (.tmp 65)⟩, ⟨some 67, none, .pick (.tmp 58) (.const (.bool true)) (.tmp 66)⟩, ⟨some 7, none, .mv (.tmp 67)⟩]))
 (.reg [2, 3, 7, 9] [⟨some 55, none, .mv (.tmp 9)⟩, ⟨some 56, none, .bin .add 3 (.tmp 55) (.const (.int .i64 1))⟩, ⟨some 9, none, .mv (.tmp 56)⟩])))
def sc_waymarkref1_RightWant_L3 : SCode :=
 (.seq (.seq (.reg [2, 3, 7, 8] [⟨some 32, none, .mv (.tmp 8)⟩, ⟨some 33, none, .fld 3 (.tmp 3)⟩, ⟨some 34, none, .load 1 false (.tmp 33)⟩, ⟨some 35, none, .len false (.tmp 34)⟩, ⟨some 36, none, .bin .lss 3 (.tmp 32) (.tmp 35)⟩])
 (.cond (.tmp 36) .skip (.exit 0)))
 (.seq (.block 1 (.draw [2, 3, 7, 8] [⟨some 39, none, .mv (.tmp 7)⟩, ⟨some 40, none, .mv (.tmp 39)⟩, ⟨some 41, some (40, false), .load 2 true (.tmp 2)⟩, ⟨some 42, some (40, false), .fld 3 (.tmp 3)⟩, ⟨some 43, some (40, false), .load 1 false (.tmp 42)⟩, ⟨some 44, some (40, false), .mv (.tmp 8)⟩, ⟨some 45, some (40, false), .ia none 1 (.tmp 43) (.tmp 44)⟩, ⟨some 46, some (40, false), .load 1 false (.tmp 45)⟩, ⟨some 47, some (40, false), .call 59 [(.tmp 41), (.tmp 46)]⟩, ⟨some 48, some (40, false), .un .not (.tmp 47)⟩, ⟨some 49, none, .pick (.tmp 40) (.const (.bool true)) (.tmp 48)⟩, ⟨some 7, none, .mv (.tmp 49)⟩]))
 (.reg [2, 3, 7, 8] [⟨some 37, none, .mv (.tmp 8)⟩, ⟨some 38, none, .bin .add 3 (.tmp 37) (.const (.int .i64 1))⟩, ⟨some 8, none, .mv (.tmp 38)⟩])))
def sc_waymarkref1_RightWant : SCode :=
 (.seq (.reg [0, 1] [⟨some 2, none, .box 24 (.tmp 0)⟩, ⟨some 3, none, .box 27 (.tmp 1)⟩, ⟨some 4, none, .mv (.const (.int .i64 0))⟩])
 (.seq (.reg [2, 3] [⟨some 13, none, .load 2 true (.tmp 2)⟩, ⟨some 14, none, .call 58 [(.tmp 13)]⟩, ⟨some 12, none, .mv (.tmp 14)⟩, ⟨some 15, none, .ext (.tmp 12) 0⟩, ⟨some 16, none, .ext (.tmp 12) 1⟩, ⟨some 5, none, .mv (.tmp 15)⟩, ⟨some 6, none, .mv (.tmp 16)⟩])
 (.seq (.seq (.reg [2, 3, 6] [⟨some 17, none, .mv (.tmp 6)⟩, ⟨some 18, none, .bin .neq 3 (.tmp 17) (.const (.int .i64 0))⟩])
 (.cond (.tmp 18) (.seq (.reg [6] [⟨some 19, none, .mv (.tmp 6)⟩, ⟨some 4, none, .mv (.tmp 19)⟩])
 .ret) .skip))
 (.seq (.reg [2, 3] [⟨some 20, none, .load 2 true (.tmp 2)⟩, ⟨some 21, none, .fld 0 (.tmp 3)⟩, ⟨some 22, none, .load 1 false (.tmp 21)⟩, ⟨some 23, none, .call 59 [(.tmp 20), (.tmp 22)]⟩, ⟨some 24, none, .un .not (.tmp 23)⟩, ⟨some 25, none, .mv (.tmp 24)⟩, ⟨some 26, some (25, false), .load 2 true (.tmp 2)⟩, ⟨some 27, some (25, false), .fld 1 (.tmp 3)⟩, ⟨some 28, some (25, false), .load 1 false (.tmp 27)⟩, ⟨some 29, some (25, false), .call 59 [(.tmp 26), (.tmp 28)]⟩, ⟨some 30, some (25, false), .un .not (.tmp 29)⟩, ⟨some 31, none, .pick (.tmp 25) (.const (.bool true)) (.tmp 30)⟩, ⟨some 7, none, .mv (.tmp 31)⟩])
 (.seq (.seq (.reg [2, 3, 7] [⟨some 8, none, .mv (.const (.int .i64 0))⟩])
 (.block 0 (.loop [2, 3, 7, 8] [] sc_waymarkref1_RightWant_L3)))
 (.seq (.seq (.reg [2, 3, 7] [⟨some 9, none, .mv (.const (.int .i64 0))⟩])
 (.block 2 (.loop [2, 3, 7, 9] [] sc_waymarkref1_RightWant_L2)))
 (.seq (.seq (.reg [2, 3, 7] [⟨some 68, none, .mv (.tmp 7)⟩])
 (.cond (.tmp 68) (.seq (.reg [] [⟨some 4, none, .mv (.const (.int .i64 4))⟩])
 .ret) .skip))
 (.seq (.seq (.reg [2, 3] [⟨some 10, none, .mv (.const (.int .i64 0))⟩])
 (.block 4 (.loop [2, 3, 10] [] sc_waymarkref1_RightWant_L1)))
 (.seq (.seq (.reg [3] [⟨some 11, none, .mv (.const (.int .i64 0))⟩])
 (.block 6 (.loop [3, 11] [] sc_waymarkref1_RightWant_L0)))
 (.seq (.block 8 (.seq (.reg [3] [⟨some 115, none, .fld 2 (.tmp 3)⟩, ⟨some 116, none, .load 1 false (.tmp 115)⟩, ⟨some 117, none, .bin .lss 3 (.tmp 116) (.const (.int .i64 0))⟩, ⟨some 114, none, .mv (.tmp 117)⟩])
 (.cond (.tmp 114) (.seq (.reg [] [⟨some 4, none, .mv (.const (.int .i64 1))⟩])
 .ret) (.seq (.reg [3] [⟨some 119, none, .fld 3 (.tmp 3)⟩, ⟨some 120, none, .load 1 false (.tmp 119)⟩, ⟨some 121, none, .len false (.tmp 120)⟩, ⟨some 122, none, .bin .gtr 3 (.tmp 121) (.const (.int .i64 4))⟩, ⟨some 118, none, .mv (.tmp 122)⟩])
 (.cond (.tmp 118) (.seq (.reg [] [⟨some 4, none, .mv (.const (.int .i64 6))⟩])
 .ret) .skip)))))
 (.seq (.reg [] [⟨some 4, none, .mv (.const (.int .i64 0))⟩])
 .ret)))))))))))
theorem fn_waymarkref1_RightWant : FnOk Try.prog 53 Try.f53 sc_waymarkref1_RightWant [.tmp 4] 2 := ⟨Try.func53, by kernel_rfl, by kernel_rfl, by kernel_rfl, by kernel_rfl, by kernel_rfl, by kernel_rfl⟩

def sc_waymarkref1_Pruned_L0 : SCode :=
 (.seq (.seq (.reg [2, 3, 4, 7, 8] [⟨some 18, none, .mv (.tmp 8)⟩, ⟨some 19, none, .fld 1 (.tmp 3)⟩, ⟨some 20, none, .load 1 false (.tmp 19)⟩, ⟨some 21, none, .len false (.tmp 20)⟩, ⟨some 22, none, .bin .lss 3 (.tmp 18) (.tmp 21)⟩])
 (.cond (.tmp 22) .skip (.exit 0)))
 (.seq (.block 1 (.seq (.reg [2, 3, 4, 7, 8] [⟨some 25, none, .fld 1 (.tmp 3)⟩, ⟨some 26, none, .load 1 false (.tmp 25)⟩, ⟨some 27, none, .mv (.tmp 8)⟩, ⟨some 28, none, .ia none 4 (.tmp 26) (.tmp 27)⟩, ⟨some 29, none, .load 4 true (.tmp 28)⟩, ⟨some 9, none, .alloc 48 [(.int .i64 0), (.int .i64 0), (.int .i64 0), (.int .i64 0)]⟩, ⟨none, none, .store 4 (.tmp 9) (.tmp 29)⟩])
 (.reg [2, 3, 4, 7, 8, 9] [⟨some 30, none, .mv (.tmp 7)⟩, ⟨some 31, none, .mv (.tmp 8)⟩, ⟨some 32, none, .mv (.tmp 2)⟩, ⟨some 33, none, .mv (.tmp 8)⟩, ⟨some 34, none, .call 38 [(.tmp 32), (.tmp 33)]⟩, ⟨some 35, none, .mv (.tmp 34)⟩, ⟨some 36, some (35, false), .fld 5 (.tmp 4)⟩, ⟨some 37, some (35, false), .load 1 false (.tmp 36)⟩, ⟨some 38, some (35, false), .mv (.tmp 8)⟩, ⟨some 39, some (35, false), .call 79 [(.tmp 37), (.tmp 38)]⟩, ⟨some 40, none, .pick (.tmp 35) (.const (.bool true)) (.tmp 39)⟩, ⟨some 41, none, .mv (.tmp 40)⟩, ⟨some 42, some (41, false), .fld 6 (.tmp 4)⟩, ⟨some 43, some (41, false), .load 1 false (.tmp 42)⟩, ⟨some 44, some (41, false), .fld 3 (.tmp 9)⟩, ⟨some 45, some (41, false), .load 1 false (.tmp 44)⟩, ⟨some 46, some (41, false), .call 79 [(.tmp 43), (.tmp 45)]⟩, ⟨some 47, none, .pick (.tmp 41) (.const (.bool true)) (.tmp 46)⟩, ⟨some 48, none, .mv (.tmp 47)⟩, ⟨some 49, some (48, false), .fld 4 (.tmp 4)⟩, ⟨some 50, some (48, false), .load 1 false (.tmp 49)⟩, ⟨some 51, some (48, false), .fld 0 (.tmp 9)⟩, ⟨some 52, some (48, false), .load 1 false (.tmp 51)⟩, ⟨some 53, some (48, false), .call 79 [(.tmp 50), (.tmp 52)]⟩, ⟨some 54, none, .pick (.tmp 48) (.const (.bool true)) (.tmp 53)⟩, ⟨some 55, none, .mv (.tmp 54)⟩, ⟨some 56, some (55, false), .fld 4 (.tmp 4)⟩, ⟨some 57, some (55, false), .load 1 false (.tmp 56)⟩, ⟨some 58, some (55, false), .fld 1 (.tmp 9)⟩, ⟨some 59, some (55, false), .load 1 false (.tmp 58)⟩, ⟨some 60, some (55, false), .call 79 [(.tmp 57), (.tmp 59)]⟩, ⟨some 61, none, .pick (.tmp 55) (.const (.bool true)) (.tmp 60)⟩, ⟨some 62, none, .ia none 1 (.tmp 30) (.tmp 31)⟩, ⟨none, none, .store 1 (.tmp 62) (.tmp 61)⟩])))
 (.reg [2, 3, 4, 7, 8] [⟨some 23, none, .mv (.tmp 8)⟩, ⟨some 24, none, .bin .add 3 (.tmp 23) (.const (.int .i64 1))⟩, ⟨some 8, none, .mv (.tmp 24)⟩])))
def sc_waymarkref1_Pruned : SCode :=
 (.seq (.reg [0, 1, 2] [⟨some 3, none, .box 24 (.tmp 0)⟩, ⟨some 4, none, .box 27 (.tmp 1)⟩, ⟨some 6, none, .mv (.const (.slice none 0 0))⟩])
 (.seq (.seq (.reg [2, 3, 4] [⟨some 10, none, .load 2 true (.tmp 3)⟩, ⟨some 11, none, .load 7 true (.tmp 4)⟩, ⟨some 12, none, .call 53 [(.tmp 10), (.tmp 11)]⟩, ⟨some 13, none, .bin .neq 3 (.tmp 12) (.const (.int .i64 0))⟩])
 (.cond (.tmp 13) (.seq (.reg [] [⟨some 6, none, .mv (.const (.slice none 0 0))⟩])
 .ret) .skip))
 (.seq (.reg [2, 3, 4] [⟨some 14, none, .fld 1 (.tmp 3)⟩, ⟨some 15, none, .load 1 false (.tmp 14)⟩, ⟨some 16, none, .len false (.tmp 15)⟩, ⟨some 17, none, .mksl 4 1 1 [(.bool false)] (.tmp 16) (.tmp 16)⟩, ⟨some 7, none, .mv (.tmp 17)⟩])
 (.seq (.seq (.reg [2, 3, 4, 7] [⟨some 8, none, .mv (.const (.int .i64 0))⟩])
 (.block 0 (.loop [2, 3, 4, 7, 8] [] sc_waymarkref1_Pruned_L0)))
 (.seq (.reg [7] [⟨some 63, none, .mv (.tmp 7)⟩, ⟨some 6, none, .mv (.tmp 63)⟩])
 .ret)))))
theorem fn_waymarkref1_Pruned : FnOk Try.prog 55 Try.f55 sc_waymarkref1_Pruned [.tmp 6] 3 := ⟨Try.func55, by kernel_rfl, by kernel_rfl, by kernel_rfl, by kernel_rfl, by kernel_rfl, by kernel_rfl⟩

def sc_waymarkref1_Check_L0 : SCode :=
 (.seq (.seq (.reg [1, 4] [⟨some 18, none, .mv (.tmp 4)⟩, ⟨some 19, none, .fld 1 (.tmp 1)⟩, ⟨some 20, none, .load 1 false (.tmp 19)⟩, ⟨some 21, none, .len false (.tmp 20)⟩, ⟨some 22, none, .bin .lss 3 (.tmp 18) (.tmp 21)⟩])
 (.cond (.tmp 22) .skip (.exit 0)))
 (.seq (.block 1 (.seq (.reg [1, 4] [⟨some 25, none, .fld 1 (.tmp 1)⟩, ⟨some 26, none, .load 1 false (.tmp 25)⟩, ⟨some 27, none, .mv (.tmp 4)⟩, ⟨some 28, none, .ia none 4 (.tmp 26) (.tmp 27)⟩, ⟨some 29, none, .load 4 true (.tmp 28)⟩, ⟨some 5, none, .alloc 48 [(.int .i64 0), (.int .i64 0), (.int .i64 0), (.int .i64 0)]⟩, ⟨none, none, .store 4 (.tmp 5) (.tmp 29)⟩])
 (.seq (.seq (.reg [1, 4, 5] [⟨some 30, none, .fld 0 (.tmp 5)⟩, ⟨some 31, none, .load 1 false (.tmp 30)⟩, ⟨some 32, none, .bin .lss 3 (.tmp 31) (.const (.int .i64 0))⟩, ⟨some 33, none, .mv (.tmp 32)⟩, ⟨some 34, some (33, false), .fld 0 (.tmp 5)⟩, ⟨some 35, some (33, false), .load 1 false (.tmp 34)⟩, ⟨some 36, some (33, false), .fld 0 (.tmp 1)⟩, ⟨some 37, some (33, false), .load 1 false (.tmp 36)⟩, ⟨some 38, some (33, false), .bin .geq 3 (.tmp 35) (.tmp 37)⟩, ⟨some 39, none, .pick (.tmp 33) (.const (.bool true)) (.tmp 38)⟩, ⟨some 40, none, .mv (.tmp 39)⟩, ⟨some 41, some (40, false), .fld 1 (.tmp 5)⟩, ⟨some 42, some (40, false), .load 1 false (.tmp 41)⟩, ⟨some 43, some (40, false), .bin .lss 3 (.tmp 42) (.const (.int .i64 0))⟩, ⟨some 44, none, .pick (.tmp 40) (.const (.bool true)) (.tmp 43)⟩, ⟨some 45, none, .mv (.tmp 44)⟩, ⟨some 46, some (45, false), .fld 1 (.tmp 5)⟩, ⟨some 47, some (45, false), .load 1 false (.tmp 46)⟩, ⟨some 48, some (45, false), .fld 0 (.tmp 1)⟩, ⟨some 49, some (45, false), .load 1 false (.tmp 48)⟩, ⟨some 50, some (45, false), .bin .geq 3 (.tmp 47) (.tmp 49)⟩, ⟨some 51, none, .pick (.tmp 45) (.const (.bool true)) (.tmp 50)⟩, ⟨some 52, none, .mv (.tmp 51)⟩, ⟨some 53, some (52, false), .fld 0 (.tmp 5)⟩, ⟨some 54, some (52, false), .load 1 false (.tmp 53)⟩, ⟨some 55, some (52, false), .fld 1 (.tmp 5)⟩, ⟨some 56, some (52, false), .load 1 false (.tmp 55)⟩, ⟨some 57, some (52, false), .bin .eql 3 (.tmp 54) (.tmp 56)⟩, ⟨some 58, none, .pick (.tmp 52) (.const (.bool true)) (.tmp 57)⟩])
 (.cond (.tmp 58) (.seq (.reg [4] [⟨some 59, none, .mv (.tmp 4)⟩, ⟨some 2, none, .mv (.tmp 59)⟩, ⟨some 3, none, .mv (.const (.int .i64 4))⟩])
 .ret) .skip))
 (.seq (.reg [1, 4, 5] [⟨some 60, none, .fld 2 (.tmp 5)⟩, ⟨some 61, none, .load 1 false (.tmp 60)⟩, ⟨some 62, none, .bin .lss 3 (.tmp 61) (.const (.int .i64 1))⟩, ⟨some 63, none, .mv (.tmp 62)⟩, ⟨some 64, some (63, false), .fld 2 (.tmp 5)⟩, ⟨some 65, some (63, false), .load 1 false (.tmp 64)⟩, ⟨some 66, some (63, false), .bin .gtr 3 (.tmp 65) (.const (.int .i64 16777216))⟩, ⟨some 67, none, .pick (.tmp 63) (.const (.bool true)) (.tmp 66)⟩, ⟨some 68, none, .mv (.tmp 67)⟩, ⟨some 69, some (68, false), .fld 3 (.tmp 5)⟩, ⟨some 70, some (68, false), .load 1 false (.tmp 69)⟩, ⟨some 71, some (68, false), .bin .lss 3 (.tmp 70) (.const (.int .i64 0))⟩, ⟨some 72, none, .pick (.tmp 68) (.const (.bool true)) (.tmp 71)⟩, ⟨some 73, none, .mv (.tmp 72)⟩, ⟨some 74, some (73, false), .fld 3 (.tmp 5)⟩, ⟨some 75, some (73, false), .load 1 false (.tmp 74)⟩, ⟨some 76, some (73, false), .bin .gtr 3 (.tmp 75) (.const (.int .i64 62))⟩, ⟨some 77, none, .pick (.tmp 73) (.const (.bool true)) (.tmp 76)⟩])
 (.cond (.tmp 77) (.seq (.reg [4] [⟨some 78, none, .mv (.tmp 4)⟩, ⟨some 2, none, .mv (.tmp 78)⟩, ⟨some 3, none, .mv (.const (.int .i64 1))⟩])
 .ret) .skip)))))
 (.reg [1, 4] [⟨some 23, none, .mv (.tmp 4)⟩, ⟨some 24, none, .bin .add 3 (.tmp 23) (.const (.int .i64 1))⟩, ⟨some 4, none, .mv (.tmp 24)⟩])))
def sc_waymarkref1_Check : SCode :=
 (.seq (.reg [0] [⟨some 1, none, .box 24 (.tmp 0)⟩, ⟨some 2, none, .mv (.const (.int .i64 0))⟩, ⟨some 3, none, .mv (.const (.int .i64 0))⟩])
 (.seq (.seq (.reg [1] [⟨some 6, none, .fld 1 (.tmp 1)⟩, ⟨some 7, none, .load 1 false (.tmp 6)⟩, ⟨some 8, none, .len false (.tmp 7)⟩, ⟨some 9, none, .bin .gtr 3 (.tmp 8) (.const (.int .i64 120))⟩])
 (.cond (.tmp 9) (.seq (.reg [] [⟨some 2, none, .mv (.const (.int .i64 (-1)))⟩, ⟨some 3, none, .mv (.const (.int .i64 6))⟩])
 .ret) .skip))
 (.seq (.seq (.reg [1] [⟨some 10, none, .fld 0 (.tmp 1)⟩, ⟨some 11, none, .load 1 false (.tmp 10)⟩, ⟨some 12, none, .bin .lss 3 (.tmp 11) (.const (.int .i64 1))⟩, ⟨some 13, none, .mv (.tmp 12)⟩, ⟨some 14, some (13, false), .fld 0 (.tmp 1)⟩, ⟨some 15, some (13, false), .load 1 false (.tmp 14)⟩, ⟨some 16, some (13, false), .bin .gtr 3 (.tmp 15) (.const (.int .i64 40))⟩, ⟨some 17, none, .pick (.tmp 13) (.const (.bool true)) (.tmp 16)⟩])
 (.cond (.tmp 17) (.seq (.reg [] [⟨some 2, none, .mv (.const (.int .i64 (-1)))⟩, ⟨some 3, none, .mv (.const (.int .i64 1))⟩])
 .ret) .skip))
 (.seq (.seq (.reg [1] [⟨some 4, none, .mv (.const (.int .i64 0))⟩])
 (.block 0 (.loop [1, 4] [] sc_waymarkref1_Check_L0)))
 (.seq (.reg [] [⟨some 2, none, .mv (.const (.int .i64 (-1)))⟩, ⟨some 3, none, .mv (.const (.int .i64 0))⟩])
 .ret)))))
theorem fn_waymarkref1_Check : FnOk Try.prog 58 Try.f58 sc_waymarkref1_Check [.tmp 2, .tmp 3] 1 := ⟨Try.func58, by kernel_rfl, by kernel_rfl, by kernel_rfl, by kernel_rfl, by kernel_rfl, by kernel_rfl⟩

def sc_waymarkref1_Node : SCode :=
 (.seq (.reg [0, 1] [⟨some 2, none, .box 24 (.tmp 0)⟩, ⟨some 4, none, .mv (.const (.bool false))⟩])
 (.seq (.reg [1, 2] [⟨some 5, none, .mv (.tmp 1)⟩, ⟨some 6, none, .bin .geq 3 (.tmp 5) (.const (.int .i64 0))⟩, ⟨some 7, none, .mv (.tmp 6)⟩, ⟨some 8, some (7, true), .mv (.tmp 1)⟩, ⟨some 9, some (7, true), .fld 0 (.tmp 2)⟩, ⟨some 10, some (7, true), .load 1 false (.tmp 9)⟩, ⟨some 11, some (7, true), .bin .lss 3 (.tmp 8) (.tmp 10)⟩, ⟨some 12, none, .pick (.tmp 7) (.tmp 11) (.const (.bool false))⟩, ⟨some 4, none, .mv (.tmp 12)⟩])
 .ret))
theorem fn_waymarkref1_Node : FnOk Try.prog 59 Try.f59 sc_waymarkref1_Node [.tmp 4] 2 := ⟨Try.func59, by kernel_rfl, by kernel_rfl, by kernel_rfl, by kernel_rfl, by kernel_rfl, by kernel_rfl⟩

def sc_waymarkref1_Next_L0 : SCode :=
 (.seq (.seq (.reg [1, 2, 3, 4, 11, 12, 13] [⟨some 47, none, .mv (.tmp 13)⟩, ⟨some 48, none, .mv (.tmp 12)⟩, ⟨some 49, none, .len false (.tmp 48)⟩, ⟨some 50, none, .bin .lss 3 (.tmp 47) (.tmp 49)⟩])
 (.cond (.tmp 50) .skip (.exit 0)))
 (.seq (.block 1 (.seq (.draw [1, 2, 3, 4, 11, 12, 13] [⟨some 54, none, .load 2 true (.tmp 4)⟩, ⟨some 55, none, .mv (.tmp 12)⟩, ⟨some 56, none, .mv (.tmp 13)⟩, ⟨some 57, none, .ia none 1 (.tmp 55) (.tmp 56)⟩, ⟨some 58, none, .load 1 false (.tmp 57)⟩, ⟨some 59, none, .call 29 [(.tmp 54), (.tmp 58)]⟩, ⟨some 53, none, .mv (.tmp 59)⟩, ⟨some 60, none, .ext (.tmp 53) 0⟩, ⟨some 61, none, .ext (.tmp 53) 1⟩, ⟨some 62, none, .ext (.tmp 53) 2⟩, ⟨some 14, none, .mv (.tmp 60)⟩, ⟨some 15, none, .mv (.tmp 61)⟩, ⟨some 16, none, .mv (.tmp 62)⟩])
 (.seq (.draw [1, 2, 3, 4, 11, 12, 13, 15] [⟨some 63, none, .mv (.tmp 1)⟩, ⟨some 64, none, .mv (.tmp 12)⟩, ⟨some 65, none, .mv (.tmp 13)⟩, ⟨some 66, none, .ia none 1 (.tmp 64) (.tmp 65)⟩, ⟨some 67, none, .load 1 false (.tmp 66)⟩, ⟨some 68, none, .bin .quo 3 (.tmp 67) (.const (.int .i64 2))⟩, ⟨some 69, none, .call 38 [(.tmp 63), (.tmp 68)]⟩, ⟨some 70, none, .un .not (.tmp 69)⟩, ⟨some 71, none, .mv (.tmp 70)⟩, ⟨some 72, some (71, true), .mv (.tmp 2)⟩, ⟨some 73, some (71, true), .mv (.tmp 15)⟩, ⟨some 74, some (71, true), .ia none 1 (.tmp 72) (.tmp 73)⟩, ⟨some 75, some (71, true), .load 1 false (.tmp 74)⟩, ⟨some 76, some (71, true), .bin .geq 3 (.tmp 75) (.const (.int .i64 0))⟩, ⟨some 77, none, .pick (.tmp 71) (.tmp 76) (.const (.bool false))⟩, ⟨some 78, none, .mv (.tmp 77)⟩, ⟨some 79, some (78, true), .mv (.tmp 2)⟩, ⟨some 80, some (78, true), .mv (.tmp 3)⟩, ⟨some 81, some (78, true), .ia none 1 (.tmp 79) (.tmp 80)⟩, ⟨some 82, some (78, true), .load 1 false (.tmp 81)⟩, ⟨some 83, some (78, true), .mv (.tmp 2)⟩, ⟨some 84, some (78, true), .mv (.tmp 15)⟩, ⟨some 85, some (78, true), .ia none 1 (.tmp 83) (.tmp 84)⟩, ⟨some 86, some (78, true), .load 1 false (.tmp 85)⟩, ⟨some 87, some (78, true), .bin .sub 3 (.tmp 82) (.tmp 86)⟩, ⟨some 88, some (78, true), .fld 1 (.tmp 4)⟩, ⟨some 89, some (78, true), .load 1 false (.tmp 88)⟩, ⟨some 90, some (78, true), .mv (.tmp 12)⟩, ⟨some 91, some (78, true), .mv (.tmp 13)⟩, ⟨some 92, some (78, true), .ia none 1 (.tmp 90) (.tmp 91)⟩, ⟨some 93, some (78, true), .load 1 false (.tmp 92)⟩, ⟨some 94, some (78, true), .bin .quo 3 (.tmp 93) (.const (.int .i64 2))⟩, ⟨some 95, some (78, true), .ia none 4 (.tmp 89) (.tmp 94)⟩, ⟨some 96, some (78, true), .fld 2 (.tmp 95)⟩, ⟨some 97, some (78, true), .load 1 false (.tmp 96)⟩, ⟨some 98, some (78, true), .bin .eql 3 (.tmp 87) (.tmp 97)⟩, ⟨some 99, none, .pick (.tmp 78) (.tmp 98) (.const (.bool false))⟩])
 (.cond (.tmp 99) (.reg [1, 2, 3, 4, 11, 12, 13] [⟨some 100, none, .mv (.tmp 11)⟩, ⟨some 101, none, .mv (.tmp 12)⟩, ⟨some 102, none, .mv (.tmp 13)⟩, ⟨some 103, none, .ia none 1 (.tmp 101) (.tmp 102)⟩, ⟨some 104, none, .load 1 false (.tmp 103)⟩, ⟨some 105, none, .bsl 3 1 [(.int .i64 0)] 1 [(0, 1, (.tmp 104))]⟩, ⟨some 106, none, .app 25 3 1 8 (.int .i64 0) (.tmp 100) (.tmp 105)⟩, ⟨some 11, none, .mv (.tmp 106)⟩]) .skip))))
 (.reg [1, 2, 3, 4, 11, 12, 13] [⟨some 51, none, .mv (.tmp 13)⟩, ⟨some 52, none, .bin .add 3 (.tmp 51) (.const (.int .i64 1))⟩, ⟨some 13, none, .mv (.tmp 52)⟩])))
def sc_waymarkref1_Next : SCode :=
 (.seq (.reg [0, 1, 2, 3] [⟨some 4, none, .box 24 (.tmp 0)⟩, ⟨some 8, none, .mv (.const (.slice none 0 0))⟩])
 (.seq (.reg [1, 2, 3, 4] [⟨some 18, none, .load 2 true (.tmp 4)⟩, ⟨some 19, none, .call 58 [(.tmp 18)]⟩, ⟨some 17, none, .mv (.tmp 19)⟩, ⟨some 20, none, .ext (.tmp 17) 0⟩, ⟨some 21, none, .ext (.tmp 17) 1⟩, ⟨some 9, none, .mv (.tmp 20)⟩, ⟨some 10, none, .mv (.tmp 21)⟩])
 (.seq (.seq (.reg [1, 2, 3, 4, 10] [⟨some 22, none, .mv (.tmp 10)⟩, ⟨some 23, none, .bin .neq 3 (.tmp 22) (.const (.int .i64 0))⟩, ⟨some 24, none, .mv (.tmp 23)⟩, ⟨some 25, some (24, false), .mv (.tmp 2)⟩, ⟨some 26, some (24, false), .len false (.tmp 25)⟩, ⟨some 27, some (24, false), .fld 0 (.tmp 4)⟩, ⟨some 28, some (24, false), .load 1 false (.tmp 27)⟩, ⟨some 29, some (24, false), .bin .neq 3 (.tmp 26) (.tmp 28)⟩, ⟨some 30, none, .pick (.tmp 24) (.const (.bool true)) (.tmp 29)⟩, ⟨some 31, none, .mv (.tmp 30)⟩, ⟨some 32, some (31, false), .load 2 true (.tmp 4)⟩, ⟨some 33, some (31, false), .mv (.tmp 3)⟩, ⟨some 34, some (31, false), .call 59 [(.tmp 32), (.tmp 33)]⟩, ⟨some 35, some (31, false), .un .not (.tmp 34)⟩, ⟨some 36, none, .pick (.tmp 31) (.const (.bool true)) (.tmp 35)⟩, ⟨some 37, none, .mv (.tmp 36)⟩, ⟨some 38, some (37, false), .mv (.tmp 2)⟩, ⟨some 39, some (37, false), .mv (.tmp 3)⟩, ⟨some 40, some (37, false), .ia none 1 (.tmp 38) (.tmp 39)⟩, ⟨some 41, some (37, false), .load 1 false (.tmp 40)⟩, ⟨some 42, some (37, false), .bin .leq 3 (.tmp 41) (.const (.int .i64 0))⟩, ⟨some 43, none, .pick (.tmp 37) (.const (.bool true)) (.tmp 42)⟩])
 (.cond (.tmp 43) (.seq (.reg [] [⟨some 8, none, .mv (.const (.slice none 0 0))⟩])
 .ret) .skip))
 (.seq (.reg [1, 2, 3, 4] [⟨some 11, none, .mv (.const (.slice none 0 0))⟩])
 (.seq (.reg [1, 2, 3, 4, 11] [⟨some 44, none, .load 2 true (.tmp 4)⟩, ⟨some 45, none, .mv (.tmp 3)⟩, ⟨some 46, none, .call 80 [(.tmp 44), (.tmp 45)]⟩, ⟨some 12, none, .mv (.tmp 46)⟩])
 (.seq (.seq (.reg [1, 2, 3, 4, 11, 12] [⟨some 13, none, .mv (.const (.int .i64 0))⟩])
 (.block 0 (.loop [1, 2, 3, 4, 11, 12, 13] [(11, 106, 3, 1)] sc_waymarkref1_Next_L0)))
 (.seq (.reg [11] [⟨some 107, none, .mv (.tmp 11)⟩, ⟨some 8, none, .mv (.tmp 107)⟩])
 .ret)))))))
theorem fn_waymarkref1_Next : FnOk Try.prog 60 Try.f60 sc_waymarkref1_Next [.tmp 8] 4 := ⟨Try.func60, by kernel_rfl, by kernel_rfl, by kernel_rfl, by kernel_rfl, by kernel_rfl, by kernel_rfl⟩

def sc_waymarkref1_CopyGraph : SCode :=
 (.seq (.reg [0] [⟨some 1, none, .box 24 (.tmp 0)⟩, ⟨some 2, none, .alloc 24 [(.int .i64 0), (.slice none 0 0)]⟩])
 (.seq (.reg [1, 2] [⟨some 3, none, .fld 1 (.tmp 1)⟩, ⟨some 4, none, .load 1 false (.tmp 3)⟩, ⟨some 5, none, .hp (.app 22 48 4 32 (.agg #[(.int .i64 0), (.int .i64 0), (.int .i64 0), (.int .i64 0)]) (.const (.slice none 0 0)) (.tmp 4))⟩, ⟨some 6, none, .fld 1 (.tmp 1)⟩, ⟨none, none, .store 1 (.tmp 6) (.tmp 5)⟩])
 (.seq (.reg [1, 2] [⟨some 7, none, .load 2 true (.tmp 1)⟩, ⟨none, none, .store 2 (.tmp 2) (.tmp 7)⟩])
 .ret)))
theorem fn_waymarkref1_CopyGraph : FnOk Try.prog 69 Try.f69 sc_waymarkref1_CopyGraph [.cell 2 2 true] 1 := ⟨Try.func69, by kernel_rfl, by kernel_rfl, by kernel_rfl, by kernel_rfl, by kernel_rfl, by kernel_rfl⟩

def sc_waymarkref1_has_L0 : SCode :=
 (.seq (.seq (.reg [0, 1, 5] [⟨some 6, none, .mv (.tmp 5)⟩, ⟨some 7, none, .mv (.tmp 0)⟩, ⟨some 8, none, .len false (.tmp 7)⟩, ⟨some 9, none, .bin .lss 3 (.tmp 6) (.tmp 8)⟩])
 (.cond (.tmp 9) .skip (.exit 0)))
 (.seq (.block 1 (.seq (.reg [0, 1, 5] [⟨some 12, none, .mv (.tmp 0)⟩, ⟨some 13, none, .mv (.tmp 5)⟩, ⟨some 14, none, .ia none 1 (.tmp 12) (.tmp 13)⟩, ⟨some 15, none, .load 1 false (.tmp 14)⟩, ⟨some 16, none, .mv (.tmp 1)⟩, ⟨some 17, none, .bin .eql 3 (.tmp 15) (.tmp 16)⟩])
 (.cond (.tmp 17) (.seq (.reg [] [⟨some 4, none, .mv (.const (.bool true))⟩])
 .ret) .skip)))
 (.reg [0, 1, 5] [⟨some 10, none, .mv (.tmp 5)⟩, ⟨some 11, none, .bin .add 3 (.tmp 10) (.const (.int .i64 1))⟩, ⟨some 5, none, .mv (.tmp 11)⟩])))
def sc_waymarkref1_has : SCode :=
 (.seq (.reg [0, 1] [⟨some 4, none, .mv (.const (.bool false))⟩])
 (.seq (.seq (.reg [0, 1] [⟨some 5, none, .mv (.const (.int .i64 0))⟩])
 (.block 0 (.loop [0, 1, 5] [] sc_waymarkref1_has_L0)))
 (.seq (.reg [] [⟨some 4, none, .mv (.const (.bool false))⟩])
 .ret)))
theorem fn_waymarkref1_has : FnOk Try.prog 79 Try.f79 sc_waymarkref1_has [.tmp 4] 2 := ⟨Try.func79, by kernel_rfl, by kernel_rfl, by kernel_rfl, by kernel_rfl, by kernel_rfl, by kernel_rfl⟩

def sc_waymarkref1_Out_L0 : SCode :=
 (.seq (.seq (.reg [1, 2, 5, 6] [⟨some 10, none, .mv (.tmp 6)⟩, ⟨some 11, none, .fld 1 (.tmp 2)⟩, ⟨some 12, none, .load 1 false (.tmp 11)⟩, ⟨some 13, none, .len false (.tmp 12)⟩, ⟨some 14, none, .bin .mul 3 (.const (.int .i64 2)) (.tmp 13)⟩, ⟨some 15, none, .bin .lss 3 (.tmp 10) (.tmp 14)⟩])
 (.cond (.tmp 15) .skip (.exit 0)))
 (.seq (.block 1 (.seq (.reg [1, 2, 5, 6] [⟨some 19, none, .load 2 true (.tmp 2)⟩, ⟨some 20, none, .mv (.tmp 6)⟩, ⟨some 21, none, .call 29 [(.tmp 19), (.tmp 20)]⟩, ⟨some 18, none, .mv (.tmp 21)⟩, ⟨some 22, none, .ext (.tmp 18) 0⟩, ⟨some 23, none, .ext (.tmp 18) 1⟩, ⟨some 24, none, .ext (.tmp 18) 2⟩, ⟨some 7, none, .mv (.tmp 22)⟩, ⟨some 8, none, .mv (.tmp 23)⟩, ⟨some 9, none, .mv (.tmp 24)⟩])
 (.seq (.reg [1, 2, 5, 6, 7] [⟨some 25, none, .mv (.tmp 7)⟩, ⟨some 26, none, .mv (.tmp 1)⟩, ⟨some 27, none, .bin .eql 3 (.tmp 25) (.tmp 26)⟩])
 (.cond (.tmp 27) (.reg [1, 2, 5, 6] [⟨some 28, none, .mv (.tmp 5)⟩, ⟨some 29, none, .mv (.tmp 6)⟩, ⟨some 30, none, .bsl 3 1 [(.int .i64 0)] 1 [(0, 1, (.tmp 29))]⟩, ⟨some 31, none, .app 25 3 1 8 (.int .i64 0) (.tmp 28) (.tmp 30)⟩, ⟨some 5, none, .mv (.tmp 31)⟩]) .skip))))
 (.reg [1, 2, 5, 6] [⟨some 16, none, .mv (.tmp 6)⟩, ⟨some 17, none, .bin .add 3 (.tmp 16) (.const (.int .i64 1))⟩, ⟨some 6, none, .mv (.tmp 17)⟩])))
def sc_waymarkref1_Out : SCode :=
 (.seq (.reg [0, 1] [⟨some 2, none, .box 24 (.tmp 0)⟩, ⟨some 4, none, .mv (.const (.slice none 0 0))⟩])
 (.seq (.reg [1, 2] [⟨some 5, none, .mv (.const (.slice none 0 0))⟩])
 (.seq (.seq (.reg [1, 2, 5] [⟨some 6, none, .mv (.const (.int .i64 0))⟩])
 (.block 0 (.loop [1, 2, 5, 6] [(5, 31, 3, 1)] sc_waymarkref1_Out_L0)))
 (.seq (.reg [5] [⟨some 32, none, .mv (.tmp 5)⟩, ⟨some 4, none, .mv (.tmp 32)⟩])
 .ret))))
theorem fn_waymarkref1_Out : FnOk Try.prog 80 Try.f80 sc_waymarkref1_Out [.tmp 4] 2 := ⟨Try.func80, by kernel_rfl, by kernel_rfl, by kernel_rfl, by kernel_rfl, by kernel_rfl, by kernel_rfl⟩

end Go.Proofs.Ytejmcijcdhoogaa
end

section
namespace Go.Proofs.Ytejmcijcdhoogaa
open Go Abs

end Go.Proofs.Ytejmcijcdhoogaa
end

section
namespace Go.Proofs.Ytejmcijcdhoogaa
open Go Abs

def sc_waymarkref15_Cost_L0 : SCode :=
 (.seq (.seq (.reg [3, 4, 9, 10, 11, 12] [⟨some 26, none, .mv (.tmp 12)⟩, ⟨some 27, none, .bin .add 3 (.tmp 26) (.const (.int .i64 1))⟩, ⟨some 28, none, .mv (.tmp 9)⟩, ⟨some 29, none, .len false (.tmp 28)⟩, ⟨some 30, none, .bin .lss 3 (.tmp 27) (.tmp 29)⟩])
 (.cond (.tmp 30) .skip (.exit 0)))
 (.seq (.block 1 (.seq (.draw [3, 4, 9, 10, 11, 12] [⟨some 33, none, .load 2 true (.tmp 3)⟩, ⟨some 34, none, .mv (.tmp 10)⟩, ⟨some 35, none, .mv (.tmp 9)⟩, ⟨some 36, none, .mv (.tmp 12)⟩, ⟨some 37, none, .ia none 1 (.tmp 35) (.tmp 36)⟩, ⟨some 38, none, .load 1 false (.tmp 37)⟩, ⟨some 39, none, .call 30 [(.tmp 33), (.tmp 34), (.tmp 38)]⟩, ⟨some 40, none, .mv (.tmp 9)⟩, ⟨some 41, none, .mv (.tmp 12)⟩, ⟨some 42, none, .bin .add 3 (.tmp 41) (.const (.int .i64 1))⟩, ⟨some 43, none, .ia none 1 (.tmp 40) (.tmp 42)⟩, ⟨some 44, none, .load 1 false (.tmp 43)⟩, ⟨some 45, none, .ia none 1 (.tmp 39) (.tmp 44)⟩, ⟨some 46, none, .load 1 false (.tmp 45)⟩, ⟨some 13, none, .mv (.tmp 46)⟩])
 (.seq (.seq (.reg [3, 4, 9, 10, 11, 12, 13] [⟨some 47, none, .mv (.tmp 13)⟩, ⟨some 48, none, .bin .lss 3 (.tmp 47) (.const (.int .i64 0))⟩])
 (.cond (.tmp 48) (.seq (.reg [] [⟨some 6, none, .mv (.const (.int .i64 0))⟩, ⟨some 7, none, .mv (.const (.int .i64 8))⟩])
 .ret) .skip))
 (.reg [3, 4, 9, 10, 11, 12, 13] [⟨some 49, none, .mv (.tmp 11)⟩, ⟨some 50, none, .mv (.tmp 13)⟩, ⟨some 51, none, .bin .add 3 (.tmp 49) (.tmp 50)⟩, ⟨some 11, none, .mv (.tmp 51)⟩]))))
 (.reg [3, 4, 9, 10, 11, 12] [⟨some 31, none, .mv (.tmp 12)⟩, ⟨some 32, none, .bin .add 3 (.tmp 31) (.const (.int .i64 1))⟩, ⟨some 12, none, .mv (.tmp 32)⟩])))
def sc_waymarkref15_Cost : SCode :=
 (.seq (.reg [0, 1, 2] [⟨some 3, none, .box 24 (.tmp 0)⟩, ⟨some 4, none, .box 27 (.tmp 1)⟩, ⟨some 6, none, .mv (.const (.int .i64 0))⟩, ⟨some 7, none, .mv (.const (.int .i64 0))⟩])
 (.seq (.reg [2, 3, 4] [⟨some 14, none, .load 2 true (.tmp 3)⟩, ⟨some 15, none, .load 7 true (.tmp 4)⟩, ⟨some 16, none, .call 53 [(.tmp 14), (.tmp 15)]⟩, ⟨some 8, none, .mv (.tmp 16)⟩])
 (.seq (.seq (.reg [2, 3, 4, 8] [⟨some 17, none, .mv (.tmp 8)⟩, ⟨some 18, none, .bin .neq 3 (.tmp 17) (.const (.int .i64 0))⟩])
 (.cond (.tmp 18) (.seq (.reg [8] [⟨some 19, none, .mv (.tmp 8)⟩, ⟨some 6, none, .mv (.const (.int .i64 0))⟩, ⟨some 7, none, .mv (.tmp 19)⟩])
 .ret) .skip))
 (.seq (.reg [2, 3, 4] [⟨some 20, none, .load 7 true (.tmp 4)⟩, ⟨some 21, none, .call 54 [(.tmp 20)]⟩, ⟨some 9, none, .mv (.tmp 21)⟩])
 (.seq (.reg [2, 3, 4, 9] [⟨some 22, none, .load 2 true (.tmp 3)⟩, ⟨some 23, none, .load 7 true (.tmp 4)⟩, ⟨some 24, none, .mv (.tmp 2)⟩, ⟨some 25, none, .call 55 [(.tmp 22), (.tmp 23), (.tmp 24)]⟩, ⟨some 10, none, .mv (.tmp 25)⟩])
 (.seq (.reg [3, 4, 9, 10] [⟨some 11, none, .mv (.const (.int .i64 0))⟩])
 (.seq (.seq (.reg [3, 4, 9, 10, 11] [⟨some 12, none, .mv (.const (.int .i64 0))⟩])
 (.block 0 (.loop [3, 4, 9, 10, 11, 12] [] sc_waymarkref15_Cost_L0)))
 (.seq (.seq (.reg [4, 11] [⟨some 52, none, .fld 2 (.tmp 4)⟩, ⟨some 53, none, .load 1 false (.tmp 52)⟩, ⟨some 54, none, .bin .gtr 3 (.tmp 53) (.const (.int .i64 0))⟩, ⟨some 55, none, .mv (.tmp 54)⟩, ⟨some 56, some (55, true), .mv (.tmp 11)⟩, ⟨some 57, some (55, true), .fld 2 (.tmp 4)⟩, ⟨some 58, some (55, true), .load 1 false (.tmp 57)⟩, ⟨some 59, some (55, true), .bin .gtr 3 (.tmp 56) (.tmp 58)⟩, ⟨some 60, none, .pick (.tmp 55) (.tmp 59) (.const (.bool false))⟩])
 (.cond (.tmp 60) (.seq (.reg [] [⟨some 6, none, .mv (.const (.int .i64 0))⟩, ⟨some 7, none, .mv (.const (.int .i64 8))⟩])
 .ret) .skip))
 (.seq (.reg [11] [⟨some 61, none, .mv (.tmp 11)⟩, ⟨some 6, none, .mv (.tmp 61)⟩, ⟨some 7, none, .mv (.const (.int .i64 0))⟩])
 .ret)))))))))
theorem fn_waymarkref15_Cost : FnOk Try.prog 24 Try.f24 sc_waymarkref15_Cost [.tmp 6, .tmp 7] 3 := ⟨Try.func24, by kernel_rfl, by kernel_rfl, by kernel_rfl, by kernel_rfl, by kernel_rfl, by kernel_rfl⟩

def sc_waymarkref15_Has_L0 : SCode :=
 (.seq (.seq (.reg [3, 5, 9, 10, 11, 12] [⟨some 22, none, .mv (.tmp 12)⟩, ⟨some 23, none, .mv (.tmp 3)⟩, ⟨some 24, none, .len false (.tmp 23)⟩, ⟨some 25, none, .bin .lss 3 (.tmp 22) (.tmp 24)⟩, ⟨some 26, none, .mv (.tmp 25)⟩, ⟨some 27, some (26, true), .mv (.tmp 10)⟩, ⟨some 28, none, .pick (.tmp 26) (.tmp 27) (.const (.bool false))⟩])
 (.cond (.tmp 28) .skip (.exit 0)))
 (.seq (.block 1 (.draw [3, 5, 9, 11, 12] [⟨some 32, none, .mv (.tmp 9)⟩, ⟨some 33, none, .load 2 true (.tmp 11)⟩, ⟨some 34, none, .mv (.tmp 3)⟩, ⟨some 35, none, .mv (.tmp 12)⟩, ⟨some 36, none, .ia none 1 (.tmp 34) (.tmp 35)⟩, ⟨some 37, none, .load 1 false (.tmp 36)⟩, ⟨some 38, none, .call 64 [(.tmp 32), (.tmp 33), (.tmp 37)]⟩, ⟨some 31, none, .mv (.tmp 38)⟩, ⟨some 39, none, .ext (.tmp 31) 0⟩, ⟨some 40, none, .ext (.tmp 31) 1⟩, ⟨none, none, .store 2 (.tmp 11) (.tmp 39)⟩, ⟨some 10, none, .mv (.tmp 40)⟩]))
 (.reg [3, 5, 9, 10, 11, 12] [⟨some 29, none, .mv (.tmp 12)⟩, ⟨some 30, none, .bin .add 3 (.tmp 29) (.const (.int .i64 1))⟩, ⟨some 12, none, .mv (.tmp 30)⟩])))
def sc_waymarkref15_Has : SCode :=
 (.seq (.reg [0, 1, 2, 3] [⟨some 4, none, .box 24 (.tmp 0)⟩, ⟨some 5, none, .box 27 (.tmp 1)⟩, ⟨some 8, none, .mv (.const (.bool false))⟩])
 (.seq (.reg [2, 3, 4, 5] [⟨some 14, none, .load 2 true (.tmp 4)⟩, ⟨some 15, none, .load 7 true (.tmp 5)⟩, ⟨some 16, none, .mv (.tmp 2)⟩, ⟨some 17, none, .call 48 [(.tmp 14), (.tmp 15), (.tmp 16)]⟩, ⟨some 13, none, .mv (.tmp 17)⟩, ⟨some 18, none, .ext (.tmp 13) 0⟩, ⟨some 19, none, .ext (.tmp 13) 1⟩, ⟨some 9, none, .mv (.tmp 18)⟩, ⟨some 10, none, .mv (.tmp 19)⟩])
 (.seq (.reg [3, 5, 9, 10] [⟨some 20, none, .load 7 true (.tmp 5)⟩, ⟨some 21, none, .call 50 [(.tmp 20)]⟩, ⟨some 11, none, .alloc 82 [(.int .i64 0), (.int .i64 0)]⟩, ⟨none, none, .store 2 (.tmp 11) (.tmp 21)⟩])
 (.seq (.seq (.reg [3, 5, 9, 10, 11] [⟨some 12, none, .mv (.const (.int .i64 0))⟩])
 (.block 0 (.loop [3, 5, 9, 10, 11, 12] [] sc_waymarkref15_Has_L0)))
 (.seq (.draw [5, 10, 11] [⟨some 41, none, .mv (.tmp 10)⟩, ⟨some 42, none, .mv (.tmp 41)⟩, ⟨some 43, some (42, true), .load 2 true (.tmp 11)⟩, ⟨some 44, some (42, true), .load 7 true (.tmp 5)⟩, ⟨some 45, some (42, true), .call 52 [(.tmp 44)]⟩, ⟨some 46, some (42, true), .eqs false [(0, .i), (1, .i)] (.tmp 43) (.tmp 45)⟩, ⟨some 47, none, .pick (.tmp 42) (.tmp 46) (.const (.bool false))⟩, ⟨some 8, none, .mv (.tmp 47)⟩])
 .ret)))))
theorem fn_waymarkref15_Has : FnOk Try.prog 37 Try.f37 sc_waymarkref15_Has [.tmp 8] 4 := ⟨Try.func37, by kernel_rfl, by kernel_rfl, by kernel_rfl, by kernel_rfl, by kernel_rfl, by kernel_rfl⟩

def sc_waymarkref15_NewOpt_L0 : SCode :=
 (.seq (.seq (.reg [3, 10, 11] [⟨some 30, none, .mv (.tmp 11)⟩, ⟨some 31, none, .mv (.tmp 10)⟩, ⟨some 32, none, .nilc (.tmp 31)⟩, ⟨some 33, none, .fld 2 (.tmp 32)⟩, ⟨some 34, none, .load 1 false (.tmp 33)⟩, ⟨some 35, none, .len false (.tmp 34)⟩, ⟨some 36, none, .bin .lss 3 (.tmp 30) (.tmp 35)⟩])
 (.cond (.tmp 36) .skip (.exit 0)))
 (.seq (.block 1 (.draw [3, 10, 11] [⟨some 39, none, .mv (.tmp 10)⟩, ⟨some 40, none, .mv (.tmp 10)⟩, ⟨some 41, none, .nilc (.tmp 40)⟩, ⟨some 42, none, .fld 4 (.tmp 41)⟩, ⟨some 43, none, .hp (.load 1 false (.tmp 42))⟩, ⟨some 44, none, .ow (.load 2 true (.tmp 3))⟩, ⟨some 45, none, .mv (.tmp 10)⟩, ⟨some 46, none, .nilc (.tmp 45)⟩, ⟨some 47, none, .fld 3 (.tmp 46)⟩, ⟨some 48, none, .hp (.load 1 false (.tmp 47))⟩, ⟨some 49, none, .mv (.tmp 10)⟩, ⟨some 50, none, .nilc (.tmp 49)⟩, ⟨some 51, none, .fld 2 (.tmp 50)⟩, ⟨some 52, none, .hp (.load 1 false (.tmp 51))⟩, ⟨some 53, none, .mv (.tmp 11)⟩, ⟨some 54, none, .ia none 1 (.tmp 52) (.tmp 53)⟩, ⟨some 55, none, .ow (.load 1 false (.tmp 54))⟩, ⟨some 56, none, .call 30 [(.tmp 44), (.tmp 48), (.tmp 55)]⟩, ⟨some 57, none, .bsl 25 1 [(.slice none 0 0)] 1 [(0, 1, (.tmp 56))]⟩, ⟨some 58, none, .hp (.app 98 25 1 24 (.slice none 0 0) (.tmp 43) (.tmp 57))⟩, ⟨some 59, none, .nilc (.tmp 39)⟩, ⟨some 60, none, .fld 4 (.tmp 59)⟩, ⟨none, none, .store 1 (.tmp 60) (.tmp 58)⟩]))
 (.reg [3, 10, 11] [⟨some 37, none, .mv (.tmp 11)⟩, ⟨some 38, none, .bin .add 3 (.tmp 37) (.const (.int .i64 1))⟩, ⟨some 11, none, .mv (.tmp 38)⟩])))
def sc_waymarkref15_NewOpt : SCode :=
 (.seq (.reg [0, 1, 2] [⟨some 3, none, .box 24 (.tmp 0)⟩, ⟨some 4, none, .box 27 (.tmp 1)⟩, ⟨some 6, none, .mv (.const (.pointer none))⟩, ⟨some 7, none, .mv (.const (.bool false))⟩])
 (.seq (.reg [2, 3, 4] [⟨some 13, none, .load 2 true (.tmp 3)⟩, ⟨some 14, none, .load 7 true (.tmp 4)⟩, ⟨some 15, none, .mv (.tmp 2)⟩, ⟨some 16, none, .call 24 [(.tmp 13), (.tmp 14), (.tmp 15)]⟩, ⟨some 12, none, .mv (.tmp 16)⟩, ⟨some 17, none, .ext (.tmp 12) 0⟩, ⟨some 18, none, .ext (.tmp 12) 1⟩, ⟨some 8, none, .mv (.tmp 17)⟩, ⟨some 9, none, .mv (.tmp 18)⟩])
 (.seq (.seq (.reg [2, 3, 4, 9] [⟨some 19, none, .mv (.tmp 9)⟩, ⟨some 20, none, .bin .neq 3 (.tmp 19) (.const (.int .i64 0))⟩])
 (.cond (.tmp 20) (.seq (.reg [] [⟨some 6, none, .mv (.const (.pointer none))⟩, ⟨some 7, none, .mv (.const (.bool false))⟩])
 .ret) .skip))
 (.seq (.draw [2, 3, 4] [⟨some 21, none, .load 2 true (.tmp 3)⟩, ⟨some 22, none, .load 7 true (.tmp 4)⟩, ⟨some 23, none, .call 54 [(.tmp 22)]⟩, ⟨some 24, none, .load 2 true (.tmp 3)⟩, ⟨some 25, none, .load 7 true (.tmp 4)⟩, ⟨some 26, none, .mv (.tmp 2)⟩, ⟨some 27, none, .call 55 [(.tmp 24), (.tmp 25), (.tmp 26)]⟩, ⟨some 28, none, .build [(.int .i64 0), (.slice none 0 0), (.slice none 0 0), (.slice none 0 0), (.slice none 0 0)] [(0, 2, (.tmp 21)), (2, 1, (.tmp 23)), (3, 1, (.tmp 27))]⟩, ⟨some 29, none, .hp (.box 138 (.tmp 28))⟩, ⟨some 10, none, .mv (.tmp 29)⟩])
 (.seq (.seq (.reg [3, 10] [⟨some 11, none, .mv (.const (.int .i64 0))⟩])
 (.block 0 (.loop [3, 10, 11] [] sc_waymarkref15_NewOpt_L0)))
 (.seq (.reg [10] [⟨some 61, none, .mv (.tmp 10)⟩, ⟨some 6, none, .mv (.tmp 61)⟩, ⟨some 7, none, .mv (.const (.bool true))⟩])
 .ret))))))
theorem fn_waymarkref15_NewOpt : FnOk Try.prog 48 Try.f48 sc_waymarkref15_NewOpt [.tmp 6, .tmp 7] 3 := ⟨Try.func48, by kernel_rfl, by kernel_rfl, by kernel_rfl, by kernel_rfl, by kernel_rfl, by kernel_rfl⟩

def sc_waymarkref15_Start : SCode :=
 (.seq (.reg [0] [⟨some 1, none, .box 27 (.tmp 0)⟩, ⟨some 2, none, .alloc 82 [(.int .i64 0), (.int .i64 0)]⟩])
 (.seq (.draw [1, 2] [⟨some 3, none, .load 7 true (.tmp 1)⟩, ⟨some 4, none, .call 54 [(.tmp 3)]⟩, ⟨some 5, none, .fld 0 (.tmp 1)⟩, ⟨some 6, none, .load 1 false (.tmp 5)⟩, ⟨some 7, none, .build [(.int .i64 0), (.int .i64 0)] [(0, 1, (.tmp 6)), (1, 1, (.const (.int .i64 0)))]⟩, ⟨some 8, none, .call 77 [(.tmp 4), (.tmp 7)]⟩, ⟨none, none, .store 2 (.tmp 2) (.tmp 8)⟩])
 .ret))
theorem fn_waymarkref15_Start : FnOk Try.prog 50 Try.f50 sc_waymarkref15_Start [.cell 2 2 true] 1 := ⟨Try.func50, by kernel_rfl, by kernel_rfl, by kernel_rfl, by kernel_rfl, by kernel_rfl, by kernel_rfl⟩

def sc_waymarkref15_Goal : SCode :=
 (.seq (.reg [0] [⟨some 1, none, .box 27 (.tmp 0)⟩, ⟨some 2, none, .alloc 82 [(.int .i64 0), (.int .i64 0)]⟩])
 (.seq (.reg [1, 2] [⟨some 3, none, .fld 1 (.tmp 1)⟩, ⟨some 4, none, .load 1 false (.tmp 3)⟩, ⟨some 5, none, .fld 3 (.tmp 1)⟩, ⟨some 6, none, .load 1 false (.tmp 5)⟩, ⟨some 7, none, .len false (.tmp 6)⟩, ⟨some 8, none, .bin .add 3 (.tmp 7) (.const (.int .i64 1))⟩, ⟨some 9, none, .build [(.int .i64 0), (.int .i64 0)] [(0, 1, (.tmp 4)), (1, 1, (.tmp 8))]⟩, ⟨none, none, .store 2 (.tmp 2) (.tmp 9)⟩])
 .ret))
theorem fn_waymarkref15_Goal : FnOk Try.prog 52 Try.f52 sc_waymarkref15_Goal [.cell 2 2 true] 1 := ⟨Try.func52, by kernel_rfl, by kernel_rfl, by kernel_rfl, by kernel_rfl, by kernel_rfl, by kernel_rfl⟩

def sc_waymarkref15_points : SCode :=
 (.seq (.reg [0] [⟨some 1, none, .box 27 (.tmp 0)⟩, ⟨some 2, none, .mv (.const (.slice none 0 0))⟩])
 (.seq (.draw [1] [⟨some 3, none, .fld 0 (.tmp 1)⟩, ⟨some 4, none, .ow (.load 1 false (.tmp 3))⟩, ⟨some 5, none, .hp (.bsl 3 1 [(.int .i64 0)] 1 [(0, 1, (.tmp 4))])⟩, ⟨some 6, none, .fld 3 (.tmp 1)⟩, ⟨some 7, none, .ow (.load 1 false (.tmp 6))⟩, ⟨some 8, none, .hp (.app 25 3 1 8 (.int .i64 0) (.tmp 5) (.tmp 7))⟩, ⟨some 9, none, .fld 1 (.tmp 1)⟩, ⟨some 10, none, .ow (.load 1 false (.tmp 9))⟩, ⟨some 11, none, .bsl 3 1 [(.int .i64 0)] 1 [(0, 1, (.tmp 10))]⟩, ⟨some 12, none, .hp (.app 25 3 1 8 (.int .i64 0) (.tmp 8) (.tmp 11))⟩, ⟨some 2, none, .mv (.tmp 12)⟩])
 .ret))
theorem fn_waymarkref15_points : FnOk Try.prog 54 Try.f54 sc_waymarkref15_points [.tmp 2] 1 := ⟨Try.func54, by kernel_rfl, by kernel_rfl, by kernel_rfl, by kernel_rfl, by kernel_rfl, by kernel_rfl⟩

def sc_waymarkref15_Opt_Step_L0 : SCode :=
 (.seq (.seq (.reg [0, 2, 4, 6, 9, 11, 12] [⟨some 67, none, .mv (.tmp 12)⟩, ⟨some 68, none, .mv (.tmp 11)⟩, ⟨some 69, none, .len false (.tmp 68)⟩, ⟨some 70, none, .bin .lss 3 (.tmp 67) (.tmp 69)⟩])
 (.cond (.tmp 70) .skip (.exit 0)))
 (.seq (.block 1 (.seq (.reg [0, 2, 4, 6, 9, 11, 12] [⟨some 73, none, .mv (.tmp 11)⟩, ⟨some 74, none, .mv (.tmp 12)⟩, ⟨some 75, none, .ia none 1 (.tmp 73) (.tmp 74)⟩, ⟨some 76, none, .load 1 false (.tmp 75)⟩, ⟨some 77, none, .mv (.tmp 2)⟩, ⟨some 78, none, .bin .eql 3 (.tmp 76) (.tmp 77)⟩])
 (.cond (.tmp 78) (.seq (.draw [0, 4, 6, 9] [⟨some 79, none, .mv (.tmp 0)⟩, ⟨some 80, none, .nilc (.tmp 79)⟩, ⟨some 81, none, .fld 2 (.tmp 80)⟩, ⟨some 82, none, .load 1 false (.tmp 81)⟩, ⟨some 83, none, .mv (.tmp 9)⟩, ⟨some 84, none, .ia (some 2) 1 (.tmp 4) (.const (.int .i64 1))⟩, ⟨some 85, none, .load 1 false (.tmp 84)⟩, ⟨some 86, none, .build [(.int .i64 0), (.int .i64 0)] [(0, 1, (.tmp 83)), (1, 1, (.tmp 85))]⟩, ⟨some 87, none, .call 77 [(.tmp 82), (.tmp 86)]⟩, ⟨none, none, .store 2 (.tmp 6) (.tmp 87)⟩, ⟨some 7, none, .mv (.const (.bool true))⟩])
 .ret) .skip)))
 (.reg [0, 2, 4, 6, 9, 11, 12] [⟨some 71, none, .mv (.tmp 12)⟩, ⟨some 72, none, .bin .add 3 (.tmp 71) (.const (.int .i64 1))⟩, ⟨some 12, none, .mv (.tmp 72)⟩])))
def sc_waymarkref15_Opt_Step : SCode :=
 (.seq (.reg [0, 1, 2] [⟨some 4, none, .box 82 (.tmp 1)⟩, ⟨some 6, none, .alloc 82 [(.int .i64 0), (.int .i64 0)]⟩, ⟨some 7, none, .mv (.const (.bool false))⟩])
 (.seq (.reg [0, 2, 4, 6] [⟨some 14, none, .mv (.tmp 0)⟩, ⟨some 15, none, .nilc (.tmp 14)⟩, ⟨some 16, none, .fld 0 (.tmp 15)⟩, ⟨some 17, none, .load 2 true (.tmp 16)⟩, ⟨some 18, none, .mv (.tmp 2)⟩, ⟨some 19, none, .call 29 [(.tmp 17), (.tmp 18)]⟩, ⟨some 13, none, .mv (.tmp 19)⟩, ⟨some 20, none, .ext (.tmp 13) 0⟩, ⟨some 21, none, .ext (.tmp 13) 1⟩, ⟨some 22, none, .ext (.tmp 13) 2⟩, ⟨some 8, none, .mv (.tmp 20)⟩, ⟨some 9, none, .mv (.tmp 21)⟩, ⟨some 10, none, .mv (.tmp 22)⟩])
 (.seq (.seq (.draw [0, 2, 4, 6, 8, 9, 10] [⟨some 23, none, .mv (.tmp 10)⟩, ⟨some 24, none, .un .not (.tmp 23)⟩, ⟨some 25, none, .mv (.tmp 24)⟩, ⟨some 26, some (25, false), .mv (.tmp 8)⟩, ⟨some 27, some (25, false), .ia (some 2) 1 (.tmp 4) (.const (.int .i64 0))⟩, ⟨some 28, some (25, false), .load 1 false (.tmp 27)⟩, ⟨some 29, some (25, false), .bin .neq 3 (.tmp 26) (.tmp 28)⟩, ⟨some 30, none, .pick (.tmp 25) (.const (.bool true)) (.tmp 29)⟩, ⟨some 31, none, .mv (.tmp 30)⟩, ⟨some 32, some (31, false), .ia (some 2) 1 (.tmp 4) (.const (.int .i64 1))⟩, ⟨some 33, some (31, false), .load 1 false (.tmp 32)⟩, ⟨some 34, some (31, false), .bin .lss 3 (.tmp 33) (.const (.int .i64 0))⟩, ⟨some 35, none, .pick (.tmp 31) (.const (.bool true)) (.tmp 34)⟩, ⟨some 36, none, .mv (.tmp 35)⟩, ⟨some 37, some (36, false), .ia (some 2) 1 (.tmp 4) (.const (.int .i64 1))⟩, ⟨some 38, some (36, false), .load 1 false (.tmp 37)⟩, ⟨some 39, some (36, false), .mv (.tmp 0)⟩, ⟨some 40, some (36, false), .nilc (.tmp 39)⟩, ⟨some 41, some (36, false), .fld 2 (.tmp 40)⟩, ⟨some 42, some (36, false), .load 1 false (.tmp 41)⟩, ⟨some 43, some (36, false), .len false (.tmp 42)⟩, ⟨some 44, some (36, false), .bin .sub 3 (.tmp 43) (.const (.int .i64 1))⟩, ⟨some 45, some (36, false), .bin .geq 3 (.tmp 38) (.tmp 44)⟩, ⟨some 46, none, .pick (.tmp 36) (.const (.bool true)) (.tmp 45)⟩])
 (.cond (.tmp 46) (.seq (.reg [6] [⟨some 47, none, .build [(.int .i64 0), (.int .i64 0)] []⟩, ⟨none, none, .store 2 (.tmp 6) (.tmp 47)⟩, ⟨some 7, none, .mv (.const (.bool false))⟩])
 .ret) .skip))
 (.seq (.draw [0, 2, 4, 6, 8, 9] [⟨some 48, none, .mv (.tmp 0)⟩, ⟨some 49, none, .nilc (.tmp 48)⟩, ⟨some 50, none, .fld 0 (.tmp 49)⟩, ⟨some 51, none, .load 2 true (.tmp 50)⟩, ⟨some 52, none, .mv (.tmp 0)⟩, ⟨some 53, none, .nilc (.tmp 52)⟩, ⟨some 54, none, .fld 3 (.tmp 53)⟩, ⟨some 55, none, .load 1 false (.tmp 54)⟩, ⟨some 56, none, .mv (.tmp 0)⟩, ⟨some 57, none, .nilc (.tmp 56)⟩, ⟨some 58, none, .fld 4 (.tmp 57)⟩, ⟨some 59, none, .load 1 false (.tmp 58)⟩, ⟨some 60, none, .ia (some 2) 1 (.tmp 4) (.const (.int .i64 1))⟩, ⟨some 61, none, .load 1 false (.tmp 60)⟩, ⟨some 62, none, .bin .add 3 (.tmp 61) (.const (.int .i64 1))⟩, ⟨some 63, none, .ia none 1 (.tmp 59) (.tmp 62)⟩, ⟨some 64, none, .load 1 false (.tmp 63)⟩, ⟨some 65, none, .mv (.tmp 8)⟩, ⟨some 66, none, .call 60 [(.tmp 51), (.tmp 55), (.tmp 64), (.tmp 65)]⟩, ⟨some 11, none, .mv (.tmp 66)⟩])
 (.seq (.seq (.reg [0, 2, 4, 6, 9, 11] [⟨some 12, none, .mv (.const (.int .i64 0))⟩])
 (.block 0 (.loop [0, 2, 4, 6, 9, 11, 12] [] sc_waymarkref15_Opt_Step_L0)))
 (.seq (.reg [6] [⟨some 88, none, .build [(.int .i64 0), (.int .i64 0)] []⟩, ⟨none, none, .store 2 (.tmp 6) (.tmp 88)⟩, ⟨some 7, none, .mv (.const (.bool false))⟩])
 .ret))))))
theorem fn_waymarkref15_Opt_Step : FnOk Try.prog 64 Try.f64 sc_waymarkref15_Opt_Step [.cell 6 2 true, .tmp 7] 3 := ⟨Try.func64, by kernel_rfl, by kernel_rfl, by kernel_rfl, by kernel_rfl, by kernel_rfl, by kernel_rfl⟩

def sc_waymarkref15_come_L0 : SCode :=
 (.seq (.seq (.draw [0, 3, 4] [⟨some 5, none, .ia (some 2) 1 (.tmp 3) (.const (.int .i64 1))⟩, ⟨some 6, none, .load 1 false (.tmp 5)⟩, ⟨some 7, none, .bin .geq 3 (.tmp 6) (.const (.int .i64 0))⟩, ⟨some 8, none, .mv (.tmp 7)⟩, ⟨some 9, some (8, true), .ia (some 2) 1 (.tmp 3) (.const (.int .i64 1))⟩, ⟨some 10, some (8, true), .load 1 false (.tmp 9)⟩, ⟨some 11, some (8, true), .bin .add 3 (.tmp 10) (.const (.int .i64 1))⟩, ⟨some 12, some (8, true), .mv (.tmp 0)⟩, ⟨some 13, some (8, true), .len false (.tmp 12)⟩, ⟨some 14, some (8, true), .bin .lss 3 (.tmp 11) (.tmp 13)⟩, ⟨some 15, none, .pick (.tmp 8) (.tmp 14) (.const (.bool false))⟩, ⟨some 16, none, .mv (.tmp 15)⟩, ⟨some 17, some (16, true), .mv (.tmp 0)⟩, ⟨some 18, some (16, true), .ia (some 2) 1 (.tmp 3) (.const (.int .i64 1))⟩, ⟨some 19, some (16, true), .load 1 false (.tmp 18)⟩, ⟨some 20, some (16, true), .bin .add 3 (.tmp 19) (.const (.int .i64 1))⟩, ⟨some 21, some (16, true), .ia none 1 (.tmp 17) (.tmp 20)⟩, ⟨some 22, some (16, true), .load 1 false (.tmp 21)⟩, ⟨some 23, some (16, true), .ia (some 2) 1 (.tmp 3) (.const (.int .i64 0))⟩, ⟨some 24, some (16, true), .load 1 false (.tmp 23)⟩, ⟨some 25, some (16, true), .bin .eql 3 (.tmp 22) (.tmp 24)⟩, ⟨some 26, none, .pick (.tmp 16) (.tmp 25) (.const (.bool false))⟩])
 (.cond (.tmp 26) .skip (.exit 0)))
 (.block 1 (.reg [0, 3, 4] [⟨some 27, none, .ia (some 2) 1 (.tmp 3) (.const (.int .i64 1))⟩, ⟨some 28, none, .load 1 false (.tmp 27)⟩, ⟨some 29, none, .bin .add 3 (.tmp 28) (.const (.int .i64 1))⟩, ⟨some 30, none, .ia (some 2) 1 (.tmp 3) (.const (.int .i64 1))⟩, ⟨none, none, .store 1 (.tmp 30) (.tmp 29)⟩])))
def sc_waymarkref15_come : SCode :=
 (.seq (.reg [0, 1] [⟨some 3, none, .box 82 (.tmp 1)⟩, ⟨some 4, none, .alloc 82 [(.int .i64 0), (.int .i64 0)]⟩])
 (.seq (.block 0 (.loop [0, 3, 4] [] sc_waymarkref15_come_L0))
 (.seq (.reg [3, 4] [⟨some 31, none, .load 2 true (.tmp 3)⟩, ⟨none, none, .store 2 (.tmp 4) (.tmp 31)⟩])
 .ret)))
theorem fn_waymarkref15_come : FnOk Try.prog 77 Try.f77 sc_waymarkref15_come [.cell 4 2 true] 2 := ⟨Try.func77, by kernel_rfl, by kernel_rfl, by kernel_rfl, by kernel_rfl, by kernel_rfl, by kernel_rfl⟩

end Go.Proofs.Ytejmcijcdhoogaa
end
