import Derived.Test.YtkephdahbplhfaaProg
import Derived.Test.YtkephdahbplhfaaAbsG
set_option maxRecDepth 100000
namespace Go.Proofs.Ytkephdahbplhfaa
open Go Abs

/- loop of waymark/tables.New, wants [1, 6, 8, 9, 28, 29, 39, 40] [(9, 52, 35, 1)] -/
def sc_tables_New_L0 : SCode :=
 (.seq (.reg [1, 6, 8, 9, 28, 29, 39, 40] [⟨(some 41), none, .bin .lss 3 (.tmp 40) (.tmp 39)⟩])
 (.seq (.cond (.tmp 41) .skip (.exit 2))
 (.seq (.block 3 (.seq (.reg [1, 6, 8, 9, 28, 29, 39, 40] [⟨(some 42), none, .mv (.tmp 40)⟩, ⟨(some 10), none, .mv (.tmp 42)⟩])
 (.reg [1, 6, 8, 9, 10, 28, 29, 39, 40] [⟨(some 43), none, .mv (.tmp 9)⟩, ⟨(some 44), none, .mv (.tmp 6)⟩, ⟨(some 45), none, .nilc (.tmp 44)⟩, ⟨(some 46), none, .fld 0 (.tmp 45)⟩, ⟨(some 47), none, .load 2 true (.tmp 46)⟩, ⟨(some 48), none, .mv (.tmp 8)⟩, ⟨(some 49), none, .mv (.tmp 10)⟩, ⟨(some 50), none, .call 46 [(.tmp 47), (.const (.slice none 0 0)), (.tmp 48), (.tmp 49)]⟩, ⟨(some 51), none, .bsl 35 1 [(.slice none 0 0)] 1 [(0, 1, (.tmp 50))]⟩, ⟨(some 52), none, .app 94 35 1 24 (.slice none 0 0) (.tmp 43) (.tmp 51)⟩, ⟨(some 9), none, .mv (.tmp 52)⟩])))
 (.reg [1, 6, 8, 9, 28, 29, 39, 40] [⟨(some 53), none, .bin .add 3 (.tmp 40) (.const (.int .i64 1))⟩, ⟨(some 40), none, .mv (.tmp 53)⟩]))))
/- loop of waymark/tables.New, wants [1, 6, 28, 29] [] -/
def sc_tables_New_L1 : SCode :=
 (.seq (.reg [1, 6, 28, 29] [⟨(some 30), none, .bin .lss 3 (.tmp 29) (.tmp 28)⟩])
 (.seq (.cond (.tmp 30) .skip (.exit 0))
 (.seq (.block 1 (.seq (.reg [1, 6, 28, 29] [⟨(some 31), none, .mv (.tmp 29)⟩, ⟨(some 7), none, .mv (.tmp 31)⟩])
 (.seq (.reg [1, 6, 7, 28, 29] [⟨(some 32), none, .mv (.tmp 6)⟩, ⟨(some 33), none, .nilc (.tmp 32)⟩, ⟨(some 34), none, .fld 0 (.tmp 33)⟩, ⟨(some 35), none, .load 2 true (.tmp 34)⟩, ⟨(some 36), none, .mv (.tmp 7)⟩, ⟨(some 37), none, .call 45 [(.tmp 35), (.const (.slice none 0 0)), (.tmp 36)]⟩, ⟨(some 8), none, .mv (.tmp 37)⟩])
 (.seq (.reg [1, 6, 8, 28, 29] [⟨(some 9), none, .mv (.const (.slice none 0 0))⟩])
 (.seq (.seq (.reg [1, 6, 8, 9, 28, 29] [⟨(some 38), none, .fld 0 (.tmp 1)⟩, ⟨(some 39), none, .load 1 false (.tmp 38)⟩, ⟨(some 40), none, .mv (.const (.int .i64 0))⟩])
 (.block 2 (.loop [1, 6, 8, 9, 28, 29, 39, 40] [(9, 52, 35, 1)] sc_tables_New_L0)))
 (.fz [9] (.draw [1, 6, 8, 9, 28, 29] [⟨(some 54), none, .mv (.tmp 6)⟩, ⟨(some 55), none, .mv (.tmp 6)⟩, ⟨(some 56), none, .mv (.tmp 6)⟩, ⟨(some 57), none, .nilc (.tmp 56)⟩, ⟨(some 58), none, .fld 2 (.tmp 57)⟩, ⟨(some 59), none, .load 1 false (.tmp 58)⟩, ⟨(some 60), none, .mv (.tmp 8)⟩, ⟨(some 61), none, .bsl 35 1 [(.slice none 0 0)] 1 [(0, 1, (.tmp 60))]⟩, ⟨(some 62), none, .hp (.app 94 35 1 24 (.slice none 0 0) (.tmp 59) (.tmp 61))⟩, ⟨(some 63), none, .mv (.tmp 6)⟩, ⟨(some 64), none, .nilc (.tmp 63)⟩, ⟨(some 65), none, .fld 3 (.tmp 64)⟩, ⟨(some 66), none, .hp (.load 1 false (.tmp 65))⟩, ⟨(some 67), none, .mv (.tmp 9)⟩, ⟨(some 68), none, .bsl 94 1 [(.slice none 0 0)] 1 [(0, 1, (.tmp 67))]⟩, ⟨(some 69), none, .hp (.app 95 94 1 24 (.slice none 0 0) (.tmp 66) (.tmp 68))⟩, ⟨(some 70), none, .nilc (.tmp 54)⟩, ⟨(some 71), none, .fld 2 (.tmp 70)⟩, ⟨none, none, .store 1 (.tmp 71) (.tmp 62)⟩, ⟨(some 72), none, .nilc (.tmp 55)⟩, ⟨(some 73), none, .fld 3 (.tmp 72)⟩, ⟨none, none, .store 1 (.tmp 73) (.tmp 69)⟩])))))))
 (.reg [1, 6, 28, 29] [⟨(some 74), none, .bin .add 3 (.tmp 29) (.const (.int .i64 1))⟩, ⟨(some 29), none, .mv (.tmp 74)⟩]))))
/- 50 waymark/tables.New: slots 0 g, 1 g, 4 _, 5 e, 6 t, 7 n, 8 to, 9 next, 10 from -/
def sc_tables_New : SCode :=
 (.seq (.reg [0] [⟨(some 1), none, .box 24 (.tmp 0)⟩, ⟨(some 2), none, .mv (.const (.pointer none))⟩, ⟨(some 3), none, .mv (.const (.int .i64 0))⟩])
 (.seq (.seq (.reg [1] [⟨(some 12), none, .load 2 true (.tmp 1)⟩, ⟨(some 13), none, .call 20 [(.tmp 12)]⟩, ⟨(some 11), none, .mv (.tmp 13)⟩, ⟨(some 14), none, .ext (.tmp 11) 0⟩, ⟨(some 15), none, .ext (.tmp 11) 1⟩, ⟨(some 4), none, .mv (.tmp 14)⟩, ⟨(some 5), none, .mv (.tmp 15)⟩])
 (.seq (.reg [1, 5] [⟨(some 16), none, .mv (.tmp 5)⟩, ⟨(some 17), none, .bin .neq 26 (.tmp 16) (.const (.int .i64 0))⟩])
 (.cond (.tmp 17) (.seq (.reg [5] [⟨(some 18), none, .mv (.tmp 5)⟩, ⟨(some 2), none, .mv (.const (.pointer none))⟩, ⟨(some 3), none, .mv (.tmp 18)⟩])
 .ret) .skip)))
 (.seq (.draw [1] [⟨(some 19), none, .fld 0 (.tmp 1)⟩, ⟨(some 20), none, .load 1 false (.tmp 19)⟩, ⟨(some 21), none, .fld 1 (.tmp 1)⟩, ⟨(some 22), none, .load 1 false (.tmp 21)⟩, ⟨(some 23), none, .call 77 [(.tmp 22)]⟩, ⟨(some 24), none, .build [(.int .i64 0), (.slice none 0 0)] [(0, 1, (.tmp 20)), (1, 1, (.tmp 23))]⟩, ⟨(some 25), none, .build [(.int .i64 0), (.slice none 0 0), (.slice none 0 0), (.slice none 0 0)] [(0, 2, (.tmp 24))]⟩, ⟨(some 26), none, .hp (.box 97 (.tmp 25))⟩, ⟨(some 6), none, .mv (.tmp 26)⟩])
 (.seq (.seq (.reg [1, 6] [⟨(some 27), none, .fld 0 (.tmp 1)⟩, ⟨(some 28), none, .load 1 false (.tmp 27)⟩, ⟨(some 29), none, .mv (.const (.int .i64 0))⟩])
 (.block 0 (.loop [1, 6, 28, 29] [] sc_tables_New_L1)))
 (.seq (.reg [6] [⟨(some 75), none, .mv (.tmp 6)⟩, ⟨(some 2), none, .mv (.tmp 75)⟩, ⟨(some 3), none, .mv (.const (.int .i64 0))⟩])
 .ret)))))
theorem fn_tables_New : FnOk Try.prog 50 Try.f50 sc_tables_New [.tmp 2, .tmp 3] 1 := ⟨Try.func50, by kernel_rfl, by kernel_rfl, by kernel_rfl, by kernel_rfl, by kernel_rfl, by kernel_rfl⟩

/- 52 (*waymark/tables.Tables).Dist: slots 0 t, 1 from, 2 to, 3 t, 4 from, 5 to -/
def sc_tables_Tables_Dist : SCode :=
 (.seq (.reg [0, 1, 2] [⟨(some 6), none, .mv (.const (.int .i64 0))⟩])
 (.seq (.seq (.reg [0, 1, 2] [⟨(some 7), none, .mv (.tmp 0)⟩, ⟨(some 8), none, .mv (.tmp 1)⟩, ⟨(some 9), none, .call 78 [(.tmp 7), (.tmp 8)]⟩, ⟨(some 10), none, .un .not (.tmp 9)⟩, ⟨(some 11), none, .mv (.tmp 10)⟩, ⟨(some 12), (some (11, false)), .mv (.tmp 0)⟩, ⟨(some 13), (some (11, false)), .mv (.tmp 2)⟩, ⟨(some 14), (some (11, false)), .call 78 [(.tmp 12), (.tmp 13)]⟩, ⟨(some 15), (some (11, false)), .un .not (.tmp 14)⟩, ⟨(some 16), none, .pick (.tmp 11) (.const (.bool true)) (.tmp 15)⟩])
 (.cond (.tmp 16) (.seq (.reg [] [⟨(some 6), none, .mv (.const (.int .i64 (-1)))⟩])
 .ret) .skip))
 (.seq (.reg [0, 1, 2] [⟨(some 17), none, .mv (.tmp 0)⟩, ⟨(some 18), none, .nilc (.tmp 17)⟩, ⟨(some 19), none, .fld 2 (.tmp 18)⟩, ⟨(some 20), none, .load 1 false (.tmp 19)⟩, ⟨(some 21), none, .mv (.tmp 2)⟩, ⟨(some 22), none, .ia none 1 (.tmp 20) (.tmp 21)⟩, ⟨(some 23), none, .load 1 false (.tmp 22)⟩, ⟨(some 24), none, .mv (.tmp 1)⟩, ⟨(some 25), none, .ia none 1 (.tmp 23) (.tmp 24)⟩, ⟨(some 26), none, .load 1 false (.tmp 25)⟩, ⟨(some 6), none, .mv (.tmp 26)⟩])
 .ret)))
theorem fn_tables_Tables_Dist : FnOk Try.prog 52 Try.f52 sc_tables_Tables_Dist [.tmp 6] 3 := ⟨Try.func52, by kernel_rfl, by kernel_rfl, by kernel_rfl, by kernel_rfl, by kernel_rfl, by kernel_rfl⟩

/- 53 (*waymark/tables.Tables).Next: slots 0 t, 1 from, 2 to, 3 t, 4 from, 5 to -/
def sc_tables_Tables_Next : SCode :=
 (.seq (.reg [0, 1, 2] [⟨(some 6), none, .mv (.const (.slice none 0 0))⟩])
 (.seq (.seq (.reg [0, 1, 2] [⟨(some 7), none, .mv (.tmp 0)⟩, ⟨(some 8), none, .mv (.tmp 1)⟩, ⟨(some 9), none, .call 78 [(.tmp 7), (.tmp 8)]⟩, ⟨(some 10), none, .un .not (.tmp 9)⟩, ⟨(some 11), none, .mv (.tmp 10)⟩, ⟨(some 12), (some (11, false)), .mv (.tmp 0)⟩, ⟨(some 13), (some (11, false)), .mv (.tmp 2)⟩, ⟨(some 14), (some (11, false)), .call 78 [(.tmp 12), (.tmp 13)]⟩, ⟨(some 15), (some (11, false)), .un .not (.tmp 14)⟩, ⟨(some 16), none, .pick (.tmp 11) (.const (.bool true)) (.tmp 15)⟩])
 (.cond (.tmp 16) (.seq (.reg [] [⟨(some 6), none, .mv (.const (.slice none 0 0))⟩])
 .ret) .skip))
 (.seq (.reg [0, 1, 2] [⟨(some 17), none, .mv (.tmp 0)⟩, ⟨(some 18), none, .nilc (.tmp 17)⟩, ⟨(some 19), none, .fld 3 (.tmp 18)⟩, ⟨(some 20), none, .load 1 false (.tmp 19)⟩, ⟨(some 21), none, .mv (.tmp 2)⟩, ⟨(some 22), none, .ia none 1 (.tmp 20) (.tmp 21)⟩, ⟨(some 23), none, .load 1 false (.tmp 22)⟩, ⟨(some 24), none, .mv (.tmp 1)⟩, ⟨(some 25), none, .ia none 1 (.tmp 23) (.tmp 24)⟩, ⟨(some 26), none, .load 1 false (.tmp 25)⟩, ⟨(some 27), none, .call 79 [(.tmp 26)]⟩, ⟨(some 6), none, .mv (.tmp 27)⟩])
 .ret)))
theorem fn_tables_Tables_Next : FnOk Try.prog 53 Try.f53 sc_tables_Tables_Next [.tmp 6] 3 := ⟨Try.func53, by kernel_rfl, by kernel_rfl, by kernel_rfl, by kernel_rfl, by kernel_rfl, by kernel_rfl⟩

/- 55 (*waymark/tables.Tables).Graph: slots 0 t, 1 t -/
def sc_tables_Tables_Graph : SCode :=
 (.seq (.reg [0] [⟨(some 2), none, .alloc 24 [(.int .i64 0), (.slice none 0 0)]⟩])
 (.seq (.seq (.reg [0, 2] [⟨(some 3), none, .mv (.tmp 0)⟩, ⟨(some 4), none, .isnil .p false (.tmp 3)⟩])
 (.cond (.tmp 4) (.seq (.reg [2] [⟨(some 5), none, .build [(.int .i64 0), (.slice none 0 0)] []⟩, ⟨none, none, .store 2 (.tmp 2) (.tmp 5)⟩])
 .ret) .skip))
 (.seq (.draw [0, 2] [⟨(some 6), none, .mv (.tmp 0)⟩, ⟨(some 7), none, .nilc (.tmp 6)⟩, ⟨(some 8), none, .fld 0 (.tmp 7)⟩, ⟨(some 9), none, .fld 0 (.tmp 8)⟩, ⟨(some 10), none, .load 1 false (.tmp 9)⟩, ⟨(some 11), none, .mv (.tmp 0)⟩, ⟨(some 12), none, .nilc (.tmp 11)⟩, ⟨(some 13), none, .fld 0 (.tmp 12)⟩, ⟨(some 14), none, .fld 1 (.tmp 13)⟩, ⟨(some 15), none, .load 1 false (.tmp 14)⟩, ⟨(some 16), none, .call 77 [(.tmp 15)]⟩, ⟨(some 17), none, .build [(.int .i64 0), (.slice none 0 0)] [(0, 1, (.tmp 10)), (1, 1, (.tmp 16))]⟩, ⟨none, none, .store 2 (.tmp 2) (.tmp 17)⟩])
 .ret)))
theorem fn_tables_Tables_Graph : FnOk Try.prog 55 Try.f55 sc_tables_Tables_Graph [.cell 2 2 true] 1 := ⟨Try.func55, by kernel_rfl, by kernel_rfl, by kernel_rfl, by kernel_rfl, by kernel_rfl, by kernel_rfl⟩

/- 78 (*waymark/tables.Tables).is: slots 0 t, 1 node, 2 t, 3 node -/
def sc_tables_Tables_is : SCode :=
 (.seq (.reg [0, 1] [⟨(some 4), none, .mv (.const (.bool false))⟩])
 (.seq (.reg [0, 1] [⟨(some 5), none, .mv (.tmp 0)⟩, ⟨(some 6), none, .isnil .p true (.tmp 5)⟩, ⟨(some 7), none, .mv (.tmp 6)⟩, ⟨(some 8), (some (7, true)), .mv (.tmp 0)⟩, ⟨(some 9), (some (7, true)), .nilc (.tmp 8)⟩, ⟨(some 10), (some (7, true)), .fld 0 (.tmp 9)⟩, ⟨(some 11), (some (7, true)), .load 2 true (.tmp 10)⟩, ⟨(some 12), (some (7, true)), .mv (.tmp 1)⟩, ⟨(some 13), (some (7, true)), .call 66 [(.tmp 11), (.tmp 12)]⟩, ⟨(some 14), none, .pick (.tmp 7) (.tmp 13) (.const (.bool false))⟩, ⟨(some 4), none, .mv (.tmp 14)⟩])
 .ret))
theorem fn_tables_Tables_is : FnOk Try.prog 78 Try.f78 sc_tables_Tables_is [.tmp 4] 2 := ⟨Try.func78, by kernel_rfl, by kernel_rfl, by kernel_rfl, by kernel_rfl, by kernel_rfl, by kernel_rfl⟩

end Go.Proofs.Ytkephdahbplhfaa
