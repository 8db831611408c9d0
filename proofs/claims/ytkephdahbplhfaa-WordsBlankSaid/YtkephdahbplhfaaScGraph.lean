import Derived.Test.YtkephdahbplhfaaProg
import Derived.Test.YtkephdahbplhfaaAbsG
set_option maxRecDepth 100000
namespace Go.Proofs.Ytkephdahbplhfaa
open Go Abs

/- loop of waymark/graph.Check, wants [1, 22, 23, 24] [] -/
def sc_graph_Check_L0 : SCode :=
 (.seq (.reg [1, 22, 23, 24] [⟨(some 25), none, .bin .lss 3 (.tmp 24) (.tmp 23)⟩])
 (.seq (.cond (.tmp 25) .skip (.exit 1))
 (.seq (.block 2 (.seq (.reg [1, 22, 23, 24] [⟨(some 26), none, .mv (.tmp 24)⟩, ⟨(some 27), none, .ia none 4 (.tmp 22) (.tmp 24)⟩, ⟨(some 28), none, .load 4 true (.tmp 27)⟩, ⟨(some 5), none, .alloc 41 [(.int .i64 0), (.int .i64 0), (.int .i64 0), (.int .i64 0)]⟩, ⟨(some 4), none, .mv (.tmp 26)⟩, ⟨none, none, .store 4 (.tmp 5) (.tmp 28)⟩])
 (.seq (.reg [1, 4, 5, 22, 23, 24] [⟨(some 29), none, .load 2 true (.tmp 1)⟩, ⟨(some 30), none, .load 4 true (.tmp 5)⟩, ⟨(some 31), none, .call 58 [(.tmp 29), (.tmp 30)]⟩, ⟨(some 6), none, .mv (.tmp 31)⟩])
 (.seq (.reg [1, 4, 6, 22, 23, 24] [⟨(some 32), none, .mv (.tmp 6)⟩, ⟨(some 33), none, .bin .neq 26 (.tmp 32) (.const (.int .i64 0))⟩])
 (.cond (.tmp 33) (.seq (.reg [4, 6] [⟨(some 34), none, .mv (.tmp 4)⟩, ⟨(some 35), none, .mv (.tmp 6)⟩, ⟨(some 2), none, .mv (.tmp 34)⟩, ⟨(some 3), none, .mv (.tmp 35)⟩])
 .ret) .skip)))))
 (.reg [1, 22, 23, 24] [⟨(some 36), none, .bin .add 3 (.tmp 24) (.const (.int .i64 1))⟩, ⟨(some 24), none, .mv (.tmp 36)⟩]))))
/- 20 waymark/graph.Check: slots 0 g, 1 g, 4 i, 5 l, 6 e -/
def sc_graph_Check : SCode :=
 (.seq (.reg [0] [⟨(some 1), none, .box 24 (.tmp 0)⟩, ⟨(some 2), none, .mv (.const (.int .i64 0))⟩, ⟨(some 3), none, .mv (.const (.int .i64 0))⟩])
 (.seq (.block 0 (.seq (.reg [1] [⟨(some 8), none, .fld 1 (.tmp 1)⟩, ⟨(some 9), none, .load 1 false (.tmp 8)⟩, ⟨(some 10), none, .len false (.tmp 9)⟩, ⟨(some 11), none, .bin .gtr 3 (.tmp 10) (.const (.int .i64 120))⟩, ⟨(some 7), none, .mv (.tmp 11)⟩])
 (.cond (.tmp 7) (.seq (.reg [] [⟨(some 2), none, .mv (.const (.int .i64 (-1)))⟩, ⟨(some 3), none, .mv (.const (.int .i64 6))⟩])
 .ret) (.seq (.reg [1] [⟨(some 13), none, .fld 0 (.tmp 1)⟩, ⟨(some 14), none, .load 1 false (.tmp 13)⟩, ⟨(some 15), none, .bin .lss 3 (.tmp 14) (.const (.int .i64 1))⟩, ⟨(some 16), none, .mv (.tmp 15)⟩, ⟨(some 17), (some (16, false)), .fld 0 (.tmp 1)⟩, ⟨(some 18), (some (16, false)), .load 1 false (.tmp 17)⟩, ⟨(some 19), (some (16, false)), .bin .gtr 3 (.tmp 18) (.const (.int .i64 40))⟩, ⟨(some 20), none, .pick (.tmp 16) (.const (.bool true)) (.tmp 19)⟩, ⟨(some 12), none, .mv (.tmp 20)⟩])
 (.cond (.tmp 12) (.seq (.reg [] [⟨(some 2), none, .mv (.const (.int .i64 (-1)))⟩, ⟨(some 3), none, .mv (.const (.int .i64 1))⟩])
 .ret) .skip)))))
 (.seq (.seq (.reg [1] [⟨(some 21), none, .fld 1 (.tmp 1)⟩, ⟨(some 22), none, .load 1 false (.tmp 21)⟩, ⟨(some 23), none, .len false (.tmp 22)⟩, ⟨(some 24), none, .mv (.const (.int .i64 0))⟩])
 (.block 1 (.loop [1, 22, 23, 24] [] sc_graph_Check_L0)))
 (.seq (.reg [] [⟨(some 2), none, .mv (.const (.int .i64 (-1)))⟩, ⟨(some 3), none, .mv (.const (.int .i64 0))⟩])
 .ret))))
theorem fn_graph_Check : FnOk Try.prog 20 Try.f20 sc_graph_Check [.tmp 2, .tmp 3] 1 := ⟨Try.func20, by kernel_rfl, by kernel_rfl, by kernel_rfl, by kernel_rfl, by kernel_rfl, by kernel_rfl⟩

/- 22 waymark/graph.Ends: slots 0 g, 1 edge, 2 g, 3 edge, 7 l -/
def sc_graph_Ends : SCode :=
 (.seq (.reg [0, 1] [⟨(some 2), none, .box 24 (.tmp 0)⟩, ⟨(some 4), none, .mv (.const (.int .i64 0))⟩, ⟨(some 5), none, .mv (.const (.int .i64 0))⟩, ⟨(some 6), none, .mv (.const (.bool false))⟩])
 (.seq (.seq (.reg [1, 2] [⟨(some 8), none, .mv (.tmp 1)⟩, ⟨(some 9), none, .bin .lss 3 (.tmp 8) (.const (.int .i64 0))⟩, ⟨(some 10), none, .mv (.tmp 9)⟩, ⟨(some 11), (some (10, false)), .mv (.tmp 1)⟩, ⟨(some 12), (some (10, false)), .bin .quo 3 (.tmp 11) (.const (.int .i64 2))⟩, ⟨(some 13), (some (10, false)), .fld 1 (.tmp 2)⟩, ⟨(some 14), (some (10, false)), .load 1 false (.tmp 13)⟩, ⟨(some 15), (some (10, false)), .len false (.tmp 14)⟩, ⟨(some 16), (some (10, false)), .bin .geq 3 (.tmp 12) (.tmp 15)⟩, ⟨(some 17), none, .pick (.tmp 10) (.const (.bool true)) (.tmp 16)⟩])
 (.cond (.tmp 17) (.seq (.reg [] [⟨(some 4), none, .mv (.const (.int .i64 0))⟩, ⟨(some 5), none, .mv (.const (.int .i64 0))⟩, ⟨(some 6), none, .mv (.const (.bool false))⟩])
 .ret) .skip))
 (.seq (.reg [1, 2] [⟨(some 18), none, .fld 1 (.tmp 2)⟩, ⟨(some 19), none, .load 1 false (.tmp 18)⟩, ⟨(some 20), none, .mv (.tmp 1)⟩, ⟨(some 21), none, .bin .quo 3 (.tmp 20) (.const (.int .i64 2))⟩, ⟨(some 22), none, .ia none 4 (.tmp 19) (.tmp 21)⟩, ⟨(some 23), none, .load 4 true (.tmp 22)⟩, ⟨(some 7), none, .alloc 41 [(.int .i64 0), (.int .i64 0), (.int .i64 0), (.int .i64 0)]⟩, ⟨none, none, .store 4 (.tmp 7) (.tmp 23)⟩])
 (.seq (.seq (.reg [1, 7] [⟨(some 24), none, .mv (.tmp 1)⟩, ⟨(some 25), none, .bin .rem 3 (.tmp 24) (.const (.int .i64 2))⟩, ⟨(some 26), none, .bin .eql 3 (.tmp 25) (.const (.int .i64 1))⟩])
 (.cond (.tmp 26) (.seq (.draw [7] [⟨(some 27), none, .fld 1 (.tmp 7)⟩, ⟨(some 28), none, .load 1 false (.tmp 27)⟩, ⟨(some 29), none, .fld 0 (.tmp 7)⟩, ⟨(some 30), none, .load 1 false (.tmp 29)⟩, ⟨(some 4), none, .mv (.tmp 28)⟩, ⟨(some 5), none, .mv (.tmp 30)⟩, ⟨(some 6), none, .mv (.const (.bool true))⟩])
 .ret) .skip))
 (.seq (.draw [7] [⟨(some 31), none, .fld 0 (.tmp 7)⟩, ⟨(some 32), none, .load 1 false (.tmp 31)⟩, ⟨(some 33), none, .fld 1 (.tmp 7)⟩, ⟨(some 34), none, .load 1 false (.tmp 33)⟩, ⟨(some 4), none, .mv (.tmp 32)⟩, ⟨(some 5), none, .mv (.tmp 34)⟩, ⟨(some 6), none, .mv (.const (.bool true))⟩])
 .ret)))))
theorem fn_graph_Ends : FnOk Try.prog 22 Try.f22 sc_graph_Ends [.tmp 4, .tmp 5, .tmp 6] 2 := ⟨Try.func22, by kernel_rfl, by kernel_rfl, by kernel_rfl, by kernel_rfl, by kernel_rfl, by kernel_rfl⟩

/- loop of waymark/graph.Out, wants [1, 2, 5, 13, 14] [(5, 30, 3, 1)] -/
def sc_graph_Out_L0 : SCode :=
 (.seq (.reg [1, 2, 5, 13, 14] [⟨(some 15), none, .bin .lss 3 (.tmp 14) (.tmp 13)⟩])
 (.seq (.cond (.tmp 15) .skip (.exit 0))
 (.seq (.block 1 (.seq (.reg [1, 2, 5, 13, 14] [⟨(some 16), none, .mv (.tmp 14)⟩, ⟨(some 6), none, .mv (.tmp 16)⟩])
 (.seq (.reg [1, 2, 5, 6, 13, 14] [⟨(some 18), none, .load 2 true (.tmp 2)⟩, ⟨(some 19), none, .mv (.tmp 6)⟩, ⟨(some 20), none, .call 22 [(.tmp 18), (.tmp 19)]⟩, ⟨(some 17), none, .mv (.tmp 20)⟩, ⟨(some 21), none, .ext (.tmp 17) 0⟩, ⟨(some 22), none, .ext (.tmp 17) 1⟩, ⟨(some 23), none, .ext (.tmp 17) 2⟩, ⟨(some 7), none, .mv (.tmp 21)⟩, ⟨(some 8), none, .mv (.tmp 22)⟩, ⟨(some 9), none, .mv (.tmp 23)⟩])
 (.seq (.reg [1, 2, 5, 6, 7, 13, 14] [⟨(some 24), none, .mv (.tmp 7)⟩, ⟨(some 25), none, .mv (.tmp 1)⟩, ⟨(some 26), none, .bin .eql 3 (.tmp 24) (.tmp 25)⟩])
 (.cond (.tmp 26) (.reg [1, 2, 5, 6, 13, 14] [⟨(some 27), none, .mv (.tmp 5)⟩, ⟨(some 28), none, .mv (.tmp 6)⟩, ⟨(some 29), none, .bsl 3 1 [(.int .i64 0)] 1 [(0, 1, (.tmp 28))]⟩, ⟨(some 30), none, .app 35 3 1 8 (.int .i64 0) (.tmp 27) (.tmp 29)⟩, ⟨(some 5), none, .mv (.tmp 30)⟩]) .skip)))))
 (.reg [1, 2, 5, 13, 14] [⟨(some 31), none, .bin .add 3 (.tmp 14) (.const (.int .i64 1))⟩, ⟨(some 14), none, .mv (.tmp 31)⟩]))))
/- 26 waymark/graph.Out: slots 0 g, 1 node, 2 g, 3 node, 5 out, 6 edge, 7 from, 8 _, 9 _ -/
def sc_graph_Out : SCode :=
 (.seq (.reg [0, 1] [⟨(some 2), none, .box 24 (.tmp 0)⟩, ⟨(some 4), none, .mv (.const (.slice none 0 0))⟩])
 (.seq (.reg [1, 2] [⟨(some 5), none, .mv (.const (.slice none 0 0))⟩])
 (.seq (.seq (.reg [1, 2, 5] [⟨(some 10), none, .fld 1 (.tmp 2)⟩, ⟨(some 11), none, .load 1 false (.tmp 10)⟩, ⟨(some 12), none, .len false (.tmp 11)⟩, ⟨(some 13), none, .bin .mul 3 (.const (.int .i64 2)) (.tmp 12)⟩, ⟨(some 14), none, .mv (.const (.int .i64 0))⟩])
 (.block 0 (.loop [1, 2, 5, 13, 14] [(5, 30, 3, 1)] sc_graph_Out_L0)))
 (.seq (.reg [5] [⟨(some 32), none, .mv (.tmp 5)⟩, ⟨(some 4), none, .mv (.tmp 32)⟩])
 .ret))))
theorem fn_graph_Out : FnOk Try.prog 26 Try.f26 sc_graph_Out [.tmp 4] 2 := ⟨Try.func26, by kernel_rfl, by kernel_rfl, by kernel_rfl, by kernel_rfl, by kernel_rfl, by kernel_rfl⟩

/- 28 waymark/graph.Back: slots 0 edge, 1 edge -/
def sc_graph_Back : SCode :=
 (.seq (.reg [0] [⟨(some 2), none, .mv (.const (.int .i64 0))⟩])
 (.seq (.seq (.reg [0] [⟨(some 3), none, .mv (.tmp 0)⟩, ⟨(some 4), none, .bin .lss 3 (.tmp 3) (.const (.int .i64 0))⟩])
 (.cond (.tmp 4) (.seq (.reg [] [⟨(some 2), none, .mv (.const (.int .i64 (-1)))⟩])
 .ret) .skip))
 (.seq (.reg [0] [⟨(some 5), none, .mv (.tmp 0)⟩, ⟨(some 6), none, .bin .xor 3 (.tmp 5) (.const (.int .i64 1))⟩, ⟨(some 2), none, .mv (.tmp 6)⟩])
 .ret)))
theorem fn_graph_Back : FnOk Try.prog 28 Try.f28 sc_graph_Back [.tmp 2] 1 := ⟨Try.func28, by kernel_rfl, by kernel_rfl, by kernel_rfl, by kernel_rfl, by kernel_rfl, by kernel_rfl⟩

/- 58 waymark/graph.link: slots 0 g, 1 l, 2 g, 3 l -/
def sc_graph_link : SCode :=
 (.seq (.reg [0, 1] [⟨(some 2), none, .box 24 (.tmp 0)⟩, ⟨(some 3), none, .box 41 (.tmp 1)⟩, ⟨(some 4), none, .mv (.const (.int .i64 0))⟩])
 (.seq (.block 0 (.seq (.reg [2, 3] [⟨(some 6), none, .load 2 true (.tmp 2)⟩, ⟨(some 7), none, .fld 0 (.tmp 3)⟩, ⟨(some 8), none, .load 1 false (.tmp 7)⟩, ⟨(some 9), none, .call 66 [(.tmp 6), (.tmp 8)]⟩, ⟨(some 10), none, .un .not (.tmp 9)⟩, ⟨(some 11), none, .mv (.tmp 10)⟩, ⟨(some 12), (some (11, false)), .load 2 true (.tmp 2)⟩, ⟨(some 13), (some (11, false)), .fld 1 (.tmp 3)⟩, ⟨(some 14), (some (11, false)), .load 1 false (.tmp 13)⟩, ⟨(some 15), (some (11, false)), .call 66 [(.tmp 12), (.tmp 14)]⟩, ⟨(some 16), (some (11, false)), .un .not (.tmp 15)⟩, ⟨(some 17), none, .pick (.tmp 11) (.const (.bool true)) (.tmp 16)⟩, ⟨(some 18), none, .mv (.tmp 17)⟩, ⟨(some 19), (some (18, false)), .fld 0 (.tmp 3)⟩, ⟨(some 20), (some (18, false)), .load 1 false (.tmp 19)⟩, ⟨(some 21), (some (18, false)), .fld 1 (.tmp 3)⟩, ⟨(some 22), (some (18, false)), .load 1 false (.tmp 21)⟩, ⟨(some 23), (some (18, false)), .bin .eql 3 (.tmp 20) (.tmp 22)⟩, ⟨(some 24), none, .pick (.tmp 18) (.const (.bool true)) (.tmp 23)⟩, ⟨(some 5), none, .mv (.tmp 24)⟩])
 (.cond (.tmp 5) (.seq (.reg [] [⟨(some 4), none, .mv (.const (.int .i64 4))⟩])
 .ret) (.seq (.reg [3] [⟨(some 26), none, .fld 2 (.tmp 3)⟩, ⟨(some 27), none, .load 1 false (.tmp 26)⟩, ⟨(some 28), none, .bin .lss 3 (.tmp 27) (.const (.int .i64 1))⟩, ⟨(some 29), none, .mv (.tmp 28)⟩, ⟨(some 30), (some (29, false)), .fld 2 (.tmp 3)⟩, ⟨(some 31), (some (29, false)), .load 1 false (.tmp 30)⟩, ⟨(some 32), (some (29, false)), .bin .gtr 3 (.tmp 31) (.const (.int .i64 16777216))⟩, ⟨(some 33), none, .pick (.tmp 29) (.const (.bool true)) (.tmp 32)⟩, ⟨(some 34), none, .mv (.tmp 33)⟩, ⟨(some 35), (some (34, false)), .fld 3 (.tmp 3)⟩, ⟨(some 36), (some (34, false)), .load 1 false (.tmp 35)⟩, ⟨(some 37), (some (34, false)), .bin .lss 3 (.tmp 36) (.const (.int .i64 0))⟩, ⟨(some 38), none, .pick (.tmp 34) (.const (.bool true)) (.tmp 37)⟩, ⟨(some 39), none, .mv (.tmp 38)⟩, ⟨(some 40), (some (39, false)), .fld 3 (.tmp 3)⟩, ⟨(some 41), (some (39, false)), .load 1 false (.tmp 40)⟩, ⟨(some 42), (some (39, false)), .bin .gtr 3 (.tmp 41) (.const (.int .i64 62))⟩, ⟨(some 43), none, .pick (.tmp 39) (.const (.bool true)) (.tmp 42)⟩, ⟨(some 25), none, .mv (.tmp 43)⟩])
 (.cond (.tmp 25) (.seq (.reg [] [⟨(some 4), none, .mv (.const (.int .i64 1))⟩])
 .ret) .skip)))))
 (.seq (.reg [] [⟨(some 4), none, .mv (.const (.int .i64 0))⟩])
 .ret)))
theorem fn_graph_link : FnOk Try.prog 58 Try.f58 sc_graph_link [.tmp 4] 2 := ⟨Try.func58, by kernel_rfl, by kernel_rfl, by kernel_rfl, by kernel_rfl, by kernel_rfl, by kernel_rfl⟩

/- 66 waymark/graph.Is: slots 0 g, 1 node, 2 g, 3 node -/
def sc_graph_Is : SCode :=
 (.seq (.reg [0, 1] [⟨(some 2), none, .box 24 (.tmp 0)⟩, ⟨(some 4), none, .mv (.const (.bool false))⟩])
 (.seq (.reg [1, 2] [⟨(some 5), none, .mv (.tmp 1)⟩, ⟨(some 6), none, .bin .geq 3 (.tmp 5) (.const (.int .i64 0))⟩, ⟨(some 7), none, .mv (.tmp 6)⟩, ⟨(some 8), (some (7, true)), .mv (.tmp 1)⟩, ⟨(some 9), (some (7, true)), .fld 0 (.tmp 2)⟩, ⟨(some 10), (some (7, true)), .load 1 false (.tmp 9)⟩, ⟨(some 11), (some (7, true)), .bin .lss 3 (.tmp 8) (.tmp 10)⟩, ⟨(some 12), none, .pick (.tmp 7) (.tmp 11) (.const (.bool false))⟩, ⟨(some 4), none, .mv (.tmp 12)⟩])
 .ret))
theorem fn_graph_Is : FnOk Try.prog 66 Try.f66 sc_graph_Is [.tmp 4] 2 := ⟨Try.func66, by kernel_rfl, by kernel_rfl, by kernel_rfl, by kernel_rfl, by kernel_rfl, by kernel_rfl⟩

/- 73 waymark/graph.Right: slots 0 g, 1 g, 3 _, 4 e -/
def sc_graph_Right : SCode :=
 (.seq (.reg [0] [⟨(some 1), none, .box 24 (.tmp 0)⟩, ⟨(some 2), none, .mv (.const (.bool false))⟩])
 (.seq (.reg [1] [⟨(some 6), none, .load 2 true (.tmp 1)⟩, ⟨(some 7), none, .call 20 [(.tmp 6)]⟩, ⟨(some 5), none, .mv (.tmp 7)⟩, ⟨(some 8), none, .ext (.tmp 5) 0⟩, ⟨(some 9), none, .ext (.tmp 5) 1⟩, ⟨(some 3), none, .mv (.tmp 8)⟩, ⟨(some 4), none, .mv (.tmp 9)⟩])
 (.seq (.reg [4] [⟨(some 10), none, .mv (.tmp 4)⟩, ⟨(some 11), none, .bin .eql 26 (.tmp 10) (.const (.int .i64 0))⟩, ⟨(some 2), none, .mv (.tmp 11)⟩])
 .ret)))
theorem fn_graph_Right : FnOk Try.prog 73 Try.f73 sc_graph_Right [.tmp 2] 1 := ⟨Try.func73, by kernel_rfl, by kernel_rfl, by kernel_rfl, by kernel_rfl, by kernel_rfl, by kernel_rfl⟩

end Go.Proofs.Ytkephdahbplhfaa
