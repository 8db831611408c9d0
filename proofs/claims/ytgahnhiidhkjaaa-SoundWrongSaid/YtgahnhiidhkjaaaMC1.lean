import Derived.Test.YtgahnhiidhkjaaaProg
import Derived.Test.YtgahnhiidhkjaaaAbsG
set_option maxRecDepth 100000
section
namespace Go.Proofs.Ytgahnhiidhkjaaa
open Go Abs

/- loop of waymark/classify.First, wants [5, 6, 12, 13, 14] [] -/
def sc_classify_First_L0 : SCode :=
 (.seq (.reg [5, 6, 12, 13, 14] [⟨(some 15), none, .bin .lss 3 (.tmp 14) (.tmp 13)⟩])
 (.seq (.cond (.tmp 15) .skip (.exit 0))
 (.seq (.block 1 (.seq (.reg [5, 6, 12, 13, 14] [⟨(some 16), none, .ia none 17 (.tmp 12) (.tmp 14)⟩, ⟨(some 17), none, .load 17 true (.tmp 16)⟩, ⟨(some 9), none, .alloc 36 [(.string ⟨#[]⟩), (.int .i64 0), (.int .u32 0), (.int .i64 0), (.int .u32 0), (.int .i64 0), (.int .i64 0), (.int .i64 0), (.int .i64 0), (.int .i64 0), (.int .i64 0), (.int .i64 0), (.slice none 0 0), (.slice none 0 0), (.slice none 0 0), (.slice none 0 0), (.bool false)]⟩, ⟨none, none, .store 17 (.tmp 9) (.tmp 17)⟩])
 (.seq (.reg [5, 6, 9, 12, 13, 14] [⟨(some 18), none, .fld 2 (.tmp 9)⟩, ⟨(some 19), none, .load 7 true (.tmp 18)⟩, ⟨(some 20), none, .load 5 true (.tmp 5)⟩, ⟨(some 21), none, .call 44 [(.tmp 19), (.tmp 20)]⟩])
 (.cond (.tmp 21) (.seq (.reg [6, 9] [⟨(some 22), none, .load 17 true (.tmp 9)⟩, ⟨none, none, .store 17 (.tmp 6) (.tmp 22)⟩, ⟨(some 7), none, .mv (.const (.bool true))⟩])
 .ret) .skip))))
 (.reg [5, 6, 12, 13, 14] [⟨(some 23), none, .bin .add 3 (.tmp 14) (.const (.int .i64 1))⟩, ⟨(some 14), none, .mv (.tmp 23)⟩]))))
/- 14 waymark/classify.First: slots 0 l, 1 node, 2 t, 3 l, 4 node, 5 t, 8 _, 9 r -/
def sc_classify_First : SCode :=
 (.seq (.reg [0, 1, 2] [⟨(some 5), none, .box 25 (.tmp 2)⟩, ⟨(some 6), none, .alloc 36 [(.string ⟨#[]⟩), (.int .i64 0), (.int .u32 0), (.int .i64 0), (.int .u32 0), (.int .i64 0), (.int .i64 0), (.int .i64 0), (.int .i64 0), (.int .i64 0), (.int .i64 0), (.int .i64 0), (.slice none 0 0), (.slice none 0 0), (.slice none 0 0), (.slice none 0 0), (.bool false)]⟩, ⟨(some 7), none, .mv (.const (.bool false))⟩])
 (.seq (.seq (.reg [0, 1, 5, 6] [⟨(some 10), none, .mv (.tmp 0)⟩, ⟨(some 11), none, .mv (.tmp 1)⟩, ⟨(some 12), none, .call 42 [(.tmp 10), (.tmp 11)]⟩, ⟨(some 13), none, .len false (.tmp 12)⟩, ⟨(some 14), none, .mv (.const (.int .i64 0))⟩])
 (.block 0 (.loop [5, 6, 12, 13, 14] [] sc_classify_First_L0)))
 (.seq (.reg [6] [⟨(some 24), none, .build [(.string ⟨#[]⟩), (.int .i64 0), (.int .u32 0), (.int .i64 0), (.int .u32 0), (.int .i64 0), (.int .i64 0), (.int .i64 0), (.int .i64 0), (.int .i64 0), (.int .i64 0), (.int .i64 0), (.slice none 0 0), (.slice none 0 0), (.slice none 0 0), (.slice none 0 0), (.bool false)] []⟩, ⟨none, none, .store 17 (.tmp 6) (.tmp 24)⟩, ⟨(some 7), none, .mv (.const (.bool false))⟩])
 .ret)))
theorem fn_classify_First : FnOk Try.prog 14 Try.f14 sc_classify_First [.cell 6 17 true, .tmp 7] 3 := ⟨Try.func14, by kernel_rfl, by kernel_rfl, by kernel_rfl, by kernel_rfl, by kernel_rfl, by kernel_rfl⟩

end Go.Proofs.Ytgahnhiidhkjaaa
end

section
namespace Go.Proofs.Ytgahnhiidhkjaaa
open Go Abs

/- 64 cmp.Compare[int]: slots 0 x, 1 y, 2 x, 3 y, 5 xNaN, 6 yNaN -/
def sc_cmp_Compare_int : SCode :=
 (.seq (.reg [0, 1] [⟨(some 4), none, .mv (.const (.int .i64 0))⟩])
 (.seq (.reg [0, 1] [⟨(some 7), none, .mv (.tmp 0)⟩, ⟨(some 8), none, .call 85 [(.tmp 7)]⟩, ⟨(some 5), none, .mv (.tmp 8)⟩])
 (.seq (.reg [0, 1, 5] [⟨(some 9), none, .mv (.tmp 1)⟩, ⟨(some 10), none, .call 85 [(.tmp 9)]⟩, ⟨(some 6), none, .mv (.tmp 10)⟩])
 (.seq (.seq (.reg [0, 1, 5, 6] [⟨(some 11), none, .mv (.tmp 5)⟩])
 (.cond (.tmp 11) (.seq (.seq (.reg [6] [⟨(some 12), none, .mv (.tmp 6)⟩])
 (.cond (.tmp 12) (.seq (.reg [] [⟨(some 4), none, .mv (.const (.int .i64 0))⟩])
 .ret) .skip))
 (.seq (.reg [] [⟨(some 4), none, .mv (.const (.int .i64 (-1)))⟩])
 .ret)) .skip))
 (.seq (.seq (.reg [0, 1, 6] [⟨(some 13), none, .mv (.tmp 6)⟩])
 (.cond (.tmp 13) (.seq (.reg [] [⟨(some 4), none, .mv (.const (.int .i64 1))⟩])
 .ret) .skip))
 (.seq (.seq (.reg [0, 1] [⟨(some 14), none, .mv (.tmp 0)⟩, ⟨(some 15), none, .mv (.tmp 1)⟩, ⟨(some 16), none, .bin .lss 3 (.tmp 14) (.tmp 15)⟩])
 (.cond (.tmp 16) (.seq (.reg [] [⟨(some 4), none, .mv (.const (.int .i64 (-1)))⟩])
 .ret) .skip))
 (.seq (.seq (.reg [0, 1] [⟨(some 17), none, .mv (.tmp 0)⟩, ⟨(some 18), none, .mv (.tmp 1)⟩, ⟨(some 19), none, .bin .gtr 3 (.tmp 17) (.tmp 18)⟩])
 (.cond (.tmp 19) (.seq (.reg [] [⟨(some 4), none, .mv (.const (.int .i64 1))⟩])
 .ret) .skip))
 (.seq (.reg [] [⟨(some 4), none, .mv (.const (.int .i64 0))⟩])
 .ret))))))))
theorem fn_cmp_Compare_int : FnOk Try.prog 64 Try.f64 sc_cmp_Compare_int [.tmp 4] 2 := ⟨Try.func64, by kernel_rfl, by kernel_rfl, by kernel_rfl, by kernel_rfl, by kernel_rfl, by kernel_rfl⟩

/- 85 cmp.isNaN[int]: slots 0 x, 1 x -/
def sc_cmp_isNaN_int : SCode :=
 (.seq (.reg [0] [⟨(some 2), none, .mv (.const (.bool false))⟩])
 (.seq (.reg [0] [⟨(some 3), none, .mv (.tmp 0)⟩, ⟨(some 4), none, .mv (.tmp 0)⟩, ⟨(some 5), none, .bin .neq 3 (.tmp 3) (.tmp 4)⟩, ⟨(some 2), none, .mv (.tmp 5)⟩])
 .ret))
theorem fn_cmp_isNaN_int : FnOk Try.prog 85 Try.f85 sc_cmp_isNaN_int [.tmp 2] 1 := ⟨Try.func85, by kernel_rfl, by kernel_rfl, by kernel_rfl, by kernel_rfl, by kernel_rfl, by kernel_rfl⟩

end Go.Proofs.Ytgahnhiidhkjaaa
end

section
namespace Go.Proofs.Ytgahnhiidhkjaaa
open Go Abs

/- loop of waymark/graph.Check, wants [1, 22, 23, 24] [] -/
def sc_graph_Check_L0 : SCode :=
 (.seq (.reg [1, 22, 23, 24] [⟨(some 25), none, .bin .lss 3 (.tmp 24) (.tmp 23)⟩])
 (.seq (.cond (.tmp 25) .skip (.exit 1))
 (.seq (.block 2 (.seq (.reg [1, 22, 23, 24] [⟨(some 26), none, .mv (.tmp 24)⟩, ⟨(some 27), none, .ia none 4 (.tmp 22) (.tmp 24)⟩, ⟨(some 28), none, .load 4 true (.tmp 27)⟩, ⟨(some 5), none, .alloc 57 [(.int .i64 0), (.int .i64 0), (.int .i64 0), (.int .i64 0)]⟩, ⟨(some 4), none, .mv (.tmp 26)⟩, ⟨none, none, .store 4 (.tmp 5) (.tmp 28)⟩])
 (.seq (.reg [1, 4, 5, 22, 23, 24] [⟨(some 29), none, .load 2 true (.tmp 1)⟩, ⟨(some 30), none, .load 4 true (.tmp 5)⟩, ⟨(some 31), none, .call 76 [(.tmp 29), (.tmp 30)]⟩, ⟨(some 6), none, .mv (.tmp 31)⟩])
 (.seq (.reg [1, 4, 6, 22, 23, 24] [⟨(some 32), none, .mv (.tmp 6)⟩, ⟨(some 33), none, .bin .neq 49 (.tmp 32) (.const (.int .i64 0))⟩])
 (.cond (.tmp 33) (.seq (.reg [4, 6] [⟨(some 34), none, .mv (.tmp 4)⟩, ⟨(some 35), none, .mv (.tmp 6)⟩, ⟨(some 2), none, .mv (.tmp 34)⟩, ⟨(some 3), none, .mv (.tmp 35)⟩])
 .ret) .skip)))))
 (.reg [1, 22, 23, 24] [⟨(some 36), none, .bin .add 3 (.tmp 24) (.const (.int .i64 1))⟩, ⟨(some 24), none, .mv (.tmp 36)⟩]))))
/- 58 waymark/graph.Check: slots 0 g, 1 g, 4 i, 5 l, 6 e -/
def sc_graph_Check : SCode :=
 (.seq (.reg [0] [⟨(some 1), none, .box 44 (.tmp 0)⟩, ⟨(some 2), none, .mv (.const (.int .i64 0))⟩, ⟨(some 3), none, .mv (.const (.int .i64 0))⟩])
 (.seq (.block 0 (.seq (.reg [1] [⟨(some 8), none, .fld 1 (.tmp 1)⟩, ⟨(some 9), none, .load 1 false (.tmp 8)⟩, ⟨(some 10), none, .len false (.tmp 9)⟩, ⟨(some 11), none, .bin .gtr 3 (.tmp 10) (.const (.int .i64 120))⟩, ⟨(some 7), none, .mv (.tmp 11)⟩])
 (.cond (.tmp 7) (.seq (.reg [] [⟨(some 2), none, .mv (.const (.int .i64 (-1)))⟩, ⟨(some 3), none, .mv (.const (.int .i64 6))⟩])
 .ret) (.seq (.reg [1] [⟨(some 13), none, .fld 0 (.tmp 1)⟩, ⟨(some 14), none, .load 1 false (.tmp 13)⟩, ⟨(some 15), none, .bin .lss 3 (.tmp 14) (.const (.int .i64 1))⟩, ⟨(some 16), none, .mv (.tmp 15)⟩, ⟨(some 17), (some (16, false)), .fld 0 (.tmp 1)⟩, ⟨(some 18), (some (16, false)), .load 1 false (.tmp 17)⟩, ⟨(some 19), (some (16, false)), .bin .gtr 3 (.tmp 18) (.const (.int .i64 40))⟩, ⟨(some 20), none, .pick (.tmp 16) (.const (.bool true)) (.tmp 19)⟩, ⟨(some 12), none, .mv (.tmp 20)⟩])
 (.cond (.tmp 12) (.seq (.reg [] [⟨(some 2), none, .mv (.const (.int .i64 (-1)))⟩, ⟨(some 3), none, .mv (.const (.int .i64 1))⟩])
 .ret) .skip)))))
 (.seq (.seq (.reg [1] [⟨(some 21), none, .fld 1 (.tmp 1)⟩, ⟨(some 22), none, .load 1 false (.tmp 21)⟩, ⟨(some 23), none, .len false (.tmp 22)⟩, ⟨(some 24), none, .mv (.const (.int .i64 0))⟩])
 (.block 1 (.loop [1, 22, 23, 24] [] sc_graph_Check_L0)))
 (.seq (.reg [] [⟨(some 2), none, .mv (.const (.int .i64 (-1)))⟩, ⟨(some 3), none, .mv (.const (.int .i64 0))⟩])
 .ret))))
theorem fn_graph_Check : FnOk Try.prog 58 Try.f58 sc_graph_Check [.tmp 2, .tmp 3] 1 := ⟨Try.func58, by kernel_rfl, by kernel_rfl, by kernel_rfl, by kernel_rfl, by kernel_rfl, by kernel_rfl⟩

/- 72 waymark/graph.Is: slots 0 g, 1 node, 2 g, 3 node -/
def sc_graph_Is : SCode :=
 (.seq (.reg [0, 1] [⟨(some 2), none, .box 44 (.tmp 0)⟩, ⟨(some 4), none, .mv (.const (.bool false))⟩])
 (.seq (.reg [1, 2] [⟨(some 5), none, .mv (.tmp 1)⟩, ⟨(some 6), none, .bin .geq 3 (.tmp 5) (.const (.int .i64 0))⟩, ⟨(some 7), none, .mv (.tmp 6)⟩, ⟨(some 8), (some (7, true)), .mv (.tmp 1)⟩, ⟨(some 9), (some (7, true)), .fld 0 (.tmp 2)⟩, ⟨(some 10), (some (7, true)), .load 1 false (.tmp 9)⟩, ⟨(some 11), (some (7, true)), .bin .lss 3 (.tmp 8) (.tmp 10)⟩, ⟨(some 12), none, .pick (.tmp 7) (.tmp 11) (.const (.bool false))⟩, ⟨(some 4), none, .mv (.tmp 12)⟩])
 .ret))
theorem fn_graph_Is : FnOk Try.prog 72 Try.f72 sc_graph_Is [.tmp 4] 2 := ⟨Try.func72, by kernel_rfl, by kernel_rfl, by kernel_rfl, by kernel_rfl, by kernel_rfl, by kernel_rfl⟩

/- 73 waymark/graph.Ends: slots 0 g, 1 edge, 2 g, 3 edge, 7 l -/
def sc_graph_Ends : SCode :=
 (.seq (.reg [0, 1] [⟨(some 2), none, .box 44 (.tmp 0)⟩, ⟨(some 4), none, .mv (.const (.int .i64 0))⟩, ⟨(some 5), none, .mv (.const (.int .i64 0))⟩, ⟨(some 6), none, .mv (.const (.bool false))⟩])
 (.seq (.seq (.reg [1, 2] [⟨(some 8), none, .mv (.tmp 1)⟩, ⟨(some 9), none, .bin .lss 3 (.tmp 8) (.const (.int .i64 0))⟩, ⟨(some 10), none, .mv (.tmp 9)⟩, ⟨(some 11), (some (10, false)), .mv (.tmp 1)⟩, ⟨(some 12), (some (10, false)), .bin .quo 3 (.tmp 11) (.const (.int .i64 2))⟩, ⟨(some 13), (some (10, false)), .fld 1 (.tmp 2)⟩, ⟨(some 14), (some (10, false)), .load 1 false (.tmp 13)⟩, ⟨(some 15), (some (10, false)), .len false (.tmp 14)⟩, ⟨(some 16), (some (10, false)), .bin .geq 3 (.tmp 12) (.tmp 15)⟩, ⟨(some 17), none, .pick (.tmp 10) (.const (.bool true)) (.tmp 16)⟩])
 (.cond (.tmp 17) (.seq (.reg [] [⟨(some 4), none, .mv (.const (.int .i64 0))⟩, ⟨(some 5), none, .mv (.const (.int .i64 0))⟩, ⟨(some 6), none, .mv (.const (.bool false))⟩])
 .ret) .skip))
 (.seq (.reg [1, 2] [⟨(some 18), none, .fld 1 (.tmp 2)⟩, ⟨(some 19), none, .load 1 false (.tmp 18)⟩, ⟨(some 20), none, .mv (.tmp 1)⟩, ⟨(some 21), none, .bin .quo 3 (.tmp 20) (.const (.int .i64 2))⟩, ⟨(some 22), none, .ia none 4 (.tmp 19) (.tmp 21)⟩, ⟨(some 23), none, .load 4 true (.tmp 22)⟩, ⟨(some 7), none, .alloc 57 [(.int .i64 0), (.int .i64 0), (.int .i64 0), (.int .i64 0)]⟩, ⟨none, none, .store 4 (.tmp 7) (.tmp 23)⟩])
 (.seq (.seq (.reg [1, 7] [⟨(some 24), none, .mv (.tmp 1)⟩, ⟨(some 25), none, .bin .rem 3 (.tmp 24) (.const (.int .i64 2))⟩, ⟨(some 26), none, .bin .eql 3 (.tmp 25) (.const (.int .i64 1))⟩])
 (.cond (.tmp 26) (.seq (.draw [7] [⟨(some 27), none, .fld 1 (.tmp 7)⟩, ⟨(some 28), none, .load 1 false (.tmp 27)⟩, ⟨(some 29), none, .fld 0 (.tmp 7)⟩, ⟨(some 30), none, .load 1 false (.tmp 29)⟩, ⟨(some 4), none, .mv (.tmp 28)⟩, ⟨(some 5), none, .mv (.tmp 30)⟩, ⟨(some 6), none, .mv (.const (.bool true))⟩])
 .ret) .skip))
 (.seq (.draw [7] [⟨(some 31), none, .fld 0 (.tmp 7)⟩, ⟨(some 32), none, .load 1 false (.tmp 31)⟩, ⟨(some 33), none, .fld 1 (.tmp 7)⟩, ⟨(some 34), none, .load 1 false (.tmp 33)⟩, ⟨(some 4), none, .mv (.tmp 32)⟩, ⟨(some 5), none, .mv (.tmp 34)⟩, ⟨(some 6), none, .mv (.const (.bool true))⟩])
 .ret)))))
theorem fn_graph_Ends : FnOk Try.prog 73 Try.f73 sc_graph_Ends [.tmp 4, .tmp 5, .tmp 6] 2 := ⟨Try.func73, by kernel_rfl, by kernel_rfl, by kernel_rfl, by kernel_rfl, by kernel_rfl, by kernel_rfl⟩

/- 76 waymark/graph.link: slots 0 g, 1 l, 2 g, 3 l -/
def sc_graph_link : SCode :=
 (.seq (.reg [0, 1] [⟨(some 2), none, .box 44 (.tmp 0)⟩, ⟨(some 3), none, .box 57 (.tmp 1)⟩, ⟨(some 4), none, .mv (.const (.int .i64 0))⟩])
 (.seq (.block 0 (.seq (.reg [2, 3] [⟨(some 6), none, .load 2 true (.tmp 2)⟩, ⟨(some 7), none, .fld 0 (.tmp 3)⟩, ⟨(some 8), none, .load 1 false (.tmp 7)⟩, ⟨(some 9), none, .call 72 [(.tmp 6), (.tmp 8)]⟩, ⟨(some 10), none, .un .not (.tmp 9)⟩, ⟨(some 11), none, .mv (.tmp 10)⟩, ⟨(some 12), (some (11, false)), .load 2 true (.tmp 2)⟩, ⟨(some 13), (some (11, false)), .fld 1 (.tmp 3)⟩, ⟨(some 14), (some (11, false)), .load 1 false (.tmp 13)⟩, ⟨(some 15), (some (11, false)), .call 72 [(.tmp 12), (.tmp 14)]⟩, ⟨(some 16), (some (11, false)), .un .not (.tmp 15)⟩, ⟨(some 17), none, .pick (.tmp 11) (.const (.bool true)) (.tmp 16)⟩, ⟨(some 18), none, .mv (.tmp 17)⟩, ⟨(some 19), (some (18, false)), .fld 0 (.tmp 3)⟩, ⟨(some 20), (some (18, false)), .load 1 false (.tmp 19)⟩, ⟨(some 21), (some (18, false)), .fld 1 (.tmp 3)⟩, ⟨(some 22), (some (18, false)), .load 1 false (.tmp 21)⟩, ⟨(some 23), (some (18, false)), .bin .eql 3 (.tmp 20) (.tmp 22)⟩, ⟨(some 24), none, .pick (.tmp 18) (.const (.bool true)) (.tmp 23)⟩, ⟨(some 5), none, .mv (.tmp 24)⟩])
 (.cond (.tmp 5) (.seq (.reg [] [⟨(some 4), none, .mv (.const (.int .i64 4))⟩])
 .ret) (.seq (.reg [3] [⟨(some 26), none, .fld 2 (.tmp 3)⟩, ⟨(some 27), none, .load 1 false (.tmp 26)⟩, ⟨(some 28), none, .bin .lss 3 (.tmp 27) (.const (.int .i64 1))⟩, ⟨(some 29), none, .mv (.tmp 28)⟩, ⟨(some 30), (some (29, false)), .fld 2 (.tmp 3)⟩, ⟨(some 31), (some (29, false)), .load 1 false (.tmp 30)⟩, ⟨(some 32), (some (29, false)), .bin .gtr 3 (.tmp 31) (.const (.int .i64 16777216))⟩, ⟨(some 33), none, .pick (.tmp 29) (.const (.bool true)) (.tmp 32)⟩, ⟨(some 34), none, .mv (.tmp 33)⟩, ⟨(some 35), (some (34, false)), .fld 3 (.tmp 3)⟩, ⟨(some 36), (some (34, false)), .load 1 false (.tmp 35)⟩, ⟨(some 37), (some (34, false)), .bin .lss 3 (.tmp 36) (.const (.int .i64 0))⟩, ⟨(some 38), none, .pick (.tmp 34) (.const (.bool true)) (.tmp 37)⟩, ⟨(some 39), none, .mv (.tmp 38)⟩, ⟨(some 40), (some (39, false)), .fld 3 (.tmp 3)⟩, ⟨(some 41), (some (39, false)), .load 1 false (.tmp 40)⟩, ⟨(some 42), (some (39, false)), .bin .gtr 3 (.tmp 41) (.const (.int .i64 62))⟩, ⟨(some 43), none, .pick (.tmp 39) (.const (.bool true)) (.tmp 42)⟩, ⟨(some 25), none, .mv (.tmp 43)⟩])
 (.cond (.tmp 25) (.seq (.reg [] [⟨(some 4), none, .mv (.const (.int .i64 1))⟩])
 .ret) .skip)))))
 (.seq (.reg [] [⟨(some 4), none, .mv (.const (.int .i64 0))⟩])
 .ret)))
theorem fn_graph_link : FnOk Try.prog 76 Try.f76 sc_graph_link [.tmp 4] 2 := ⟨Try.func76, by kernel_rfl, by kernel_rfl, by kernel_rfl, by kernel_rfl, by kernel_rfl, by kernel_rfl⟩

/- 103 waymark/graph.Right: slots 0 g, 1 g, 3 _, 4 e -/
def sc_graph_Right : SCode :=
 (.seq (.reg [0] [⟨(some 1), none, .box 44 (.tmp 0)⟩, ⟨(some 2), none, .mv (.const (.bool false))⟩])
 (.seq (.reg [1] [⟨(some 6), none, .load 2 true (.tmp 1)⟩, ⟨(some 7), none, .call 58 [(.tmp 6)]⟩, ⟨(some 5), none, .mv (.tmp 7)⟩, ⟨(some 8), none, .ext (.tmp 5) 0⟩, ⟨(some 9), none, .ext (.tmp 5) 1⟩, ⟨(some 3), none, .mv (.tmp 8)⟩, ⟨(some 4), none, .mv (.tmp 9)⟩])
 (.seq (.reg [4] [⟨(some 10), none, .mv (.tmp 4)⟩, ⟨(some 11), none, .bin .eql 49 (.tmp 10) (.const (.int .i64 0))⟩, ⟨(some 2), none, .mv (.tmp 11)⟩])
 .ret)))
theorem fn_graph_Right : FnOk Try.prog 103 Try.f103 sc_graph_Right [.tmp 2] 1 := ⟨Try.func103, by kernel_rfl, by kernel_rfl, by kernel_rfl, by kernel_rfl, by kernel_rfl, by kernel_rfl⟩

/- loop of waymark/graph.Out, wants [1, 2, 5, 13, 14] [(5, 30, 3, 1)] -/
def sc_graph_Out_L0 : SCode :=
 (.seq (.reg [1, 2, 5, 13, 14] [⟨(some 15), none, .bin .lss 3 (.tmp 14) (.tmp 13)⟩])
 (.seq (.cond (.tmp 15) .skip (.exit 0))
 (.seq (.block 1 (.seq (.reg [1, 2, 5, 13, 14] [⟨(some 16), none, .mv (.tmp 14)⟩, ⟨(some 6), none, .mv (.tmp 16)⟩])
 (.seq (.reg [1, 2, 5, 6, 13, 14] [⟨(some 18), none, .load 2 true (.tmp 2)⟩, ⟨(some 19), none, .mv (.tmp 6)⟩, ⟨(some 20), none, .call 73 [(.tmp 18), (.tmp 19)]⟩, ⟨(some 17), none, .mv (.tmp 20)⟩, ⟨(some 21), none, .ext (.tmp 17) 0⟩, ⟨(some 22), none, .ext (.tmp 17) 1⟩, ⟨(some 23), none, .ext (.tmp 17) 2⟩, ⟨(some 7), none, .mv (.tmp 21)⟩, ⟨(some 8), none, .mv (.tmp 22)⟩, ⟨(some 9), none, .mv (.tmp 23)⟩])
 (.seq (.reg [1, 2, 5, 6, 7, 13, 14] [⟨(some 24), none, .mv (.tmp 7)⟩, ⟨(some 25), none, .mv (.tmp 1)⟩, ⟨(some 26), none, .bin .eql 3 (.tmp 24) (.tmp 25)⟩])
 (.cond (.tmp 26) (.reg [1, 2, 5, 6, 13, 14] [⟨(some 27), none, .mv (.tmp 5)⟩, ⟨(some 28), none, .mv (.tmp 6)⟩, ⟨(some 29), none, .bsl 3 1 [(.int .i64 0)] 1 [(0, 1, (.tmp 28))]⟩, ⟨(some 30), none, .app 32 3 1 8 (.int .i64 0) (.tmp 27) (.tmp 29)⟩, ⟨(some 5), none, .mv (.tmp 30)⟩]) .skip)))))
 (.reg [1, 2, 5, 13, 14] [⟨(some 31), none, .bin .add 3 (.tmp 14) (.const (.int .i64 1))⟩, ⟨(some 14), none, .mv (.tmp 31)⟩]))))
/- 106 waymark/graph.Out: slots 0 g, 1 node, 2 g, 3 node, 5 out, 6 edge, 7 from, 8 _, 9 _ -/
def sc_graph_Out : SCode :=
 (.seq (.reg [0, 1] [⟨(some 2), none, .box 44 (.tmp 0)⟩, ⟨(some 4), none, .mv (.const (.slice none 0 0))⟩])
 (.seq (.reg [1, 2] [⟨(some 5), none, .mv (.const (.slice none 0 0))⟩])
 (.seq (.seq (.reg [1, 2, 5] [⟨(some 10), none, .fld 1 (.tmp 2)⟩, ⟨(some 11), none, .load 1 false (.tmp 10)⟩, ⟨(some 12), none, .len false (.tmp 11)⟩, ⟨(some 13), none, .bin .mul 3 (.const (.int .i64 2)) (.tmp 12)⟩, ⟨(some 14), none, .mv (.const (.int .i64 0))⟩])
 (.block 0 (.loop [1, 2, 5, 13, 14] [(5, 30, 3, 1)] sc_graph_Out_L0)))
 (.seq (.reg [5] [⟨(some 32), none, .mv (.tmp 5)⟩, ⟨(some 4), none, .mv (.tmp 32)⟩])
 .ret))))
theorem fn_graph_Out : FnOk Try.prog 106 Try.f106 sc_graph_Out [.tmp 4] 2 := ⟨Try.func106, by kernel_rfl, by kernel_rfl, by kernel_rfl, by kernel_rfl, by kernel_rfl, by kernel_rfl⟩

end Go.Proofs.Ytgahnhiidhkjaaa
end

section
namespace Go.Proofs.Ytgahnhiidhkjaaa
open Go Abs

/- loop of (*waymark/heap.Heap).Push, wants [0, 6] [] -/
def sc_heap_Heap_Push_L0 : SCode :=
 (.seq (.seq (.reg [0, 6] [⟨(some 28), none, .mv (.tmp 6)⟩, ⟨(some 29), none, .bin .gtr 3 (.tmp 28) (.const (.int .i64 0))⟩])
 (.cond (.tmp 29) .skip (.exit 0)))
 (.block 1 (.seq (.reg [0, 6] [⟨(some 30), none, .mv (.tmp 6)⟩, ⟨(some 31), none, .bin .sub 3 (.tmp 30) (.const (.int .i64 1))⟩, ⟨(some 32), none, .bin .quo 3 (.tmp 31) (.const (.int .i64 2))⟩, ⟨(some 7), none, .mv (.tmp 32)⟩])
 (.seq (.seq (.draw [0, 6, 7] [⟨(some 33), none, .mv (.tmp 0)⟩, ⟨(some 34), none, .nilc (.tmp 33)⟩, ⟨(some 35), none, .fld 0 (.tmp 34)⟩, ⟨(some 36), none, .load 1 false (.tmp 35)⟩, ⟨(some 37), none, .mv (.tmp 6)⟩, ⟨(some 38), none, .ia none 2 (.tmp 36) (.tmp 37)⟩, ⟨(some 39), none, .load 2 true (.tmp 38)⟩, ⟨(some 40), none, .mv (.tmp 0)⟩, ⟨(some 41), none, .nilc (.tmp 40)⟩, ⟨(some 42), none, .fld 0 (.tmp 41)⟩, ⟨(some 43), none, .load 1 false (.tmp 42)⟩, ⟨(some 44), none, .mv (.tmp 7)⟩, ⟨(some 45), none, .ia none 2 (.tmp 43) (.tmp 44)⟩, ⟨(some 46), none, .load 2 true (.tmp 45)⟩, ⟨(some 47), none, .call 109 [(.tmp 39), (.tmp 46)]⟩, ⟨(some 48), none, .un .not (.tmp 47)⟩])
 (.cond (.tmp 48) .ret .skip))
 (.seq (.draw [0, 6, 7] [⟨(some 49), none, .mv (.tmp 0)⟩, ⟨(some 50), none, .nilc (.tmp 49)⟩, ⟨(some 51), none, .fld 0 (.tmp 50)⟩, ⟨(some 52), none, .load 1 false (.tmp 51)⟩, ⟨(some 53), none, .mv (.tmp 6)⟩, ⟨(some 54), none, .mv (.tmp 0)⟩, ⟨(some 55), none, .nilc (.tmp 54)⟩, ⟨(some 56), none, .fld 0 (.tmp 55)⟩, ⟨(some 57), none, .load 1 false (.tmp 56)⟩, ⟨(some 58), none, .mv (.tmp 7)⟩, ⟨(some 59), none, .mv (.tmp 0)⟩, ⟨(some 60), none, .nilc (.tmp 59)⟩, ⟨(some 61), none, .fld 0 (.tmp 60)⟩, ⟨(some 62), none, .load 1 false (.tmp 61)⟩, ⟨(some 63), none, .mv (.tmp 7)⟩, ⟨(some 64), none, .ia none 2 (.tmp 62) (.tmp 63)⟩, ⟨(some 65), none, .load 2 true (.tmp 64)⟩, ⟨(some 66), none, .mv (.tmp 0)⟩, ⟨(some 67), none, .nilc (.tmp 66)⟩, ⟨(some 68), none, .fld 0 (.tmp 67)⟩, ⟨(some 69), none, .load 1 false (.tmp 68)⟩, ⟨(some 70), none, .mv (.tmp 6)⟩, ⟨(some 71), none, .ia none 2 (.tmp 69) (.tmp 70)⟩, ⟨(some 72), none, .load 2 true (.tmp 71)⟩, ⟨(some 73), none, .ia none 2 (.tmp 52) (.tmp 53)⟩, ⟨none, none, .store 2 (.tmp 73) (.tmp 65)⟩, ⟨(some 74), none, .ia none 2 (.tmp 57) (.tmp 58)⟩, ⟨none, none, .store 2 (.tmp 74) (.tmp 72)⟩])
 (.reg [0, 7] [⟨(some 75), none, .mv (.tmp 7)⟩, ⟨(some 6), none, .mv (.tmp 75)⟩]))))))
/- 104 (*waymark/heap.Heap).Push: slots 0 h, 1 key, 2 value, 3 h, 4 key, 5 value, 6 i, 7 up -/
def sc_heap_Heap_Push : SCode :=
 (.seq (.seq (.reg [0, 1, 2] [⟨(some 8), none, .mv (.tmp 0)⟩, ⟨(some 9), none, .isnil .p false (.tmp 8)⟩])
 (.cond (.tmp 9) .ret .skip))
 (.seq (.reg [0, 1, 2] [⟨(some 10), none, .mv (.tmp 0)⟩, ⟨(some 11), none, .mv (.tmp 0)⟩, ⟨(some 12), none, .nilc (.tmp 11)⟩, ⟨(some 13), none, .fld 0 (.tmp 12)⟩, ⟨(some 14), none, .load 1 false (.tmp 13)⟩, ⟨(some 15), none, .mv (.tmp 1)⟩, ⟨(some 16), none, .mv (.tmp 2)⟩, ⟨(some 17), none, .build [(.int .i64 0), (.int .i64 0)] [(0, 1, (.tmp 15)), (1, 1, (.tmp 16))]⟩, ⟨(some 18), none, .bsl 139 2 [(.int .i64 0), (.int .i64 0)] 1 [(0, 2, (.tmp 17))]⟩, ⟨(some 19), none, .hp (.app 133 139 2 16 (.agg #[(.int .i64 0), (.int .i64 0)]) (.tmp 14) (.tmp 18))⟩, ⟨(some 20), none, .nilc (.tmp 10)⟩, ⟨(some 21), none, .fld 0 (.tmp 20)⟩, ⟨none, none, .store 1 (.tmp 21) (.tmp 19)⟩])
 (.seq (.reg [0] [⟨(some 22), none, .mv (.tmp 0)⟩, ⟨(some 23), none, .nilc (.tmp 22)⟩, ⟨(some 24), none, .fld 0 (.tmp 23)⟩, ⟨(some 25), none, .load 1 false (.tmp 24)⟩, ⟨(some 26), none, .len false (.tmp 25)⟩, ⟨(some 27), none, .bin .sub 3 (.tmp 26) (.const (.int .i64 1))⟩, ⟨(some 6), none, .mv (.tmp 27)⟩])
 (.block 0 (.loop [0, 6] [] sc_heap_Heap_Push_L0)))))
theorem fn_heap_Heap_Push : FnOk Try.prog 104 Try.f104 sc_heap_Heap_Push [] 3 := ⟨Try.func104, by kernel_rfl, by kernel_rfl, by kernel_rfl, by kernel_rfl, by kernel_rfl, by kernel_rfl⟩

/- loop of (*waymark/heap.Heap).Pop, wants [0, 5, 7] [] -/
def sc_heap_Heap_Pop_L0 : SCode :=
 (.block 1 (.seq (.reg [0, 5, 7] [⟨(some 45), none, .mv (.tmp 0)⟩, ⟨(some 46), none, .mv (.tmp 7)⟩, ⟨(some 47), none, .call 111 [(.tmp 45), (.tmp 46)]⟩, ⟨(some 8), none, .mv (.tmp 47)⟩])
 (.seq (.seq (.reg [0, 5, 7, 8] [⟨(some 48), none, .mv (.tmp 8)⟩, ⟨(some 49), none, .mv (.tmp 7)⟩, ⟨(some 50), none, .bin .eql 3 (.tmp 48) (.tmp 49)⟩])
 (.cond (.tmp 50) (.seq (.draw [5] [⟨(some 51), none, .fld 0 (.tmp 5)⟩, ⟨(some 52), none, .load 1 false (.tmp 51)⟩, ⟨(some 53), none, .fld 1 (.tmp 5)⟩, ⟨(some 54), none, .load 1 false (.tmp 53)⟩, ⟨(some 2), none, .mv (.tmp 52)⟩, ⟨(some 3), none, .mv (.tmp 54)⟩, ⟨(some 4), none, .mv (.const (.bool true))⟩])
 .ret) .skip))
 (.seq (.draw [0, 5, 7, 8] [⟨(some 55), none, .mv (.tmp 0)⟩, ⟨(some 56), none, .nilc (.tmp 55)⟩, ⟨(some 57), none, .fld 0 (.tmp 56)⟩, ⟨(some 58), none, .load 1 false (.tmp 57)⟩, ⟨(some 59), none, .mv (.tmp 7)⟩, ⟨(some 60), none, .mv (.tmp 0)⟩, ⟨(some 61), none, .nilc (.tmp 60)⟩, ⟨(some 62), none, .fld 0 (.tmp 61)⟩, ⟨(some 63), none, .load 1 false (.tmp 62)⟩, ⟨(some 64), none, .mv (.tmp 8)⟩, ⟨(some 65), none, .mv (.tmp 0)⟩, ⟨(some 66), none, .nilc (.tmp 65)⟩, ⟨(some 67), none, .fld 0 (.tmp 66)⟩, ⟨(some 68), none, .load 1 false (.tmp 67)⟩, ⟨(some 69), none, .mv (.tmp 8)⟩, ⟨(some 70), none, .ia none 2 (.tmp 68) (.tmp 69)⟩, ⟨(some 71), none, .load 2 true (.tmp 70)⟩, ⟨(some 72), none, .mv (.tmp 0)⟩, ⟨(some 73), none, .nilc (.tmp 72)⟩, ⟨(some 74), none, .fld 0 (.tmp 73)⟩, ⟨(some 75), none, .load 1 false (.tmp 74)⟩, ⟨(some 76), none, .mv (.tmp 7)⟩, ⟨(some 77), none, .ia none 2 (.tmp 75) (.tmp 76)⟩, ⟨(some 78), none, .load 2 true (.tmp 77)⟩, ⟨(some 79), none, .ia none 2 (.tmp 58) (.tmp 59)⟩, ⟨none, none, .store 2 (.tmp 79) (.tmp 71)⟩, ⟨(some 80), none, .ia none 2 (.tmp 63) (.tmp 64)⟩, ⟨none, none, .store 2 (.tmp 80) (.tmp 78)⟩])
 (.reg [0, 5, 8] [⟨(some 81), none, .mv (.tmp 8)⟩, ⟨(some 7), none, .mv (.tmp 81)⟩])))))
/- 105 (*waymark/heap.Heap).Pop: slots 0 h, 1 h, 5 first, 6 last, 7 i, 8 k -/
def sc_heap_Heap_Pop : SCode :=
 (.seq (.reg [0] [⟨(some 2), none, .mv (.const (.int .i64 0))⟩, ⟨(some 3), none, .mv (.const (.int .i64 0))⟩, ⟨(some 4), none, .mv (.const (.bool false))⟩])
 (.seq (.seq (.reg [0] [⟨(some 9), none, .mv (.tmp 0)⟩, ⟨(some 10), none, .call 110 [(.tmp 9)]⟩, ⟨(some 11), none, .bin .eql 3 (.tmp 10) (.const (.int .i64 0))⟩])
 (.cond (.tmp 11) (.seq (.reg [] [⟨(some 2), none, .mv (.const (.int .i64 0))⟩, ⟨(some 3), none, .mv (.const (.int .i64 0))⟩, ⟨(some 4), none, .mv (.const (.bool false))⟩])
 .ret) .skip))
 (.seq (.reg [0] [⟨(some 12), none, .mv (.tmp 0)⟩, ⟨(some 13), none, .nilc (.tmp 12)⟩, ⟨(some 14), none, .fld 0 (.tmp 13)⟩, ⟨(some 15), none, .load 1 false (.tmp 14)⟩, ⟨(some 16), none, .ia none 2 (.tmp 15) (.const (.int .i64 0))⟩, ⟨(some 17), none, .load 2 true (.tmp 16)⟩, ⟨(some 5), none, .alloc 139 [(.int .i64 0), (.int .i64 0)]⟩, ⟨none, none, .store 2 (.tmp 5) (.tmp 17)⟩])
 (.seq (.reg [0, 5] [⟨(some 18), none, .mv (.tmp 0)⟩, ⟨(some 19), none, .nilc (.tmp 18)⟩, ⟨(some 20), none, .fld 0 (.tmp 19)⟩, ⟨(some 21), none, .load 1 false (.tmp 20)⟩, ⟨(some 22), none, .len false (.tmp 21)⟩, ⟨(some 23), none, .bin .sub 3 (.tmp 22) (.const (.int .i64 1))⟩, ⟨(some 6), none, .mv (.tmp 23)⟩])
 (.seq (.draw [0, 5, 6] [⟨(some 24), none, .mv (.tmp 0)⟩, ⟨(some 25), none, .nilc (.tmp 24)⟩, ⟨(some 26), none, .fld 0 (.tmp 25)⟩, ⟨(some 27), none, .load 1 false (.tmp 26)⟩, ⟨(some 28), none, .mv (.tmp 0)⟩, ⟨(some 29), none, .nilc (.tmp 28)⟩, ⟨(some 30), none, .fld 0 (.tmp 29)⟩, ⟨(some 31), none, .load 1 false (.tmp 30)⟩, ⟨(some 32), none, .mv (.tmp 6)⟩, ⟨(some 33), none, .ia none 2 (.tmp 31) (.tmp 32)⟩, ⟨(some 34), none, .load 2 true (.tmp 33)⟩, ⟨(some 35), none, .ia none 2 (.tmp 27) (.const (.int .i64 0))⟩, ⟨none, none, .store 2 (.tmp 35) (.tmp 34)⟩])
 (.seq (.reg [0, 5, 6] [⟨(some 36), none, .mv (.tmp 0)⟩, ⟨(some 37), none, .mv (.tmp 0)⟩, ⟨(some 38), none, .nilc (.tmp 37)⟩, ⟨(some 39), none, .fld 0 (.tmp 38)⟩, ⟨(some 40), none, .load 1 false (.tmp 39)⟩, ⟨(some 41), none, .mv (.tmp 6)⟩, ⟨(some 42), none, .slc (some 2) (.tmp 40) none (some (.tmp 41)) none⟩, ⟨(some 43), none, .nilc (.tmp 36)⟩, ⟨(some 44), none, .fld 0 (.tmp 43)⟩, ⟨none, none, .store 1 (.tmp 44) (.tmp 42)⟩])
 (.seq (.reg [0, 5] [⟨(some 7), none, .mv (.const (.int .i64 0))⟩])
 (.block 0 (.loop [0, 5, 7] [] sc_heap_Heap_Pop_L0)))))))))
theorem fn_heap_Heap_Pop : FnOk Try.prog 105 Try.f105 sc_heap_Heap_Pop [.tmp 2, .tmp 3, .tmp 4] 1 := ⟨Try.func105, by kernel_rfl, by kernel_rfl, by kernel_rfl, by kernel_rfl, by kernel_rfl, by kernel_rfl⟩

/- 109 (waymark/heap.pair).ahead: slots 0 p, 1 q, 2 p, 3 q -/
def sc_heap_pair_ahead : SCode :=
 (.seq (.reg [0, 1] [⟨(some 2), none, .box 139 (.tmp 0)⟩, ⟨(some 3), none, .box 139 (.tmp 1)⟩, ⟨(some 4), none, .mv (.const (.bool false))⟩])
 (.seq (.reg [2, 3] [⟨(some 5), none, .fld 0 (.tmp 2)⟩, ⟨(some 6), none, .load 1 false (.tmp 5)⟩, ⟨(some 7), none, .fld 0 (.tmp 3)⟩, ⟨(some 8), none, .load 1 false (.tmp 7)⟩, ⟨(some 9), none, .bin .lss 3 (.tmp 6) (.tmp 8)⟩, ⟨(some 10), none, .mv (.tmp 9)⟩, ⟨(some 11), (some (10, false)), .fld 0 (.tmp 2)⟩, ⟨(some 12), (some (10, false)), .load 1 false (.tmp 11)⟩, ⟨(some 13), (some (10, false)), .fld 0 (.tmp 3)⟩, ⟨(some 14), (some (10, false)), .load 1 false (.tmp 13)⟩, ⟨(some 15), (some (10, false)), .bin .eql 3 (.tmp 12) (.tmp 14)⟩, ⟨(some 16), (some (10, false)), .mv (.tmp 15)⟩, ⟨(some 17), (some (16, true)), .fld 1 (.tmp 2)⟩, ⟨(some 18), (some (16, true)), .load 1 false (.tmp 17)⟩, ⟨(some 19), (some (16, true)), .fld 1 (.tmp 3)⟩, ⟨(some 20), (some (16, true)), .load 1 false (.tmp 19)⟩, ⟨(some 21), (some (16, true)), .bin .lss 3 (.tmp 18) (.tmp 20)⟩, ⟨(some 22), (some (10, false)), .pick (.tmp 16) (.tmp 21) (.const (.bool false))⟩, ⟨(some 23), none, .pick (.tmp 10) (.const (.bool true)) (.tmp 22)⟩, ⟨(some 4), none, .mv (.tmp 23)⟩])
 .ret))
theorem fn_heap_pair_ahead : FnOk Try.prog 109 Try.f109 sc_heap_pair_ahead [.tmp 4] 2 := ⟨Try.func109, by kernel_rfl, by kernel_rfl, by kernel_rfl, by kernel_rfl, by kernel_rfl, by kernel_rfl⟩

/- 110 (*waymark/heap.Heap).Len: slots 0 h, 1 h -/
def sc_heap_Heap_Len : SCode :=
 (.seq (.reg [0] [⟨(some 2), none, .mv (.const (.int .i64 0))⟩])
 (.seq (.seq (.reg [0] [⟨(some 3), none, .mv (.tmp 0)⟩, ⟨(some 4), none, .isnil .p false (.tmp 3)⟩])
 (.cond (.tmp 4) (.seq (.reg [] [⟨(some 2), none, .mv (.const (.int .i64 0))⟩])
 .ret) .skip))
 (.seq (.reg [0] [⟨(some 5), none, .mv (.tmp 0)⟩, ⟨(some 6), none, .nilc (.tmp 5)⟩, ⟨(some 7), none, .fld 0 (.tmp 6)⟩, ⟨(some 8), none, .load 1 false (.tmp 7)⟩, ⟨(some 9), none, .len false (.tmp 8)⟩, ⟨(some 2), none, .mv (.tmp 9)⟩])
 .ret)))
theorem fn_heap_Heap_Len : FnOk Try.prog 110 Try.f110 sc_heap_Heap_Len [.tmp 2] 1 := ⟨Try.func110, by kernel_rfl, by kernel_rfl, by kernel_rfl, by kernel_rfl, by kernel_rfl, by kernel_rfl⟩

/- loop of (*waymark/heap.Heap).least, wants [0, 1, 5, 6] [] -/
def sc_heap_Heap_least_L0 : SCode :=
 (.seq (.seq (.reg [0, 1, 5, 6] [⟨(some 11), none, .mv (.tmp 6)⟩, ⟨(some 12), none, .mv (.tmp 1)⟩, ⟨(some 13), none, .bin .mul 3 (.const (.int .i64 2)) (.tmp 12)⟩, ⟨(some 14), none, .bin .add 3 (.tmp 13) (.const (.int .i64 2))⟩, ⟨(some 15), none, .bin .leq 3 (.tmp 11) (.tmp 14)⟩, ⟨(some 16), none, .mv (.tmp 15)⟩, ⟨(some 17), (some (16, true)), .mv (.tmp 6)⟩, ⟨(some 18), (some (16, true)), .mv (.tmp 0)⟩, ⟨(some 19), (some (16, true)), .nilc (.tmp 18)⟩, ⟨(some 20), (some (16, true)), .fld 0 (.tmp 19)⟩, ⟨(some 21), (some (16, true)), .load 1 false (.tmp 20)⟩, ⟨(some 22), (some (16, true)), .len false (.tmp 21)⟩, ⟨(some 23), (some (16, true)), .bin .lss 3 (.tmp 17) (.tmp 22)⟩, ⟨(some 24), none, .pick (.tmp 16) (.tmp 23) (.const (.bool false))⟩])
 (.cond (.tmp 24) .skip (.exit 0)))
 (.seq (.block 1 (.seq (.draw [0, 1, 5, 6] [⟨(some 27), none, .mv (.tmp 0)⟩, ⟨(some 28), none, .nilc (.tmp 27)⟩, ⟨(some 29), none, .fld 0 (.tmp 28)⟩, ⟨(some 30), none, .load 1 false (.tmp 29)⟩, ⟨(some 31), none, .mv (.tmp 6)⟩, ⟨(some 32), none, .ia none 2 (.tmp 30) (.tmp 31)⟩, ⟨(some 33), none, .load 2 true (.tmp 32)⟩, ⟨(some 34), none, .mv (.tmp 0)⟩, ⟨(some 35), none, .nilc (.tmp 34)⟩, ⟨(some 36), none, .fld 0 (.tmp 35)⟩, ⟨(some 37), none, .load 1 false (.tmp 36)⟩, ⟨(some 38), none, .mv (.tmp 5)⟩, ⟨(some 39), none, .ia none 2 (.tmp 37) (.tmp 38)⟩, ⟨(some 40), none, .load 2 true (.tmp 39)⟩, ⟨(some 41), none, .call 109 [(.tmp 33), (.tmp 40)]⟩])
 (.cond (.tmp 41) (.reg [0, 1, 6] [⟨(some 42), none, .mv (.tmp 6)⟩, ⟨(some 5), none, .mv (.tmp 42)⟩]) .skip)))
 (.reg [0, 1, 5, 6] [⟨(some 25), none, .mv (.tmp 6)⟩, ⟨(some 26), none, .bin .add 3 (.tmp 25) (.const (.int .i64 1))⟩, ⟨(some 6), none, .mv (.tmp 26)⟩])))
/- 111 (*waymark/heap.Heap).least: slots 0 h, 1 i, 2 h, 3 i, 5 best, 6 k -/
def sc_heap_Heap_least : SCode :=
 (.seq (.reg [0, 1] [⟨(some 4), none, .mv (.const (.int .i64 0))⟩])
 (.seq (.reg [0, 1] [⟨(some 7), none, .mv (.tmp 1)⟩, ⟨(some 5), none, .mv (.tmp 7)⟩])
 (.seq (.seq (.reg [0, 1, 5] [⟨(some 8), none, .mv (.tmp 1)⟩, ⟨(some 9), none, .bin .mul 3 (.const (.int .i64 2)) (.tmp 8)⟩, ⟨(some 10), none, .bin .add 3 (.tmp 9) (.const (.int .i64 1))⟩, ⟨(some 6), none, .mv (.tmp 10)⟩])
 (.block 0 (.loop [0, 1, 5, 6] [] sc_heap_Heap_least_L0)))
 (.seq (.reg [5] [⟨(some 43), none, .mv (.tmp 5)⟩, ⟨(some 4), none, .mv (.tmp 43)⟩])
 .ret))))
theorem fn_heap_Heap_least : FnOk Try.prog 111 Try.f111 sc_heap_Heap_least [.tmp 4] 2 := ⟨Try.func111, by kernel_rfl, by kernel_rfl, by kernel_rfl, by kernel_rfl, by kernel_rfl, by kernel_rfl⟩

end Go.Proofs.Ytgahnhiidhkjaaa
end

section
namespace Go.Proofs.Ytgahnhiidhkjaaa
open Go Abs

/- 80 waymark/packet.Right: slots 0 proto, 1 sport, 2 dport, 3 proto, 4 sport, 5 dport -/
def sc_packet_Right : SCode :=
 (.seq (.reg [0, 1, 2] [⟨(some 6), none, .mv (.const (.bool false))⟩])
 (.seq (.reg [0, 1, 2] [⟨(some 7), none, .mv (.tmp 0)⟩, ⟨(some 8), none, .bin .geq 3 (.tmp 7) (.const (.int .i64 0))⟩, ⟨(some 9), none, .mv (.tmp 8)⟩, ⟨(some 10), (some (9, true)), .mv (.tmp 0)⟩, ⟨(some 11), (some (9, true)), .bin .leq 3 (.tmp 10) (.const (.int .i64 255))⟩, ⟨(some 12), none, .pick (.tmp 9) (.tmp 11) (.const (.bool false))⟩, ⟨(some 13), none, .mv (.tmp 12)⟩, ⟨(some 14), (some (13, true)), .mv (.tmp 1)⟩, ⟨(some 15), (some (13, true)), .bin .geq 3 (.tmp 14) (.const (.int .i64 0))⟩, ⟨(some 16), none, .pick (.tmp 13) (.tmp 15) (.const (.bool false))⟩, ⟨(some 17), none, .mv (.tmp 16)⟩, ⟨(some 18), (some (17, true)), .mv (.tmp 1)⟩, ⟨(some 19), (some (17, true)), .bin .leq 3 (.tmp 18) (.const (.int .i64 65535))⟩, ⟨(some 20), none, .pick (.tmp 17) (.tmp 19) (.const (.bool false))⟩, ⟨(some 21), none, .mv (.tmp 20)⟩, ⟨(some 22), (some (21, true)), .mv (.tmp 2)⟩, ⟨(some 23), (some (21, true)), .bin .geq 3 (.tmp 22) (.const (.int .i64 0))⟩, ⟨(some 24), none, .pick (.tmp 21) (.tmp 23) (.const (.bool false))⟩, ⟨(some 25), none, .mv (.tmp 24)⟩, ⟨(some 26), (some (25, true)), .mv (.tmp 2)⟩, ⟨(some 27), (some (25, true)), .bin .leq 3 (.tmp 26) (.const (.int .i64 65535))⟩, ⟨(some 28), none, .pick (.tmp 25) (.tmp 27) (.const (.bool false))⟩, ⟨(some 6), none, .mv (.tmp 28)⟩])
 .ret))
theorem fn_packet_Right : FnOk Try.prog 80 Try.f80 sc_packet_Right [.tmp 6] 3 := ⟨Try.func80, by kernel_rfl, by kernel_rfl, by kernel_rfl, by kernel_rfl, by kernel_rfl, by kernel_rfl⟩

end Go.Proofs.Ytgahnhiidhkjaaa
end

section
namespace Go.Proofs.Ytgahnhiidhkjaaa
open Go Abs

/- 44 waymark/prefix.Matches: slots 0 m, 1 t, 2 m, 3 t -/
def sc_prefix_Matches : SCode :=
 (.seq (.reg [0, 1] [⟨(some 2), none, .box 31 (.tmp 0)⟩, ⟨(some 3), none, .box 25 (.tmp 1)⟩, ⟨(some 4), none, .mv (.const (.bool false))⟩])
 (.seq (.reg [2, 3] [⟨(some 5), none, .fld 0 (.tmp 2)⟩, ⟨(some 6), none, .load 2 true (.tmp 5)⟩, ⟨(some 7), none, .fld 0 (.tmp 3)⟩, ⟨(some 8), none, .load 1 false (.tmp 7)⟩, ⟨(some 9), none, .call 65 [(.tmp 6), (.tmp 8)]⟩, ⟨(some 10), none, .mv (.tmp 9)⟩, ⟨(some 11), (some (10, true)), .fld 2 (.tmp 2)⟩, ⟨(some 12), (some (10, true)), .load 2 true (.tmp 11)⟩, ⟨(some 13), (some (10, true)), .fld 1 (.tmp 3)⟩, ⟨(some 14), (some (10, true)), .load 1 false (.tmp 13)⟩, ⟨(some 15), (some (10, true)), .call 65 [(.tmp 12), (.tmp 14)]⟩, ⟨(some 16), none, .pick (.tmp 10) (.tmp 15) (.const (.bool false))⟩, ⟨(some 17), none, .mv (.tmp 16)⟩, ⟨(some 18), (some (17, true)), .fld 4 (.tmp 2)⟩, ⟨(some 19), (some (17, true)), .load 1 false (.tmp 18)⟩, ⟨(some 20), (some (17, true)), .fld 2 (.tmp 3)⟩, ⟨(some 21), (some (17, true)), .load 1 false (.tmp 20)⟩, ⟨(some 22), (some (17, true)), .call 66 [(.tmp 19), (.tmp 21)]⟩, ⟨(some 23), none, .pick (.tmp 17) (.tmp 22) (.const (.bool false))⟩, ⟨(some 24), none, .mv (.tmp 23)⟩, ⟨(some 25), (some (24, true)), .fld 5 (.tmp 2)⟩, ⟨(some 26), (some (24, true)), .load 1 false (.tmp 25)⟩, ⟨(some 27), (some (24, true)), .fld 3 (.tmp 3)⟩, ⟨(some 28), (some (24, true)), .load 1 false (.tmp 27)⟩, ⟨(some 29), (some (24, true)), .call 66 [(.tmp 26), (.tmp 28)]⟩, ⟨(some 30), none, .pick (.tmp 24) (.tmp 29) (.const (.bool false))⟩, ⟨(some 31), none, .mv (.tmp 30)⟩, ⟨(some 32), (some (31, true)), .fld 6 (.tmp 2)⟩, ⟨(some 33), (some (31, true)), .load 1 false (.tmp 32)⟩, ⟨(some 34), (some (31, true)), .fld 4 (.tmp 3)⟩, ⟨(some 35), (some (31, true)), .load 1 false (.tmp 34)⟩, ⟨(some 36), (some (31, true)), .call 66 [(.tmp 33), (.tmp 35)]⟩, ⟨(some 37), none, .pick (.tmp 31) (.tmp 36) (.const (.bool false))⟩, ⟨(some 4), none, .mv (.tmp 37)⟩])
 .ret))
theorem fn_prefix_Matches : FnOk Try.prog 44 Try.f44 sc_prefix_Matches [.tmp 4] 2 := ⟨Try.func44, by kernel_rfl, by kernel_rfl, by kernel_rfl, by kernel_rfl, by kernel_rfl, by kernel_rfl⟩

/- 65 waymark/prefix.In: slots 0 p, 1 addr, 2 p, 3 addr -/
def sc_prefix_In : SCode :=
 (.seq (.reg [0, 1] [⟨(some 2), none, .box 29 (.tmp 0)⟩, ⟨(some 4), none, .mv (.const (.bool false))⟩])
 (.seq (.draw [1, 2] [⟨(some 5), none, .fld 0 (.tmp 2)⟩, ⟨(some 6), none, .load 1 false (.tmp 5)⟩, ⟨(some 7), none, .fld 1 (.tmp 2)⟩, ⟨(some 8), none, .load 1 false (.tmp 7)⟩, ⟨(some 9), none, .call 86 [(.tmp 6), (.tmp 8)]⟩, ⟨(some 10), none, .mv (.tmp 1)⟩, ⟨(some 11), none, .fld 1 (.tmp 2)⟩, ⟨(some 12), none, .load 1 false (.tmp 11)⟩, ⟨(some 13), none, .call 86 [(.tmp 10), (.tmp 12)]⟩, ⟨(some 14), none, .bin .eql 23 (.tmp 9) (.tmp 13)⟩, ⟨(some 4), none, .mv (.tmp 14)⟩])
 .ret))
theorem fn_prefix_In : FnOk Try.prog 65 Try.f65 sc_prefix_In [.tmp 4] 2 := ⟨Try.func65, by kernel_rfl, by kernel_rfl, by kernel_rfl, by kernel_rfl, by kernel_rfl, by kernel_rfl⟩

/- 66 waymark/prefix.same: slots 0 want, 1 n, 2 want, 3 n -/
def sc_prefix_same : SCode :=
 (.seq (.reg [0, 1] [⟨(some 4), none, .mv (.const (.bool false))⟩])
 (.seq (.reg [0, 1] [⟨(some 5), none, .mv (.tmp 0)⟩, ⟨(some 6), none, .bin .eql 3 (.tmp 5) (.const (.int .i64 0))⟩, ⟨(some 7), none, .mv (.tmp 6)⟩, ⟨(some 8), (some (7, false)), .mv (.tmp 0)⟩, ⟨(some 9), (some (7, false)), .mv (.tmp 1)⟩, ⟨(some 10), (some (7, false)), .bin .eql 3 (.tmp 8) (.tmp 9)⟩, ⟨(some 11), none, .pick (.tmp 7) (.const (.bool true)) (.tmp 10)⟩, ⟨(some 4), none, .mv (.tmp 11)⟩])
 .ret))
theorem fn_prefix_same : FnOk Try.prog 66 Try.f66 sc_prefix_same [.tmp 4] 2 := ⟨Try.func66, by kernel_rfl, by kernel_rfl, by kernel_rfl, by kernel_rfl, by kernel_rfl, by kernel_rfl⟩

/- 86 waymark/prefix.mask: slots 0 addr, 1 n, 2 addr, 3 n -/
def sc_prefix_mask : SCode :=
 (.seq (.reg [0, 1] [⟨(some 4), none, .mv (.const (.int .u32 0))⟩])
 (.seq (.reg [0, 1] [⟨(some 5), none, .mv (.tmp 1)⟩, ⟨(some 6), none, .mnx false (.tmp 5) (.const (.int .i64 32))⟩, ⟨(some 7), none, .mnx true (.const (.int .i64 0)) (.tmp 6)⟩, ⟨(some 1), none, .mv (.tmp 7)⟩])
 (.seq (.reg [0, 1] [⟨(some 8), none, .mv (.tmp 0)⟩, ⟨(some 9), none, .mv (.tmp 1)⟩, ⟨(some 10), none, .bin .sub 3 (.const (.int .i64 32)) (.tmp 9)⟩, ⟨(some 11), none, .bin .shr 23 (.tmp 8) (.tmp 10)⟩, ⟨(some 12), none, .mv (.tmp 1)⟩, ⟨(some 13), none, .bin .sub 3 (.const (.int .i64 32)) (.tmp 12)⟩, ⟨(some 14), none, .bin .shl 23 (.tmp 11) (.tmp 13)⟩, ⟨(some 4), none, .mv (.tmp 14)⟩])
 .ret)))
theorem fn_prefix_mask : FnOk Try.prog 86 Try.f86 sc_prefix_mask [.tmp 4] 2 := ⟨Try.func86, by kernel_rfl, by kernel_rfl, by kernel_rfl, by kernel_rfl, by kernel_rfl, by kernel_rfl⟩

end Go.Proofs.Ytgahnhiidhkjaaa
end

section
namespace Go.Proofs.Ytgahnhiidhkjaaa
open Go Abs

/- 69 waymark/prune.Right: slots 0 g, 1 w, 2 g, 3 w, 5 _, 6 e, 7 noNode, 8 noLink, 9 noColour -/
def sc_prune_Right : SCode :=
 (.seq (.reg [0, 1] [⟨(some 2), none, .box 44 (.tmp 0)⟩, ⟨(some 3), none, .box 34 (.tmp 1)⟩, ⟨(some 4), none, .mv (.const (.int .i64 0))⟩])
 (.seq (.seq (.reg [2, 3] [⟨(some 11), none, .load 2 true (.tmp 2)⟩, ⟨(some 12), none, .call 58 [(.tmp 11)]⟩, ⟨(some 10), none, .mv (.tmp 12)⟩, ⟨(some 13), none, .ext (.tmp 10) 0⟩, ⟨(some 14), none, .ext (.tmp 10) 1⟩, ⟨(some 5), none, .mv (.tmp 13)⟩, ⟨(some 6), none, .mv (.tmp 14)⟩])
 (.seq (.reg [2, 3, 6] [⟨(some 15), none, .mv (.tmp 6)⟩, ⟨(some 16), none, .bin .neq 49 (.tmp 15) (.const (.int .i64 0))⟩])
 (.cond (.tmp 16) (.seq (.reg [6] [⟨(some 17), none, .mv (.tmp 6)⟩, ⟨(some 4), none, .mv (.tmp 17)⟩])
 .ret) .skip)))
 (.seq (.reg [2, 3] [⟨(some 18), none, .mkfn (.func 87) [] [(.tmp 2)]⟩, ⟨(some 7), none, .mv (.tmp 18)⟩])
 (.seq (.reg [2, 3, 7] [⟨(some 19), none, .mkfn (.func 88) [] [(.tmp 2)]⟩, ⟨(some 8), none, .mv (.tmp 19)⟩])
 (.seq (.reg [3, 7, 8] [⟨(some 9), none, .mv (.func 89)⟩])
 (.seq (.block 0 (.seq (.reg [3, 7, 8, 9] [⟨(some 21), none, .mv (.tmp 7)⟩, ⟨(some 22), none, .fld 0 (.tmp 3)⟩, ⟨(some 23), none, .load 1 false (.tmp 22)⟩, ⟨(some 24), none, .cald (.tmp 21) [(.tmp 23)]⟩, ⟨(some 25), none, .mv (.tmp 24)⟩, ⟨(some 26), (some (25, false)), .mv (.tmp 7)⟩, ⟨(some 27), (some (25, false)), .fld 1 (.tmp 3)⟩, ⟨(some 28), (some (25, false)), .load 1 false (.tmp 27)⟩, ⟨(some 29), (some (25, false)), .cald (.tmp 26) [(.tmp 28)]⟩, ⟨(some 30), none, .pick (.tmp 25) (.const (.bool true)) (.tmp 29)⟩, ⟨(some 31), none, .mv (.tmp 30)⟩, ⟨(some 32), (some (31, false)), .fld 3 (.tmp 3)⟩, ⟨(some 33), (some (31, false)), .load 1 false (.tmp 32)⟩, ⟨(some 34), (some (31, false)), .mv (.tmp 7)⟩, ⟨(some 35), (some (31, false)), .call 90 [(.tmp 33), (.tmp 34)]⟩, ⟨(some 36), none, .pick (.tmp 31) (.const (.bool true)) (.tmp 35)⟩, ⟨(some 37), none, .mv (.tmp 36)⟩, ⟨(some 38), (some (37, false)), .fld 4 (.tmp 3)⟩, ⟨(some 39), (some (37, false)), .load 1 false (.tmp 38)⟩, ⟨(some 40), (some (37, false)), .mv (.tmp 7)⟩, ⟨(some 41), (some (37, false)), .call 90 [(.tmp 39), (.tmp 40)]⟩, ⟨(some 42), none, .pick (.tmp 37) (.const (.bool true)) (.tmp 41)⟩, ⟨(some 20), none, .mv (.tmp 42)⟩])
 (.cond (.tmp 20) (.seq (.reg [] [⟨(some 4), none, .mv (.const (.int .i64 4))⟩])
 .ret) (.seq (.reg [3, 8, 9] [⟨(some 44), none, .fld 5 (.tmp 3)⟩, ⟨(some 45), none, .load 1 false (.tmp 44)⟩, ⟨(some 46), none, .mv (.tmp 8)⟩, ⟨(some 47), none, .call 90 [(.tmp 45), (.tmp 46)]⟩, ⟨(some 43), none, .mv (.tmp 47)⟩])
 (.cond (.tmp 43) (.seq (.reg [] [⟨(some 4), none, .mv (.const (.int .i64 5))⟩])
 .ret) (.seq (.reg [3, 9] [⟨(some 49), none, .fld 6 (.tmp 3)⟩, ⟨(some 50), none, .load 1 false (.tmp 49)⟩, ⟨(some 51), none, .mv (.tmp 9)⟩, ⟨(some 52), none, .call 90 [(.tmp 50), (.tmp 51)]⟩, ⟨(some 53), none, .mv (.tmp 52)⟩, ⟨(some 54), (some (53, false)), .fld 2 (.tmp 3)⟩, ⟨(some 55), (some (53, false)), .load 1 false (.tmp 54)⟩, ⟨(some 56), (some (53, false)), .bin .lss 3 (.tmp 55) (.const (.int .i64 0))⟩, ⟨(some 57), none, .pick (.tmp 53) (.const (.bool true)) (.tmp 56)⟩, ⟨(some 48), none, .mv (.tmp 57)⟩])
 (.cond (.tmp 48) (.seq (.reg [] [⟨(some 4), none, .mv (.const (.int .i64 1))⟩])
 .ret) (.seq (.reg [3] [⟨(some 59), none, .fld 3 (.tmp 3)⟩, ⟨(some 60), none, .load 1 false (.tmp 59)⟩, ⟨(some 61), none, .len false (.tmp 60)⟩, ⟨(some 62), none, .bin .gtr 3 (.tmp 61) (.const (.int .i64 4))⟩, ⟨(some 58), none, .mv (.tmp 62)⟩])
 (.cond (.tmp 58) (.seq (.reg [] [⟨(some 4), none, .mv (.const (.int .i64 6))⟩])
 .ret) .skip)))))))))
 (.seq (.reg [] [⟨(some 4), none, .mv (.const (.int .i64 0))⟩])
 .ret)))))))
theorem fn_prune_Right : FnOk Try.prog 69 Try.f69 sc_prune_Right [.tmp 4] 2 := ⟨Try.func69, by kernel_rfl, by kernel_rfl, by kernel_rfl, by kernel_rfl, by kernel_rfl, by kernel_rfl⟩

/- loop of waymark/prune.Down, wants [2, 4, 7, 19, 20, 21] [] -/
def sc_prune_Down_L0 : SCode :=
 (.seq (.reg [2, 4, 7, 19, 20, 21] [⟨(some 22), none, .bin .lss 3 (.tmp 21) (.tmp 20)⟩])
 (.seq (.cond (.tmp 22) .skip (.exit 0))
 (.seq (.block 1 (.seq (.reg [2, 4, 7, 19, 20, 21] [⟨(some 23), none, .mv (.tmp 21)⟩, ⟨(some 24), none, .ia none 4 (.tmp 19) (.tmp 21)⟩, ⟨(some 25), none, .load 4 true (.tmp 24)⟩, ⟨(some 9), none, .alloc 57 [(.int .i64 0), (.int .i64 0), (.int .i64 0), (.int .i64 0)]⟩, ⟨(some 8), none, .mv (.tmp 23)⟩, ⟨none, none, .store 4 (.tmp 9) (.tmp 25)⟩])
 (.reg [2, 4, 7, 8, 9, 19, 20, 21] [⟨(some 26), none, .mv (.tmp 7)⟩, ⟨(some 27), none, .mv (.tmp 8)⟩, ⟨(some 28), none, .mv (.tmp 8)⟩, ⟨(some 29), none, .mv (.tmp 2)⟩, ⟨(some 30), none, .len false (.tmp 29)⟩, ⟨(some 31), none, .bin .lss 3 (.tmp 28) (.tmp 30)⟩, ⟨(some 32), none, .mv (.tmp 31)⟩, ⟨(some 33), (some (32, true)), .mv (.tmp 2)⟩, ⟨(some 34), (some (32, true)), .mv (.tmp 8)⟩, ⟨(some 35), (some (32, true)), .ia none 1 (.tmp 33) (.tmp 34)⟩, ⟨(some 36), (some (32, true)), .load 1 false (.tmp 35)⟩, ⟨(some 37), none, .pick (.tmp 32) (.tmp 36) (.const (.bool false))⟩, ⟨(some 38), none, .mv (.tmp 37)⟩, ⟨(some 39), (some (38, false)), .fld 5 (.tmp 4)⟩, ⟨(some 40), (some (38, false)), .load 1 false (.tmp 39)⟩, ⟨(some 41), (some (38, false)), .mv (.tmp 8)⟩, ⟨(some 42), (some (38, false)), .call 91 [(.tmp 40), (.tmp 41)]⟩, ⟨(some 43), none, .pick (.tmp 38) (.const (.bool true)) (.tmp 42)⟩, ⟨(some 44), none, .mv (.tmp 43)⟩, ⟨(some 45), (some (44, false)), .fld 6 (.tmp 4)⟩, ⟨(some 46), (some (44, false)), .load 1 false (.tmp 45)⟩, ⟨(some 47), (some (44, false)), .fld 3 (.tmp 9)⟩, ⟨(some 48), (some (44, false)), .load 1 false (.tmp 47)⟩, ⟨(some 49), (some (44, false)), .call 91 [(.tmp 46), (.tmp 48)]⟩, ⟨(some 50), none, .pick (.tmp 44) (.const (.bool true)) (.tmp 49)⟩, ⟨(some 51), none, .mv (.tmp 50)⟩, ⟨(some 52), (some (51, false)), .fld 4 (.tmp 4)⟩, ⟨(some 53), (some (51, false)), .load 1 false (.tmp 52)⟩, ⟨(some 54), (some (51, false)), .fld 0 (.tmp 9)⟩, ⟨(some 55), (some (51, false)), .load 1 false (.tmp 54)⟩, ⟨(some 56), (some (51, false)), .call 91 [(.tmp 53), (.tmp 55)]⟩, ⟨(some 57), none, .pick (.tmp 51) (.const (.bool true)) (.tmp 56)⟩, ⟨(some 58), none, .mv (.tmp 57)⟩, ⟨(some 59), (some (58, false)), .fld 4 (.tmp 4)⟩, ⟨(some 60), (some (58, false)), .load 1 false (.tmp 59)⟩, ⟨(some 61), (some (58, false)), .fld 1 (.tmp 9)⟩, ⟨(some 62), (some (58, false)), .load 1 false (.tmp 61)⟩, ⟨(some 63), (some (58, false)), .call 91 [(.tmp 60), (.tmp 62)]⟩, ⟨(some 64), none, .pick (.tmp 58) (.const (.bool true)) (.tmp 63)⟩, ⟨(some 65), none, .ia none 1 (.tmp 26) (.tmp 27)⟩, ⟨none, none, .store 1 (.tmp 65) (.tmp 64)⟩])))
 (.reg [2, 4, 7, 19, 20, 21] [⟨(some 66), none, .bin .add 3 (.tmp 21) (.const (.int .i64 1))⟩, ⟨(some 21), none, .mv (.tmp 66)⟩]))))
/- 70 waymark/prune.Down: slots 0 g, 1 w, 2 down, 3 g, 4 w, 5 down, 7 out, 8 i, 9 l -/
def sc_prune_Down : SCode :=
 (.seq (.reg [0, 1, 2] [⟨(some 3), none, .box 44 (.tmp 0)⟩, ⟨(some 4), none, .box 34 (.tmp 1)⟩, ⟨(some 6), none, .mv (.const (.slice none 0 0))⟩])
 (.seq (.seq (.reg [2, 3, 4] [⟨(some 10), none, .load 2 true (.tmp 3)⟩, ⟨(some 11), none, .load 7 true (.tmp 4)⟩, ⟨(some 12), none, .call 69 [(.tmp 10), (.tmp 11)]⟩, ⟨(some 13), none, .bin .neq 49 (.tmp 12) (.const (.int .i64 0))⟩])
 (.cond (.tmp 13) (.seq (.reg [] [⟨(some 6), none, .mv (.const (.slice none 0 0))⟩])
 .ret) .skip))
 (.seq (.reg [2, 3, 4] [⟨(some 14), none, .fld 1 (.tmp 3)⟩, ⟨(some 15), none, .load 1 false (.tmp 14)⟩, ⟨(some 16), none, .len false (.tmp 15)⟩, ⟨(some 17), none, .mksl 4 1 1 [(.bool false)] (.tmp 16) (.tmp 16)⟩, ⟨(some 7), none, .mv (.tmp 17)⟩])
 (.seq (.seq (.reg [2, 3, 4, 7] [⟨(some 18), none, .fld 1 (.tmp 3)⟩, ⟨(some 19), none, .load 1 false (.tmp 18)⟩, ⟨(some 20), none, .len false (.tmp 19)⟩, ⟨(some 21), none, .mv (.const (.int .i64 0))⟩])
 (.block 0 (.loop [2, 4, 7, 19, 20, 21] [] sc_prune_Down_L0)))
 (.seq (.reg [7] [⟨(some 67), none, .mv (.tmp 7)⟩, ⟨(some 6), none, .mv (.tmp 67)⟩])
 .ret)))))
theorem fn_prune_Down : FnOk Try.prog 70 Try.f70 sc_prune_Down [.tmp 6] 3 := ⟨Try.func70, by kernel_rfl, by kernel_rfl, by kernel_rfl, by kernel_rfl, by kernel_rfl, by kernel_rfl⟩

/- 87 waymark/prune.Right$1: slots 0 n, 2 n -/
def sc_prune_Right_d1 : SCode :=
 (.seq (.reg [0, 1] [⟨(some 3), none, .mv (.const (.bool false))⟩])
 (.seq (.reg [0, 1] [⟨(some 4), none, .load 2 true (.tmp 1)⟩, ⟨(some 5), none, .mv (.tmp 0)⟩, ⟨(some 6), none, .call 72 [(.tmp 4), (.tmp 5)]⟩, ⟨(some 7), none, .un .not (.tmp 6)⟩, ⟨(some 3), none, .mv (.tmp 7)⟩])
 .ret))
theorem fn_prune_Right_d1 : FnOk Try.prog 87 Try.f87 sc_prune_Right_d1 [.tmp 3] 2 := ⟨Try.func87, by kernel_rfl, by kernel_rfl, by kernel_rfl, by kernel_rfl, by kernel_rfl, by kernel_rfl⟩

/- 88 waymark/prune.Right$2: slots 0 n, 2 n -/
def sc_prune_Right_d2 : SCode :=
 (.seq (.reg [0, 1] [⟨(some 3), none, .mv (.const (.bool false))⟩])
 (.seq (.reg [0, 1] [⟨(some 4), none, .mv (.tmp 0)⟩, ⟨(some 5), none, .bin .lss 3 (.tmp 4) (.const (.int .i64 0))⟩, ⟨(some 6), none, .mv (.tmp 5)⟩, ⟨(some 7), (some (6, false)), .mv (.tmp 0)⟩, ⟨(some 8), (some (6, false)), .fld 1 (.tmp 1)⟩, ⟨(some 9), (some (6, false)), .load 1 false (.tmp 8)⟩, ⟨(some 10), (some (6, false)), .len false (.tmp 9)⟩, ⟨(some 11), (some (6, false)), .bin .geq 3 (.tmp 7) (.tmp 10)⟩, ⟨(some 12), none, .pick (.tmp 6) (.const (.bool true)) (.tmp 11)⟩, ⟨(some 3), none, .mv (.tmp 12)⟩])
 .ret))
theorem fn_prune_Right_d2 : FnOk Try.prog 88 Try.f88 sc_prune_Right_d2 [.tmp 3] 2 := ⟨Try.func88, by kernel_rfl, by kernel_rfl, by kernel_rfl, by kernel_rfl, by kernel_rfl, by kernel_rfl⟩

/- 89 waymark/prune.Right$3: slots 0 n, 1 n -/
def sc_prune_Right_d3 : SCode :=
 (.seq (.reg [0] [⟨(some 2), none, .mv (.const (.bool false))⟩])
 (.seq (.reg [0] [⟨(some 3), none, .mv (.tmp 0)⟩, ⟨(some 4), none, .bin .lss 3 (.tmp 3) (.const (.int .i64 0))⟩, ⟨(some 5), none, .mv (.tmp 4)⟩, ⟨(some 6), (some (5, false)), .mv (.tmp 0)⟩, ⟨(some 7), (some (5, false)), .bin .gtr 3 (.tmp 6) (.const (.int .i64 62))⟩, ⟨(some 8), none, .pick (.tmp 5) (.const (.bool true)) (.tmp 7)⟩, ⟨(some 2), none, .mv (.tmp 8)⟩])
 .ret))
theorem fn_prune_Right_d3 : FnOk Try.prog 89 Try.f89 sc_prune_Right_d3 [.tmp 2] 1 := ⟨Try.func89, by kernel_rfl, by kernel_rfl, by kernel_rfl, by kernel_rfl, by kernel_rfl, by kernel_rfl⟩

end Go.Proofs.Ytgahnhiidhkjaaa
end

section
namespace Go.Proofs.Ytgahnhiidhkjaaa
open Go Abs

/- 62 slices.SortStableFunc[[]waymark/api.Rule,waymark/api.Rule]: slots 0 x, 1 cmp, 2 x, 3 cmp -/
def sc_slices_SortStableFunc_api_Rule_api_Rule : SCode :=
 (.reg [0, 1] [⟨(some 4), none, .mv (.tmp 0)⟩, ⟨(some 5), none, .mv (.tmp 0)⟩, ⟨(some 6), none, .len false (.tmp 5)⟩, ⟨(some 7), none, .mv (.tmp 1)⟩, ⟨(some 8), none, .call 84 [(.tmp 4), (.tmp 6), (.tmp 7)]⟩])
theorem fn_slices_SortStableFunc_api_Rule_api_Rule : FnOk Try.prog 62 Try.f62 sc_slices_SortStableFunc_api_Rule_api_Rule [] 2 := ⟨Try.func62, by kernel_rfl, by kernel_rfl, by kernel_rfl, by kernel_rfl, by kernel_rfl, by kernel_rfl⟩

/- 78 slices.ContainsFunc[[]waymark/api.Rule,waymark/api.Rule]: slots 0 s, 1 f, 2 s, 3 f -/
def sc_slices_ContainsFunc_api_Rule_api_Rule : SCode :=
 (.seq (.reg [0, 1] [⟨(some 4), none, .mv (.const (.bool false))⟩])
 (.seq (.reg [0, 1] [⟨(some 5), none, .mv (.tmp 0)⟩, ⟨(some 6), none, .mv (.tmp 1)⟩, ⟨(some 7), none, .call 96 [(.tmp 5), (.tmp 6)]⟩, ⟨(some 8), none, .bin .geq 3 (.tmp 7) (.const (.int .i64 0))⟩, ⟨(some 4), none, .mv (.tmp 8)⟩])
 .ret))
theorem fn_slices_ContainsFunc_api_Rule_api_Rule : FnOk Try.prog 78 Try.f78 sc_slices_ContainsFunc_api_Rule_api_Rule [.tmp 4] 2 := ⟨Try.func78, by kernel_rfl, by kernel_rfl, by kernel_rfl, by kernel_rfl, by kernel_rfl, by kernel_rfl⟩

/- 83 slices.Clone[[]int,int]: slots 0 s, 1 s -/
def sc_slices_Clone_int_int : SCode :=
 (.seq (.reg [0] [⟨(some 2), none, .mv (.const (.slice none 0 0))⟩])
 (.seq (.seq (.reg [0] [⟨(some 3), none, .mv (.tmp 0)⟩, ⟨(some 4), none, .isnil .s false (.tmp 3)⟩])
 (.cond (.tmp 4) (.seq (.reg [] [⟨(some 2), none, .mv (.const (.slice none 0 0))⟩])
 .ret) .skip))
 (.seq (.reg [0] [⟨(some 5), none, .hp (.bsl 3 1 [(.int .i64 0)] 0 [])⟩, ⟨(some 6), none, .mv (.tmp 0)⟩, ⟨(some 7), none, .hp (.app 32 3 1 8 (.int .i64 0) (.tmp 5) (.tmp 6))⟩, ⟨(some 2), none, .mv (.tmp 7)⟩])
 .ret)))
theorem fn_slices_Clone_int_int : FnOk Try.prog 83 Try.f83 sc_slices_Clone_int_int [.tmp 2] 1 := ⟨Try.func83, by kernel_rfl, by kernel_rfl, by kernel_rfl, by kernel_rfl, by kernel_rfl, by kernel_rfl⟩

/- loop of slices.stableCmpFunc[waymark/api.Rule], wants [0, 1, 2, 6, 7, 8] [] -/
def sc_slices_stableCmpFunc_api_Rule_L0 : SCode :=
 (.seq (.seq (.reg [0, 1, 2, 6, 7, 8] [⟨(some 33), none, .mv (.tmp 8)⟩, ⟨(some 34), none, .mv (.tmp 1)⟩, ⟨(some 35), none, .bin .leq 3 (.tmp 33) (.tmp 34)⟩])
 (.cond (.tmp 35) .skip (.exit 4)))
 (.block 5 (.seq (.reg [0, 1, 2, 6, 7, 8] [⟨(some 36), none, .mv (.tmp 0)⟩, ⟨(some 37), none, .mv (.tmp 7)⟩, ⟨(some 38), none, .mv (.tmp 7)⟩, ⟨(some 39), none, .mv (.tmp 6)⟩, ⟨(some 40), none, .bin .add 3 (.tmp 38) (.tmp 39)⟩, ⟨(some 41), none, .mv (.tmp 8)⟩, ⟨(some 42), none, .mv (.tmp 2)⟩, ⟨(some 43), none, .call 100 [(.tmp 36), (.tmp 37), (.tmp 40), (.tmp 41), (.tmp 42)]⟩])
 (.seq (.reg [0, 1, 2, 6, 8] [⟨(some 44), none, .mv (.tmp 8)⟩, ⟨(some 7), none, .mv (.tmp 44)⟩])
 (.reg [0, 1, 2, 6, 7, 8] [⟨(some 45), none, .mv (.tmp 8)⟩, ⟨(some 46), none, .mv (.tmp 6)⟩, ⟨(some 47), none, .bin .mul 3 (.const (.int .i64 2)) (.tmp 46)⟩, ⟨(some 48), none, .bin .add 3 (.tmp 45) (.tmp 47)⟩, ⟨(some 8), none, .mv (.tmp 48)⟩])))))
/- loop of slices.stableCmpFunc[waymark/api.Rule], wants [0, 1, 2, 6] [] -/
def sc_slices_stableCmpFunc_api_Rule_L1 : SCode :=
 (.seq (.seq (.reg [0, 1, 2, 6] [⟨(some 28), none, .mv (.tmp 6)⟩, ⟨(some 29), none, .mv (.tmp 1)⟩, ⟨(some 30), none, .bin .lss 3 (.tmp 28) (.tmp 29)⟩])
 (.cond (.tmp 30) .skip (.exit 2)))
 (.block 3 (.seq (.reg [0, 1, 2, 6] [⟨(some 31), none, .mv (.tmp 6)⟩, ⟨(some 32), none, .bin .mul 3 (.const (.int .i64 2)) (.tmp 31)⟩, ⟨(some 7), none, .mv (.const (.int .i64 0))⟩, ⟨(some 8), none, .mv (.tmp 32)⟩])
 (.seq (.block 4 (.loop [0, 1, 2, 6, 7, 8] [] sc_slices_stableCmpFunc_api_Rule_L0))
 (.seq (.seq (.reg [0, 1, 2, 6, 7] [⟨(some 49), none, .mv (.tmp 7)⟩, ⟨(some 50), none, .mv (.tmp 6)⟩, ⟨(some 51), none, .bin .add 3 (.tmp 49) (.tmp 50)⟩, ⟨(some 9), none, .mv (.tmp 51)⟩])
 (.seq (.reg [0, 1, 2, 6, 7, 9] [⟨(some 52), none, .mv (.tmp 9)⟩, ⟨(some 53), none, .mv (.tmp 1)⟩, ⟨(some 54), none, .bin .lss 3 (.tmp 52) (.tmp 53)⟩])
 (.cond (.tmp 54) (.reg [0, 1, 2, 6, 7, 9] [⟨(some 55), none, .mv (.tmp 0)⟩, ⟨(some 56), none, .mv (.tmp 7)⟩, ⟨(some 57), none, .mv (.tmp 9)⟩, ⟨(some 58), none, .mv (.tmp 1)⟩, ⟨(some 59), none, .mv (.tmp 2)⟩, ⟨(some 60), none, .call 100 [(.tmp 55), (.tmp 56), (.tmp 57), (.tmp 58), (.tmp 59)]⟩]) .skip)))
 (.reg [0, 1, 2, 6] [⟨(some 61), none, .mv (.tmp 6)⟩, ⟨(some 62), none, .bin .mul 3 (.tmp 61) (.const (.int .i64 2))⟩, ⟨(some 6), none, .mv (.tmp 62)⟩]))))))
/- loop of slices.stableCmpFunc[waymark/api.Rule], wants [0, 1, 2, 6, 7, 8] [] -/
def sc_slices_stableCmpFunc_api_Rule_L2 : SCode :=
 (.seq (.seq (.reg [0, 1, 2, 6, 7, 8] [⟨(some 11), none, .mv (.tmp 8)⟩, ⟨(some 12), none, .mv (.tmp 1)⟩, ⟨(some 13), none, .bin .leq 3 (.tmp 11) (.tmp 12)⟩])
 (.cond (.tmp 13) .skip (.exit 0)))
 (.block 1 (.seq (.reg [0, 1, 2, 6, 7, 8] [⟨(some 14), none, .mv (.tmp 0)⟩, ⟨(some 15), none, .mv (.tmp 7)⟩, ⟨(some 16), none, .mv (.tmp 8)⟩, ⟨(some 17), none, .mv (.tmp 2)⟩, ⟨(some 18), none, .call 99 [(.tmp 14), (.tmp 15), (.tmp 16), (.tmp 17)]⟩])
 (.seq (.reg [0, 1, 2, 6, 8] [⟨(some 19), none, .mv (.tmp 8)⟩, ⟨(some 7), none, .mv (.tmp 19)⟩])
 (.reg [0, 1, 2, 6, 7, 8] [⟨(some 20), none, .mv (.tmp 8)⟩, ⟨(some 21), none, .mv (.tmp 6)⟩, ⟨(some 22), none, .bin .add 3 (.tmp 20) (.tmp 21)⟩, ⟨(some 8), none, .mv (.tmp 22)⟩])))))
/- 84 slices.stableCmpFunc[waymark/api.Rule]: slots 0 data, 1 n, 2 cmp, 3 data, 4 n, 5 cmp, 6 blockSize, 7 a, 8 b, 9 m -/
def sc_slices_stableCmpFunc_api_Rule : SCode :=
 (.seq (.reg [0, 1, 2] [⟨(some 6), none, .mv (.const (.int .i64 20))⟩])
 (.seq (.reg [0, 1, 2, 6] [⟨(some 10), none, .mv (.tmp 6)⟩, ⟨(some 7), none, .mv (.const (.int .i64 0))⟩, ⟨(some 8), none, .mv (.tmp 10)⟩])
 (.seq (.block 0 (.loop [0, 1, 2, 6, 7, 8] [] sc_slices_stableCmpFunc_api_Rule_L2))
 (.seq (.reg [0, 1, 2, 6, 7] [⟨(some 23), none, .mv (.tmp 0)⟩, ⟨(some 24), none, .mv (.tmp 7)⟩, ⟨(some 25), none, .mv (.tmp 1)⟩, ⟨(some 26), none, .mv (.tmp 2)⟩, ⟨(some 27), none, .call 99 [(.tmp 23), (.tmp 24), (.tmp 25), (.tmp 26)]⟩])
 (.block 2 (.loop [0, 1, 2, 6] [] sc_slices_stableCmpFunc_api_Rule_L1))))))
theorem fn_slices_stableCmpFunc_api_Rule : FnOk Try.prog 84 Try.f84 sc_slices_stableCmpFunc_api_Rule [] 3 := ⟨Try.func84, by kernel_rfl, by kernel_rfl, by kernel_rfl, by kernel_rfl, by kernel_rfl, by kernel_rfl⟩

/- 90 slices.ContainsFunc[[]int,int]: slots 0 s, 1 f, 2 s, 3 f -/
def sc_slices_ContainsFunc_int_int : SCode :=
 (.seq (.reg [0, 1] [⟨(some 4), none, .mv (.const (.bool false))⟩])
 (.seq (.reg [0, 1] [⟨(some 5), none, .mv (.tmp 0)⟩, ⟨(some 6), none, .mv (.tmp 1)⟩, ⟨(some 7), none, .call 101 [(.tmp 5), (.tmp 6)]⟩, ⟨(some 8), none, .bin .geq 3 (.tmp 7) (.const (.int .i64 0))⟩, ⟨(some 4), none, .mv (.tmp 8)⟩])
 .ret))
theorem fn_slices_ContainsFunc_int_int : FnOk Try.prog 90 Try.f90 sc_slices_ContainsFunc_int_int [.tmp 4] 2 := ⟨Try.func90, by kernel_rfl, by kernel_rfl, by kernel_rfl, by kernel_rfl, by kernel_rfl, by kernel_rfl⟩

/- 91 slices.Contains[[]int,int]: slots 0 s, 1 v, 2 s, 3 v -/
def sc_slices_Contains_int_int : SCode :=
 (.seq (.reg [0, 1] [⟨(some 4), none, .mv (.const (.bool false))⟩])
 (.seq (.reg [0, 1] [⟨(some 5), none, .mv (.tmp 0)⟩, ⟨(some 6), none, .mv (.tmp 1)⟩, ⟨(some 7), none, .call 102 [(.tmp 5), (.tmp 6)]⟩, ⟨(some 8), none, .bin .geq 3 (.tmp 7) (.const (.int .i64 0))⟩, ⟨(some 4), none, .mv (.tmp 8)⟩])
 .ret))
theorem fn_slices_Contains_int_int : FnOk Try.prog 91 Try.f91 sc_slices_Contains_int_int [.tmp 4] 2 := ⟨Try.func91, by kernel_rfl, by kernel_rfl, by kernel_rfl, by kernel_rfl, by kernel_rfl, by kernel_rfl⟩

/- loop of slices.IndexFunc[[]waymark/api.Rule,waymark/api.Rule], wants [0, 1, 7, 8] [] -/
def sc_slices_IndexFunc_api_Rule_api_Rule_L0 : SCode :=
 (.seq (.reg [0, 1, 7, 8] [⟨(some 9), none, .bin .lss 3 (.tmp 8) (.tmp 7)⟩])
 (.seq (.cond (.tmp 9) .skip (.exit 0))
 (.seq (.block 1 (.seq (.reg [0, 1, 7, 8] [⟨(some 10), none, .mv (.tmp 8)⟩, ⟨(some 5), none, .mv (.tmp 10)⟩])
 (.seq (.reg [0, 1, 5, 7, 8] [⟨(some 11), none, .mv (.tmp 1)⟩, ⟨(some 12), none, .mv (.tmp 0)⟩, ⟨(some 13), none, .mv (.tmp 5)⟩, ⟨(some 14), none, .ia none 17 (.tmp 12) (.tmp 13)⟩, ⟨(some 15), none, .load 17 true (.tmp 14)⟩, ⟨(some 16), none, .cald (.tmp 11) [(.tmp 15)]⟩])
 (.cond (.tmp 16) (.seq (.reg [5] [⟨(some 17), none, .mv (.tmp 5)⟩, ⟨(some 4), none, .mv (.tmp 17)⟩])
 .ret) .skip))))
 (.reg [0, 1, 7, 8] [⟨(some 18), none, .bin .add 3 (.tmp 8) (.const (.int .i64 1))⟩, ⟨(some 8), none, .mv (.tmp 18)⟩]))))
/- 96 slices.IndexFunc[[]waymark/api.Rule,waymark/api.Rule]: slots 0 s, 1 f, 2 s, 3 f, 5 i -/
def sc_slices_IndexFunc_api_Rule_api_Rule : SCode :=
 (.seq (.reg [0, 1] [⟨(some 4), none, .mv (.const (.int .i64 0))⟩])
 (.seq (.seq (.reg [0, 1] [⟨(some 6), none, .mv (.tmp 0)⟩, ⟨(some 7), none, .len false (.tmp 6)⟩, ⟨(some 8), none, .mv (.const (.int .i64 0))⟩])
 (.block 0 (.loop [0, 1, 7, 8] [] sc_slices_IndexFunc_api_Rule_api_Rule_L0)))
 (.seq (.reg [] [⟨(some 4), none, .mv (.const (.int .i64 (-1)))⟩])
 .ret)))
theorem fn_slices_IndexFunc_api_Rule_api_Rule : FnOk Try.prog 96 Try.f96 sc_slices_IndexFunc_api_Rule_api_Rule [.tmp 4] 2 := ⟨Try.func96, by kernel_rfl, by kernel_rfl, by kernel_rfl, by kernel_rfl, by kernel_rfl, by kernel_rfl⟩

/- loop of slices.insertionSortCmpFunc[waymark/api.Rule], wants [0, 1, 2, 3, 8, 9] [] -/
def sc_slices_insertionSortCmpFunc_api_Rule_L0 : SCode :=
 (.seq (.seq (.draw [0, 1, 2, 3, 8, 9] [⟨(some 18), none, .mv (.tmp 9)⟩, ⟨(some 19), none, .mv (.tmp 1)⟩, ⟨(some 20), none, .bin .gtr 3 (.tmp 18) (.tmp 19)⟩, ⟨(some 21), none, .mv (.tmp 20)⟩, ⟨(some 22), (some (21, true)), .mv (.tmp 3)⟩, ⟨(some 23), (some (21, true)), .mv (.tmp 0)⟩, ⟨(some 24), (some (21, true)), .mv (.tmp 9)⟩, ⟨(some 25), (some (21, true)), .ia none 17 (.tmp 23) (.tmp 24)⟩, ⟨(some 26), (some (21, true)), .load 17 true (.tmp 25)⟩, ⟨(some 27), (some (21, true)), .mv (.tmp 0)⟩, ⟨(some 28), (some (21, true)), .mv (.tmp 9)⟩, ⟨(some 29), (some (21, true)), .bin .sub 3 (.tmp 28) (.const (.int .i64 1))⟩, ⟨(some 30), (some (21, true)), .ia none 17 (.tmp 27) (.tmp 29)⟩, ⟨(some 31), (some (21, true)), .load 17 true (.tmp 30)⟩, ⟨(some 32), (some (21, true)), .cald (.tmp 22) [(.tmp 26), (.tmp 31)]⟩, ⟨(some 33), (some (21, true)), .bin .lss 3 (.tmp 32) (.const (.int .i64 0))⟩, ⟨(some 34), none, .pick (.tmp 21) (.tmp 33) (.const (.bool false))⟩])
 (.cond (.tmp 34) .skip (.exit 2)))
 (.seq (.block 3 (.draw [0, 1, 2, 3, 8, 9] [⟨(some 37), none, .mv (.tmp 0)⟩, ⟨(some 38), none, .mv (.tmp 9)⟩, ⟨(some 39), none, .mv (.tmp 0)⟩, ⟨(some 40), none, .mv (.tmp 9)⟩, ⟨(some 41), none, .bin .sub 3 (.tmp 40) (.const (.int .i64 1))⟩, ⟨(some 42), none, .mv (.tmp 0)⟩, ⟨(some 43), none, .mv (.tmp 9)⟩, ⟨(some 44), none, .bin .sub 3 (.tmp 43) (.const (.int .i64 1))⟩, ⟨(some 45), none, .ia none 17 (.tmp 42) (.tmp 44)⟩, ⟨(some 46), none, .load 17 true (.tmp 45)⟩, ⟨(some 47), none, .mv (.tmp 0)⟩, ⟨(some 48), none, .mv (.tmp 9)⟩, ⟨(some 49), none, .ia none 17 (.tmp 47) (.tmp 48)⟩, ⟨(some 50), none, .load 17 true (.tmp 49)⟩, ⟨(some 51), none, .ia none 17 (.tmp 37) (.tmp 38)⟩, ⟨none, none, .store 17 (.tmp 51) (.tmp 46)⟩, ⟨(some 52), none, .ia none 17 (.tmp 39) (.tmp 41)⟩, ⟨none, none, .store 17 (.tmp 52) (.tmp 50)⟩]))
 (.reg [0, 1, 2, 3, 8, 9] [⟨(some 35), none, .mv (.tmp 9)⟩, ⟨(some 36), none, .bin .sub 3 (.tmp 35) (.const (.int .i64 1))⟩, ⟨(some 9), none, .mv (.tmp 36)⟩])))
/- loop of slices.insertionSortCmpFunc[waymark/api.Rule], wants [0, 1, 2, 3, 8] [] -/
def sc_slices_insertionSortCmpFunc_api_Rule_L1 : SCode :=
 (.seq (.seq (.reg [0, 1, 2, 3, 8] [⟨(some 12), none, .mv (.tmp 8)⟩, ⟨(some 13), none, .mv (.tmp 2)⟩, ⟨(some 14), none, .bin .lss 3 (.tmp 12) (.tmp 13)⟩])
 (.cond (.tmp 14) .skip (.exit 0)))
 (.seq (.block 1 (.seq (.reg [0, 1, 2, 3, 8] [⟨(some 17), none, .mv (.tmp 8)⟩, ⟨(some 9), none, .mv (.tmp 17)⟩])
 (.block 2 (.loop [0, 1, 2, 3, 8, 9] [] sc_slices_insertionSortCmpFunc_api_Rule_L0))))
 (.reg [0, 1, 2, 3, 8] [⟨(some 15), none, .mv (.tmp 8)⟩, ⟨(some 16), none, .bin .add 3 (.tmp 15) (.const (.int .i64 1))⟩, ⟨(some 8), none, .mv (.tmp 16)⟩])))
/- 99 slices.insertionSortCmpFunc[waymark/api.Rule]: slots 0 data, 1 a, 2 b, 3 cmp, 4 data, 5 a, 6 b, 7 cmp, 8 i, 9 j -/
def sc_slices_insertionSortCmpFunc_api_Rule : SCode :=
 (.seq (.reg [0, 1, 2, 3] [⟨(some 10), none, .mv (.tmp 1)⟩, ⟨(some 11), none, .bin .add 3 (.tmp 10) (.const (.int .i64 1))⟩, ⟨(some 8), none, .mv (.tmp 11)⟩])
 (.block 0 (.loop [0, 1, 2, 3, 8] [] sc_slices_insertionSortCmpFunc_api_Rule_L1)))
theorem fn_slices_insertionSortCmpFunc_api_Rule : FnOk Try.prog 99 Try.f99 sc_slices_insertionSortCmpFunc_api_Rule [] 4 := ⟨Try.func99, by kernel_rfl, by kernel_rfl, by kernel_rfl, by kernel_rfl, by kernel_rfl, by kernel_rfl⟩

/- loop of slices.symMergeCmpFunc[waymark/api.Rule], wants [0, 1, 2, 3, 4, 18, 19, 20, 21, 22] [] -/
def sc_slices_symMergeCmpFunc_api_Rule_L0 : SCode :=
 (.seq (.seq (.reg [0, 1, 2, 3, 4, 18, 19, 20, 21, 22] [⟨(some 149), none, .mv (.tmp 20)⟩, ⟨(some 150), none, .mv (.tmp 21)⟩, ⟨(some 151), none, .bin .lss 3 (.tmp 149) (.tmp 150)⟩])
 (.cond (.tmp 151) .skip (.exit 8)))
 (.block 9 (.seq (.reg [0, 1, 2, 3, 4, 18, 19, 20, 21, 22] [⟨(some 152), none, .mv (.tmp 20)⟩, ⟨(some 153), none, .mv (.tmp 21)⟩, ⟨(some 154), none, .bin .add 3 (.tmp 152) (.tmp 153)⟩, ⟨(some 155), none, .cnv .u64 (.tmp 154)⟩, ⟨(some 156), none, .bin .shr 104 (.tmp 155) (.const (.int .u64 1))⟩, ⟨(some 157), none, .cnv .i64 (.tmp 156)⟩, ⟨(some 23), none, .mv (.tmp 157)⟩])
 (.seq (.draw [0, 1, 2, 3, 4, 18, 19, 20, 21, 22, 23] [⟨(some 158), none, .mv (.tmp 4)⟩, ⟨(some 159), none, .mv (.tmp 0)⟩, ⟨(some 160), none, .mv (.tmp 22)⟩, ⟨(some 161), none, .mv (.tmp 23)⟩, ⟨(some 162), none, .bin .sub 3 (.tmp 160) (.tmp 161)⟩, ⟨(some 163), none, .ia none 17 (.tmp 159) (.tmp 162)⟩, ⟨(some 164), none, .load 17 true (.tmp 163)⟩, ⟨(some 165), none, .mv (.tmp 0)⟩, ⟨(some 166), none, .mv (.tmp 23)⟩, ⟨(some 167), none, .ia none 17 (.tmp 165) (.tmp 166)⟩, ⟨(some 168), none, .load 17 true (.tmp 167)⟩, ⟨(some 169), none, .cald (.tmp 158) [(.tmp 164), (.tmp 168)]⟩, ⟨(some 170), none, .bin .lss 3 (.tmp 169) (.const (.int .i64 0))⟩, ⟨(some 171), none, .un .not (.tmp 170)⟩])
 (.cond (.tmp 171) (.reg [0, 1, 2, 3, 4, 18, 19, 21, 22, 23] [⟨(some 172), none, .mv (.tmp 23)⟩, ⟨(some 173), none, .bin .add 3 (.tmp 172) (.const (.int .i64 1))⟩, ⟨(some 20), none, .mv (.tmp 173)⟩]) (.reg [0, 1, 2, 3, 4, 18, 19, 20, 22, 23] [⟨(some 174), none, .mv (.tmp 23)⟩, ⟨(some 21), none, .mv (.tmp 174)⟩]))))))
/- loop of slices.symMergeCmpFunc[waymark/api.Rule], wants [0, 14, 17] [] -/
def sc_slices_symMergeCmpFunc_api_Rule_L1 : SCode :=
 (.seq (.seq (.reg [0, 14, 17] [⟨(some 108), none, .mv (.tmp 17)⟩, ⟨(some 109), none, .mv (.tmp 14)⟩, ⟨(some 110), none, .bin .gtr 3 (.tmp 108) (.tmp 109)⟩])
 (.cond (.tmp 110) .skip (.exit 6)))
 (.seq (.block 7 (.draw [0, 14, 17] [⟨(some 113), none, .mv (.tmp 0)⟩, ⟨(some 114), none, .mv (.tmp 17)⟩, ⟨(some 115), none, .mv (.tmp 0)⟩, ⟨(some 116), none, .mv (.tmp 17)⟩, ⟨(some 117), none, .bin .sub 3 (.tmp 116) (.const (.int .i64 1))⟩, ⟨(some 118), none, .mv (.tmp 0)⟩, ⟨(some 119), none, .mv (.tmp 17)⟩, ⟨(some 120), none, .bin .sub 3 (.tmp 119) (.const (.int .i64 1))⟩, ⟨(some 121), none, .ia none 17 (.tmp 118) (.tmp 120)⟩, ⟨(some 122), none, .load 17 true (.tmp 121)⟩, ⟨(some 123), none, .mv (.tmp 0)⟩, ⟨(some 124), none, .mv (.tmp 17)⟩, ⟨(some 125), none, .ia none 17 (.tmp 123) (.tmp 124)⟩, ⟨(some 126), none, .load 17 true (.tmp 125)⟩, ⟨(some 127), none, .ia none 17 (.tmp 113) (.tmp 114)⟩, ⟨none, none, .store 17 (.tmp 127) (.tmp 122)⟩, ⟨(some 128), none, .ia none 17 (.tmp 115) (.tmp 117)⟩, ⟨none, none, .store 17 (.tmp 128) (.tmp 126)⟩]))
 (.reg [0, 14, 17] [⟨(some 111), none, .mv (.tmp 17)⟩, ⟨(some 112), none, .bin .sub 3 (.tmp 111) (.const (.int .i64 1))⟩, ⟨(some 17), none, .mv (.tmp 112)⟩])))
/- loop of slices.symMergeCmpFunc[waymark/api.Rule], wants [0, 2, 4, 14, 15] [] -/
def sc_slices_symMergeCmpFunc_api_Rule_L2 : SCode :=
 (.seq (.seq (.reg [0, 2, 4, 14, 15] [⟨(some 83), none, .mv (.tmp 14)⟩, ⟨(some 84), none, .mv (.tmp 15)⟩, ⟨(some 85), none, .bin .lss 3 (.tmp 83) (.tmp 84)⟩])
 (.cond (.tmp 85) .skip (.exit 4)))
 (.block 5 (.seq (.reg [0, 2, 4, 14, 15] [⟨(some 86), none, .mv (.tmp 14)⟩, ⟨(some 87), none, .mv (.tmp 15)⟩, ⟨(some 88), none, .bin .add 3 (.tmp 86) (.tmp 87)⟩, ⟨(some 89), none, .cnv .u64 (.tmp 88)⟩, ⟨(some 90), none, .bin .shr 104 (.tmp 89) (.const (.int .u64 1))⟩, ⟨(some 91), none, .cnv .i64 (.tmp 90)⟩, ⟨(some 16), none, .mv (.tmp 91)⟩])
 (.seq (.draw [0, 2, 4, 14, 15, 16] [⟨(some 92), none, .mv (.tmp 4)⟩, ⟨(some 93), none, .mv (.tmp 0)⟩, ⟨(some 94), none, .mv (.tmp 2)⟩, ⟨(some 95), none, .ia none 17 (.tmp 93) (.tmp 94)⟩, ⟨(some 96), none, .load 17 true (.tmp 95)⟩, ⟨(some 97), none, .mv (.tmp 0)⟩, ⟨(some 98), none, .mv (.tmp 16)⟩, ⟨(some 99), none, .ia none 17 (.tmp 97) (.tmp 98)⟩, ⟨(some 100), none, .load 17 true (.tmp 99)⟩, ⟨(some 101), none, .cald (.tmp 92) [(.tmp 96), (.tmp 100)]⟩, ⟨(some 102), none, .bin .lss 3 (.tmp 101) (.const (.int .i64 0))⟩, ⟨(some 103), none, .un .not (.tmp 102)⟩])
 (.cond (.tmp 103) (.reg [0, 2, 4, 15, 16] [⟨(some 104), none, .mv (.tmp 16)⟩, ⟨(some 105), none, .bin .add 3 (.tmp 104) (.const (.int .i64 1))⟩, ⟨(some 14), none, .mv (.tmp 105)⟩]) (.reg [0, 2, 4, 14, 16] [⟨(some 106), none, .mv (.tmp 16)⟩, ⟨(some 15), none, .mv (.tmp 106)⟩]))))))
/- loop of slices.symMergeCmpFunc[waymark/api.Rule], wants [0, 10, 13] [] -/
def sc_slices_symMergeCmpFunc_api_Rule_L3 : SCode :=
 (.seq (.seq (.reg [0, 10, 13] [⟨(some 55), none, .mv (.tmp 13)⟩, ⟨(some 56), none, .mv (.tmp 10)⟩, ⟨(some 57), none, .bin .sub 3 (.tmp 56) (.const (.int .i64 1))⟩, ⟨(some 58), none, .bin .lss 3 (.tmp 55) (.tmp 57)⟩])
 (.cond (.tmp 58) .skip (.exit 2)))
 (.seq (.block 3 (.draw [0, 10, 13] [⟨(some 61), none, .mv (.tmp 0)⟩, ⟨(some 62), none, .mv (.tmp 13)⟩, ⟨(some 63), none, .mv (.tmp 0)⟩, ⟨(some 64), none, .mv (.tmp 13)⟩, ⟨(some 65), none, .bin .add 3 (.tmp 64) (.const (.int .i64 1))⟩, ⟨(some 66), none, .mv (.tmp 0)⟩, ⟨(some 67), none, .mv (.tmp 13)⟩, ⟨(some 68), none, .bin .add 3 (.tmp 67) (.const (.int .i64 1))⟩, ⟨(some 69), none, .ia none 17 (.tmp 66) (.tmp 68)⟩, ⟨(some 70), none, .load 17 true (.tmp 69)⟩, ⟨(some 71), none, .mv (.tmp 0)⟩, ⟨(some 72), none, .mv (.tmp 13)⟩, ⟨(some 73), none, .ia none 17 (.tmp 71) (.tmp 72)⟩, ⟨(some 74), none, .load 17 true (.tmp 73)⟩, ⟨(some 75), none, .ia none 17 (.tmp 61) (.tmp 62)⟩, ⟨none, none, .store 17 (.tmp 75) (.tmp 70)⟩, ⟨(some 76), none, .ia none 17 (.tmp 63) (.tmp 65)⟩, ⟨none, none, .store 17 (.tmp 76) (.tmp 74)⟩]))
 (.reg [0, 10, 13] [⟨(some 59), none, .mv (.tmp 13)⟩, ⟨(some 60), none, .bin .add 3 (.tmp 59) (.const (.int .i64 1))⟩, ⟨(some 13), none, .mv (.tmp 60)⟩])))
/- loop of slices.symMergeCmpFunc[waymark/api.Rule], wants [0, 1, 4, 10, 11] [] -/
def sc_slices_symMergeCmpFunc_api_Rule_L4 : SCode :=
 (.seq (.seq (.reg [0, 1, 4, 10, 11] [⟨(some 31), none, .mv (.tmp 10)⟩, ⟨(some 32), none, .mv (.tmp 11)⟩, ⟨(some 33), none, .bin .lss 3 (.tmp 31) (.tmp 32)⟩])
 (.cond (.tmp 33) .skip (.exit 0)))
 (.block 1 (.seq (.reg [0, 1, 4, 10, 11] [⟨(some 34), none, .mv (.tmp 10)⟩, ⟨(some 35), none, .mv (.tmp 11)⟩, ⟨(some 36), none, .bin .add 3 (.tmp 34) (.tmp 35)⟩, ⟨(some 37), none, .cnv .u64 (.tmp 36)⟩, ⟨(some 38), none, .bin .shr 104 (.tmp 37) (.const (.int .u64 1))⟩, ⟨(some 39), none, .cnv .i64 (.tmp 38)⟩, ⟨(some 12), none, .mv (.tmp 39)⟩])
 (.seq (.draw [0, 1, 4, 10, 11, 12] [⟨(some 40), none, .mv (.tmp 4)⟩, ⟨(some 41), none, .mv (.tmp 0)⟩, ⟨(some 42), none, .mv (.tmp 12)⟩, ⟨(some 43), none, .ia none 17 (.tmp 41) (.tmp 42)⟩, ⟨(some 44), none, .load 17 true (.tmp 43)⟩, ⟨(some 45), none, .mv (.tmp 0)⟩, ⟨(some 46), none, .mv (.tmp 1)⟩, ⟨(some 47), none, .ia none 17 (.tmp 45) (.tmp 46)⟩, ⟨(some 48), none, .load 17 true (.tmp 47)⟩, ⟨(some 49), none, .cald (.tmp 40) [(.tmp 44), (.tmp 48)]⟩, ⟨(some 50), none, .bin .lss 3 (.tmp 49) (.const (.int .i64 0))⟩])
 (.cond (.tmp 50) (.reg [0, 1, 4, 11, 12] [⟨(some 51), none, .mv (.tmp 12)⟩, ⟨(some 52), none, .bin .add 3 (.tmp 51) (.const (.int .i64 1))⟩, ⟨(some 10), none, .mv (.tmp 52)⟩]) (.reg [0, 1, 4, 10, 12] [⟨(some 53), none, .mv (.tmp 12)⟩, ⟨(some 11), none, .mv (.tmp 53)⟩]))))))
/- 100 slices.symMergeCmpFunc[waymark/api.Rule]: slots 0 data, 1 a, 2 m, 3 b, 4 cmp, 5 data, 6 a, 7 m, 8 b, 9 cmp, 10 i, 11 j, 12 h, 13 k, 14 i, 15 j, 16 h, 17 k, 18 mid, 19 n, 20 start, 21 r, 22 p, 23 c, 24 end -/
def sc_slices_symMergeCmpFunc_api_Rule : SCode :=
 (.seq (.seq (.reg [0, 1, 2, 3, 4] [⟨(some 25), none, .mv (.tmp 2)⟩, ⟨(some 26), none, .mv (.tmp 1)⟩, ⟨(some 27), none, .bin .sub 3 (.tmp 25) (.tmp 26)⟩, ⟨(some 28), none, .bin .eql 3 (.tmp 27) (.const (.int .i64 1))⟩])
 (.cond (.tmp 28) (.seq (.reg [0, 1, 2, 3, 4] [⟨(some 29), none, .mv (.tmp 2)⟩, ⟨(some 10), none, .mv (.tmp 29)⟩])
 (.seq (.reg [0, 1, 3, 4, 10] [⟨(some 30), none, .mv (.tmp 3)⟩, ⟨(some 11), none, .mv (.tmp 30)⟩])
 (.seq (.block 0 (.loop [0, 1, 4, 10, 11] [] sc_slices_symMergeCmpFunc_api_Rule_L4))
 (.seq (.seq (.reg [0, 1, 10] [⟨(some 54), none, .mv (.tmp 1)⟩, ⟨(some 13), none, .mv (.tmp 54)⟩])
 (.block 2 (.loop [0, 10, 13] [] sc_slices_symMergeCmpFunc_api_Rule_L3)))
 .ret)))) .skip))
 (.seq (.seq (.reg [0, 1, 2, 3, 4] [⟨(some 77), none, .mv (.tmp 3)⟩, ⟨(some 78), none, .mv (.tmp 2)⟩, ⟨(some 79), none, .bin .sub 3 (.tmp 77) (.tmp 78)⟩, ⟨(some 80), none, .bin .eql 3 (.tmp 79) (.const (.int .i64 1))⟩])
 (.cond (.tmp 80) (.seq (.reg [0, 1, 2, 4] [⟨(some 81), none, .mv (.tmp 1)⟩, ⟨(some 14), none, .mv (.tmp 81)⟩])
 (.seq (.reg [0, 2, 4, 14] [⟨(some 82), none, .mv (.tmp 2)⟩, ⟨(some 15), none, .mv (.tmp 82)⟩])
 (.seq (.block 4 (.loop [0, 2, 4, 14, 15] [] sc_slices_symMergeCmpFunc_api_Rule_L2))
 (.seq (.seq (.reg [0, 2, 14] [⟨(some 107), none, .mv (.tmp 2)⟩, ⟨(some 17), none, .mv (.tmp 107)⟩])
 (.block 6 (.loop [0, 14, 17] [] sc_slices_symMergeCmpFunc_api_Rule_L1)))
 .ret)))) .skip))
 (.seq (.reg [0, 1, 2, 3, 4] [⟨(some 129), none, .mv (.tmp 1)⟩, ⟨(some 130), none, .mv (.tmp 3)⟩, ⟨(some 131), none, .bin .add 3 (.tmp 129) (.tmp 130)⟩, ⟨(some 132), none, .cnv .u64 (.tmp 131)⟩, ⟨(some 133), none, .bin .shr 104 (.tmp 132) (.const (.int .u64 1))⟩, ⟨(some 134), none, .cnv .i64 (.tmp 133)⟩, ⟨(some 18), none, .mv (.tmp 134)⟩])
 (.seq (.reg [0, 1, 2, 3, 4, 18] [⟨(some 135), none, .mv (.tmp 18)⟩, ⟨(some 136), none, .mv (.tmp 2)⟩, ⟨(some 137), none, .bin .add 3 (.tmp 135) (.tmp 136)⟩, ⟨(some 19), none, .mv (.tmp 137)⟩])
 (.seq (.reg [0, 1, 2, 3, 4, 18, 19] [⟨(some 20), none, .mv (.const (.int .i64 0))⟩, ⟨(some 21), none, .mv (.const (.int .i64 0))⟩])
 (.seq (.seq (.reg [0, 1, 2, 3, 4, 18, 19] [⟨(some 138), none, .mv (.tmp 2)⟩, ⟨(some 139), none, .mv (.tmp 18)⟩, ⟨(some 140), none, .bin .gtr 3 (.tmp 138) (.tmp 139)⟩])
 (.cond (.tmp 140) (.seq (.reg [0, 1, 2, 3, 4, 18, 19] [⟨(some 141), none, .mv (.tmp 19)⟩, ⟨(some 142), none, .mv (.tmp 3)⟩, ⟨(some 143), none, .bin .sub 3 (.tmp 141) (.tmp 142)⟩, ⟨(some 20), none, .mv (.tmp 143)⟩])
 (.reg [0, 1, 2, 3, 4, 18, 19, 20] [⟨(some 144), none, .mv (.tmp 18)⟩, ⟨(some 21), none, .mv (.tmp 144)⟩])) (.seq (.reg [0, 1, 2, 3, 4, 18, 19] [⟨(some 145), none, .mv (.tmp 1)⟩, ⟨(some 20), none, .mv (.tmp 145)⟩])
 (.reg [0, 1, 2, 3, 4, 18, 19, 20] [⟨(some 146), none, .mv (.tmp 2)⟩, ⟨(some 21), none, .mv (.tmp 146)⟩]))))
 (.seq (.reg [0, 1, 2, 3, 4, 18, 19, 20, 21] [⟨(some 147), none, .mv (.tmp 19)⟩, ⟨(some 148), none, .bin .sub 3 (.tmp 147) (.const (.int .i64 1))⟩, ⟨(some 22), none, .mv (.tmp 148)⟩])
 (.seq (.block 8 (.loop [0, 1, 2, 3, 4, 18, 19, 20, 21, 22] [] sc_slices_symMergeCmpFunc_api_Rule_L0))
 (.seq (.reg [0, 1, 2, 3, 4, 18, 19, 20] [⟨(some 175), none, .mv (.tmp 19)⟩, ⟨(some 176), none, .mv (.tmp 20)⟩, ⟨(some 177), none, .bin .sub 3 (.tmp 175) (.tmp 176)⟩, ⟨(some 24), none, .mv (.tmp 177)⟩])
 (.seq (.seq (.reg [0, 1, 2, 3, 4, 18, 20, 24] [⟨(some 178), none, .mv (.tmp 20)⟩, ⟨(some 179), none, .mv (.tmp 2)⟩, ⟨(some 180), none, .bin .lss 3 (.tmp 178) (.tmp 179)⟩, ⟨(some 181), none, .mv (.tmp 180)⟩, ⟨(some 182), (some (181, true)), .mv (.tmp 2)⟩, ⟨(some 183), (some (181, true)), .mv (.tmp 24)⟩, ⟨(some 184), (some (181, true)), .bin .lss 3 (.tmp 182) (.tmp 183)⟩, ⟨(some 185), none, .pick (.tmp 181) (.tmp 184) (.const (.bool false))⟩])
 (.cond (.tmp 185) (.reg [0, 1, 2, 3, 4, 18, 20, 24] [⟨(some 186), none, .mv (.tmp 0)⟩, ⟨(some 187), none, .mv (.tmp 20)⟩, ⟨(some 188), none, .mv (.tmp 2)⟩, ⟨(some 189), none, .mv (.tmp 24)⟩, ⟨(some 190), none, .mv (.tmp 4)⟩, ⟨(some 191), none, .call 108 [(.tmp 186), (.tmp 187), (.tmp 188), (.tmp 189), (.tmp 190)]⟩]) .skip))
 (.seq (.seq (.reg [0, 1, 3, 4, 18, 20, 24] [⟨(some 192), none, .mv (.tmp 1)⟩, ⟨(some 193), none, .mv (.tmp 20)⟩, ⟨(some 194), none, .bin .lss 3 (.tmp 192) (.tmp 193)⟩, ⟨(some 195), none, .mv (.tmp 194)⟩, ⟨(some 196), (some (195, true)), .mv (.tmp 20)⟩, ⟨(some 197), (some (195, true)), .mv (.tmp 18)⟩, ⟨(some 198), (some (195, true)), .bin .lss 3 (.tmp 196) (.tmp 197)⟩, ⟨(some 199), none, .pick (.tmp 195) (.tmp 198) (.const (.bool false))⟩])
 (.cond (.tmp 199) (.reg [0, 1, 3, 4, 18, 20, 24] [⟨(some 200), none, .mv (.tmp 0)⟩, ⟨(some 201), none, .mv (.tmp 1)⟩, ⟨(some 202), none, .mv (.tmp 20)⟩, ⟨(some 203), none, .mv (.tmp 18)⟩, ⟨(some 204), none, .mv (.tmp 4)⟩, ⟨(some 205), none, .call 100 [(.tmp 200), (.tmp 201), (.tmp 202), (.tmp 203), (.tmp 204)]⟩]) .skip))
 (.seq (.reg [0, 3, 4, 18, 24] [⟨(some 206), none, .mv (.tmp 18)⟩, ⟨(some 207), none, .mv (.tmp 24)⟩, ⟨(some 208), none, .bin .lss 3 (.tmp 206) (.tmp 207)⟩, ⟨(some 209), none, .mv (.tmp 208)⟩, ⟨(some 210), (some (209, true)), .mv (.tmp 24)⟩, ⟨(some 211), (some (209, true)), .mv (.tmp 3)⟩, ⟨(some 212), (some (209, true)), .bin .lss 3 (.tmp 210) (.tmp 211)⟩, ⟨(some 213), none, .pick (.tmp 209) (.tmp 212) (.const (.bool false))⟩])
 (.cond (.tmp 213) (.reg [0, 3, 4, 18, 24] [⟨(some 214), none, .mv (.tmp 0)⟩, ⟨(some 215), none, .mv (.tmp 18)⟩, ⟨(some 216), none, .mv (.tmp 24)⟩, ⟨(some 217), none, .mv (.tmp 3)⟩, ⟨(some 218), none, .mv (.tmp 4)⟩, ⟨(some 219), none, .call 100 [(.tmp 214), (.tmp 215), (.tmp 216), (.tmp 217), (.tmp 218)]⟩]) .skip)))))))))))))
theorem fn_slices_symMergeCmpFunc_api_Rule : FnOk Try.prog 100 Try.f100 sc_slices_symMergeCmpFunc_api_Rule [] 5 := ⟨Try.func100, by kernel_rfl, by kernel_rfl, by kernel_rfl, by kernel_rfl, by kernel_rfl, by kernel_rfl⟩

/- loop of slices.IndexFunc[[]int,int], wants [0, 1, 7, 8] [] -/
def sc_slices_IndexFunc_int_int_L0 : SCode :=
 (.seq (.reg [0, 1, 7, 8] [⟨(some 9), none, .bin .lss 3 (.tmp 8) (.tmp 7)⟩])
 (.seq (.cond (.tmp 9) .skip (.exit 0))
 (.seq (.block 1 (.seq (.reg [0, 1, 7, 8] [⟨(some 10), none, .mv (.tmp 8)⟩, ⟨(some 5), none, .mv (.tmp 10)⟩])
 (.seq (.reg [0, 1, 5, 7, 8] [⟨(some 11), none, .mv (.tmp 1)⟩, ⟨(some 12), none, .mv (.tmp 0)⟩, ⟨(some 13), none, .mv (.tmp 5)⟩, ⟨(some 14), none, .ia none 1 (.tmp 12) (.tmp 13)⟩, ⟨(some 15), none, .load 1 false (.tmp 14)⟩, ⟨(some 16), none, .cald (.tmp 11) [(.tmp 15)]⟩])
 (.cond (.tmp 16) (.seq (.reg [5] [⟨(some 17), none, .mv (.tmp 5)⟩, ⟨(some 4), none, .mv (.tmp 17)⟩])
 .ret) .skip))))
 (.reg [0, 1, 7, 8] [⟨(some 18), none, .bin .add 3 (.tmp 8) (.const (.int .i64 1))⟩, ⟨(some 8), none, .mv (.tmp 18)⟩]))))
/- 101 slices.IndexFunc[[]int,int]: slots 0 s, 1 f, 2 s, 3 f, 5 i -/
def sc_slices_IndexFunc_int_int : SCode :=
 (.seq (.reg [0, 1] [⟨(some 4), none, .mv (.const (.int .i64 0))⟩])
 (.seq (.seq (.reg [0, 1] [⟨(some 6), none, .mv (.tmp 0)⟩, ⟨(some 7), none, .len false (.tmp 6)⟩, ⟨(some 8), none, .mv (.const (.int .i64 0))⟩])
 (.block 0 (.loop [0, 1, 7, 8] [] sc_slices_IndexFunc_int_int_L0)))
 (.seq (.reg [] [⟨(some 4), none, .mv (.const (.int .i64 (-1)))⟩])
 .ret)))
theorem fn_slices_IndexFunc_int_int : FnOk Try.prog 101 Try.f101 sc_slices_IndexFunc_int_int [.tmp 4] 2 := ⟨Try.func101, by kernel_rfl, by kernel_rfl, by kernel_rfl, by kernel_rfl, by kernel_rfl, by kernel_rfl⟩

/- loop of slices.Index[[]int,int], wants [0, 1, 7, 8] [] -/
def sc_slices_Index_int_int_L0 : SCode :=
 (.seq (.reg [0, 1, 7, 8] [⟨(some 9), none, .bin .lss 3 (.tmp 8) (.tmp 7)⟩])
 (.seq (.cond (.tmp 9) .skip (.exit 0))
 (.seq (.block 1 (.seq (.reg [0, 1, 7, 8] [⟨(some 10), none, .mv (.tmp 8)⟩, ⟨(some 5), none, .mv (.tmp 10)⟩])
 (.seq (.reg [0, 1, 5, 7, 8] [⟨(some 11), none, .mv (.tmp 1)⟩, ⟨(some 12), none, .mv (.tmp 0)⟩, ⟨(some 13), none, .mv (.tmp 5)⟩, ⟨(some 14), none, .ia none 1 (.tmp 12) (.tmp 13)⟩, ⟨(some 15), none, .load 1 false (.tmp 14)⟩, ⟨(some 16), none, .bin .eql 3 (.tmp 11) (.tmp 15)⟩])
 (.cond (.tmp 16) (.seq (.reg [5] [⟨(some 17), none, .mv (.tmp 5)⟩, ⟨(some 4), none, .mv (.tmp 17)⟩])
 .ret) .skip))))
 (.reg [0, 1, 7, 8] [⟨(some 18), none, .bin .add 3 (.tmp 8) (.const (.int .i64 1))⟩, ⟨(some 8), none, .mv (.tmp 18)⟩]))))
/- 102 slices.Index[[]int,int]: slots 0 s, 1 v, 2 s, 3 v, 5 i -/
def sc_slices_Index_int_int : SCode :=
 (.seq (.reg [0, 1] [⟨(some 4), none, .mv (.const (.int .i64 0))⟩])
 (.seq (.seq (.reg [0, 1] [⟨(some 6), none, .mv (.tmp 0)⟩, ⟨(some 7), none, .len false (.tmp 6)⟩, ⟨(some 8), none, .mv (.const (.int .i64 0))⟩])
 (.block 0 (.loop [0, 1, 7, 8] [] sc_slices_Index_int_int_L0)))
 (.seq (.reg [] [⟨(some 4), none, .mv (.const (.int .i64 (-1)))⟩])
 .ret)))
theorem fn_slices_Index_int_int : FnOk Try.prog 102 Try.f102 sc_slices_Index_int_int [.tmp 4] 2 := ⟨Try.func102, by kernel_rfl, by kernel_rfl, by kernel_rfl, by kernel_rfl, by kernel_rfl, by kernel_rfl⟩

/- loop of slices.rotateCmpFunc[waymark/api.Rule], wants [0, 2, 4, 10, 11] [] -/
def sc_slices_rotateCmpFunc_api_Rule_L0 : SCode :=
 (.seq (.seq (.reg [0, 2, 4, 10, 11] [⟨(some 18), none, .mv (.tmp 10)⟩, ⟨(some 19), none, .mv (.tmp 11)⟩, ⟨(some 20), none, .bin .neq 3 (.tmp 18) (.tmp 19)⟩])
 (.cond (.tmp 20) .skip (.exit 0)))
 (.block 1 (.seq (.reg [0, 2, 4, 10, 11] [⟨(some 21), none, .mv (.tmp 10)⟩, ⟨(some 22), none, .mv (.tmp 11)⟩, ⟨(some 23), none, .bin .gtr 3 (.tmp 21) (.tmp 22)⟩])
 (.cond (.tmp 23) (.seq (.reg [0, 2, 4, 10, 11] [⟨(some 24), none, .mv (.tmp 0)⟩, ⟨(some 25), none, .mv (.tmp 2)⟩, ⟨(some 26), none, .mv (.tmp 10)⟩, ⟨(some 27), none, .bin .sub 3 (.tmp 25) (.tmp 26)⟩, ⟨(some 28), none, .mv (.tmp 2)⟩, ⟨(some 29), none, .mv (.tmp 11)⟩, ⟨(some 30), none, .mv (.tmp 4)⟩, ⟨(some 31), none, .call 112 [(.tmp 24), (.tmp 27), (.tmp 28), (.tmp 29), (.tmp 30)]⟩])
 (.reg [0, 2, 4, 10, 11] [⟨(some 32), none, .mv (.tmp 10)⟩, ⟨(some 33), none, .mv (.tmp 11)⟩, ⟨(some 34), none, .bin .sub 3 (.tmp 32) (.tmp 33)⟩, ⟨(some 10), none, .mv (.tmp 34)⟩])) (.seq (.reg [0, 2, 4, 10, 11] [⟨(some 35), none, .mv (.tmp 0)⟩, ⟨(some 36), none, .mv (.tmp 2)⟩, ⟨(some 37), none, .mv (.tmp 10)⟩, ⟨(some 38), none, .bin .sub 3 (.tmp 36) (.tmp 37)⟩, ⟨(some 39), none, .mv (.tmp 2)⟩, ⟨(some 40), none, .mv (.tmp 11)⟩, ⟨(some 41), none, .bin .add 3 (.tmp 39) (.tmp 40)⟩, ⟨(some 42), none, .mv (.tmp 10)⟩, ⟨(some 43), none, .bin .sub 3 (.tmp 41) (.tmp 42)⟩, ⟨(some 44), none, .mv (.tmp 10)⟩, ⟨(some 45), none, .mv (.tmp 4)⟩, ⟨(some 46), none, .call 112 [(.tmp 35), (.tmp 38), (.tmp 43), (.tmp 44), (.tmp 45)]⟩])
 (.reg [0, 2, 4, 10, 11] [⟨(some 47), none, .mv (.tmp 11)⟩, ⟨(some 48), none, .mv (.tmp 10)⟩, ⟨(some 49), none, .bin .sub 3 (.tmp 47) (.tmp 48)⟩, ⟨(some 11), none, .mv (.tmp 49)⟩]))))))
/- 108 slices.rotateCmpFunc[waymark/api.Rule]: slots 0 data, 1 a, 2 m, 3 b, 4 cmp, 5 data, 6 a, 7 m, 8 b, 9 cmp, 10 i, 11 j -/
def sc_slices_rotateCmpFunc_api_Rule : SCode :=
 (.seq (.reg [0, 1, 2, 3, 4] [⟨(some 12), none, .mv (.tmp 2)⟩, ⟨(some 13), none, .mv (.tmp 1)⟩, ⟨(some 14), none, .bin .sub 3 (.tmp 12) (.tmp 13)⟩, ⟨(some 10), none, .mv (.tmp 14)⟩])
 (.seq (.reg [0, 2, 3, 4, 10] [⟨(some 15), none, .mv (.tmp 3)⟩, ⟨(some 16), none, .mv (.tmp 2)⟩, ⟨(some 17), none, .bin .sub 3 (.tmp 15) (.tmp 16)⟩, ⟨(some 11), none, .mv (.tmp 17)⟩])
 (.seq (.block 0 (.loop [0, 2, 4, 10, 11] [] sc_slices_rotateCmpFunc_api_Rule_L0))
 (.reg [0, 2, 4, 10] [⟨(some 50), none, .mv (.tmp 0)⟩, ⟨(some 51), none, .mv (.tmp 2)⟩, ⟨(some 52), none, .mv (.tmp 10)⟩, ⟨(some 53), none, .bin .sub 3 (.tmp 51) (.tmp 52)⟩, ⟨(some 54), none, .mv (.tmp 2)⟩, ⟨(some 55), none, .mv (.tmp 10)⟩, ⟨(some 56), none, .mv (.tmp 4)⟩, ⟨(some 57), none, .call 112 [(.tmp 50), (.tmp 53), (.tmp 54), (.tmp 55), (.tmp 56)]⟩]))))
theorem fn_slices_rotateCmpFunc_api_Rule : FnOk Try.prog 108 Try.f108 sc_slices_rotateCmpFunc_api_Rule [] 5 := ⟨Try.func108, by kernel_rfl, by kernel_rfl, by kernel_rfl, by kernel_rfl, by kernel_rfl, by kernel_rfl⟩

/- loop of slices.swapRangeCmpFunc[waymark/api.Rule], wants [0, 1, 2, 3, 10] [] -/
def sc_slices_swapRangeCmpFunc_api_Rule_L0 : SCode :=
 (.seq (.seq (.reg [0, 1, 2, 3, 10] [⟨(some 11), none, .mv (.tmp 10)⟩, ⟨(some 12), none, .mv (.tmp 3)⟩, ⟨(some 13), none, .bin .lss 3 (.tmp 11) (.tmp 12)⟩])
 (.cond (.tmp 13) .skip (.exit 0)))
 (.seq (.block 1 (.draw [0, 1, 2, 3, 10] [⟨(some 16), none, .mv (.tmp 0)⟩, ⟨(some 17), none, .mv (.tmp 1)⟩, ⟨(some 18), none, .mv (.tmp 10)⟩, ⟨(some 19), none, .bin .add 3 (.tmp 17) (.tmp 18)⟩, ⟨(some 20), none, .mv (.tmp 0)⟩, ⟨(some 21), none, .mv (.tmp 2)⟩, ⟨(some 22), none, .mv (.tmp 10)⟩, ⟨(some 23), none, .bin .add 3 (.tmp 21) (.tmp 22)⟩, ⟨(some 24), none, .mv (.tmp 0)⟩, ⟨(some 25), none, .mv (.tmp 2)⟩, ⟨(some 26), none, .mv (.tmp 10)⟩, ⟨(some 27), none, .bin .add 3 (.tmp 25) (.tmp 26)⟩, ⟨(some 28), none, .ia none 17 (.tmp 24) (.tmp 27)⟩, ⟨(some 29), none, .load 17 true (.tmp 28)⟩, ⟨(some 30), none, .mv (.tmp 0)⟩, ⟨(some 31), none, .mv (.tmp 1)⟩, ⟨(some 32), none, .mv (.tmp 10)⟩, ⟨(some 33), none, .bin .add 3 (.tmp 31) (.tmp 32)⟩, ⟨(some 34), none, .ia none 17 (.tmp 30) (.tmp 33)⟩, ⟨(some 35), none, .load 17 true (.tmp 34)⟩, ⟨(some 36), none, .ia none 17 (.tmp 16) (.tmp 19)⟩, ⟨none, none, .store 17 (.tmp 36) (.tmp 29)⟩, ⟨(some 37), none, .ia none 17 (.tmp 20) (.tmp 23)⟩, ⟨none, none, .store 17 (.tmp 37) (.tmp 35)⟩]))
 (.reg [0, 1, 2, 3, 10] [⟨(some 14), none, .mv (.tmp 10)⟩, ⟨(some 15), none, .bin .add 3 (.tmp 14) (.const (.int .i64 1))⟩, ⟨(some 10), none, .mv (.tmp 15)⟩])))
/- 112 slices.swapRangeCmpFunc[waymark/api.Rule]: slots 0 data, 1 a, 2 b, 3 n, 4 cmp, 5 data, 6 a, 7 b, 8 n, 9 cmp, 10 i -/
def sc_slices_swapRangeCmpFunc_api_Rule : SCode :=
 (.seq (.reg [0, 1, 2, 3] [⟨(some 10), none, .mv (.const (.int .i64 0))⟩])
 (.block 0 (.loop [0, 1, 2, 3, 10] [] sc_slices_swapRangeCmpFunc_api_Rule_L0)))
theorem fn_slices_swapRangeCmpFunc_api_Rule : FnOk Try.prog 112 Try.f112 sc_slices_swapRangeCmpFunc_api_Rule [] 5 := ⟨Try.func112, by kernel_rfl, by kernel_rfl, by kernel_rfl, by kernel_rfl, by kernel_rfl, by kernel_rfl⟩

end Go.Proofs.Ytgahnhiidhkjaaa
end

section
namespace Go.Proofs.Ytgahnhiidhkjaaa
open Go Abs

/- loop of waymark/sound.Check, wants [1, 2, 19, 20, 21] [] -/
def sc_sound_Check_L0 : SCode :=
 (.seq (.reg [1, 2, 19, 20, 21] [⟨(some 22), none, .bin .lss 3 (.tmp 21) (.tmp 20)⟩])
 (.seq (.cond (.tmp 22) .skip (.exit 0))
 (.seq (.block 1 (.seq (.reg [1, 2, 19, 20, 21] [⟨(some 23), none, .mv (.tmp 21)⟩, ⟨(some 24), none, .ia none 17 (.tmp 19) (.tmp 21)⟩, ⟨(some 25), none, .load 17 true (.tmp 24)⟩, ⟨(some 9), none, .alloc 36 [(.string ⟨#[]⟩), (.int .i64 0), (.int .u32 0), (.int .i64 0), (.int .u32 0), (.int .i64 0), (.int .i64 0), (.int .i64 0), (.int .i64 0), (.int .i64 0), (.int .i64 0), (.int .i64 0), (.slice none 0 0), (.slice none 0 0), (.slice none 0 0), (.slice none 0 0), (.bool false)]⟩, ⟨(some 8), none, .mv (.tmp 23)⟩, ⟨none, none, .store 17 (.tmp 9) (.tmp 25)⟩])
 (.seq (.draw [1, 2, 8, 9, 19, 20, 21] [⟨(some 26), none, .load 2 true (.tmp 2)⟩, ⟨(some 27), none, .load 17 true (.tmp 9)⟩, ⟨(some 28), none, .mv (.tmp 1)⟩, ⟨(some 29), none, .mv (.tmp 8)⟩, ⟨(some 30), none, .slc (some 17) (.tmp 28) none (some (.tmp 29)) none⟩, ⟨(some 31), none, .call 59 [(.tmp 26), (.tmp 27), (.tmp 30)]⟩, ⟨(some 10), none, .mv (.tmp 31)⟩])
 (.seq (.reg [1, 2, 8, 10, 19, 20, 21] [⟨(some 32), none, .mv (.tmp 10)⟩, ⟨(some 33), none, .bin .neq 49 (.tmp 32) (.const (.int .i64 0))⟩])
 (.cond (.tmp 33) (.seq (.reg [8, 10] [⟨(some 34), none, .mv (.tmp 8)⟩, ⟨(some 35), none, .mv (.tmp 10)⟩, ⟨(some 4), none, .mv (.tmp 34)⟩, ⟨(some 5), none, .mv (.tmp 35)⟩])
 .ret) .skip)))))
 (.reg [1, 2, 19, 20, 21] [⟨(some 36), none, .bin .add 3 (.tmp 21) (.const (.int .i64 1))⟩, ⟨(some 21), none, .mv (.tmp 36)⟩]))))
/- 38 waymark/sound.Check: slots 0 g, 1 l, 2 g, 3 l, 6 _, 7 e, 8 i, 9 r, 10 e -/
def sc_sound_Check : SCode :=
 (.seq (.reg [0, 1] [⟨(some 2), none, .box 44 (.tmp 0)⟩, ⟨(some 4), none, .mv (.const (.int .i64 0))⟩, ⟨(some 5), none, .mv (.const (.int .i64 0))⟩])
 (.seq (.seq (.reg [1, 2] [⟨(some 12), none, .load 2 true (.tmp 2)⟩, ⟨(some 13), none, .call 58 [(.tmp 12)]⟩, ⟨(some 11), none, .mv (.tmp 13)⟩, ⟨(some 14), none, .ext (.tmp 11) 0⟩, ⟨(some 15), none, .ext (.tmp 11) 1⟩, ⟨(some 6), none, .mv (.tmp 14)⟩, ⟨(some 7), none, .mv (.tmp 15)⟩])
 (.seq (.reg [1, 2, 7] [⟨(some 16), none, .mv (.tmp 7)⟩, ⟨(some 17), none, .bin .neq 49 (.tmp 16) (.const (.int .i64 0))⟩])
 (.cond (.tmp 17) (.seq (.reg [7] [⟨(some 18), none, .mv (.tmp 7)⟩, ⟨(some 4), none, .mv (.const (.int .i64 (-1)))⟩, ⟨(some 5), none, .mv (.tmp 18)⟩])
 .ret) .skip)))
 (.seq (.seq (.reg [1, 2] [⟨(some 19), none, .mv (.tmp 1)⟩, ⟨(some 20), none, .len false (.tmp 19)⟩, ⟨(some 21), none, .mv (.const (.int .i64 0))⟩])
 (.block 0 (.loop [1, 2, 19, 20, 21] [] sc_sound_Check_L0)))
 (.seq (.reg [] [⟨(some 4), none, .mv (.const (.int .i64 (-1)))⟩, ⟨(some 5), none, .mv (.const (.int .i64 0))⟩])
 .ret))))
theorem fn_sound_Check : FnOk Try.prog 38 Try.f38 sc_sound_Check [.tmp 4, .tmp 5] 2 := ⟨Try.func38, by kernel_rfl, by kernel_rfl, by kernel_rfl, by kernel_rfl, by kernel_rfl, by kernel_rfl⟩

/- loop of waymark/sound.At, wants [1, 5, 8, 9, 10] [] -/
def sc_sound_At_L0 : SCode :=
 (.seq (.reg [1, 5, 8, 9, 10] [⟨(some 11), none, .bin .lss 3 (.tmp 10) (.tmp 9)⟩])
 (.seq (.cond (.tmp 11) .skip (.exit 0))
 (.seq (.block 1 (.seq (.reg [1, 5, 8, 9, 10] [⟨(some 12), none, .ia none 17 (.tmp 8) (.tmp 10)⟩, ⟨(some 13), none, .load 17 true (.tmp 12)⟩, ⟨(some 7), none, .alloc 36 [(.string ⟨#[]⟩), (.int .i64 0), (.int .u32 0), (.int .i64 0), (.int .u32 0), (.int .i64 0), (.int .i64 0), (.int .i64 0), (.int .i64 0), (.int .i64 0), (.int .i64 0), (.int .i64 0), (.slice none 0 0), (.slice none 0 0), (.slice none 0 0), (.slice none 0 0), (.bool false)]⟩, ⟨none, none, .store 17 (.tmp 7) (.tmp 13)⟩])
 (.seq (.reg [1, 5, 7, 8, 9, 10] [⟨(some 14), none, .fld 9 (.tmp 7)⟩, ⟨(some 15), none, .fld 0 (.tmp 14)⟩, ⟨(some 16), none, .load 1 false (.tmp 15)⟩, ⟨(some 17), none, .mv (.tmp 1)⟩, ⟨(some 18), none, .bin .eql 3 (.tmp 16) (.tmp 17)⟩])
 (.cond (.tmp 18) (.reg [1, 5, 7, 8, 9, 10] [⟨(some 19), none, .mv (.tmp 5)⟩, ⟨(some 20), none, .load 17 true (.tmp 7)⟩, ⟨(some 21), none, .call 61 [(.tmp 20)]⟩, ⟨(some 22), none, .bsl 36 17 [(.string ⟨#[]⟩), (.int .i64 0), (.int .u32 0), (.int .i64 0), (.int .u32 0), (.int .i64 0), (.int .i64 0), (.int .i64 0), (.int .i64 0), (.int .i64 0), (.int .i64 0), (.int .i64 0), (.slice none 0 0), (.slice none 0 0), (.slice none 0 0), (.slice none 0 0), (.bool false)] 1 [(0, 17, (.tmp 21))]⟩, ⟨(some 23), none, .hp (.app 22 36 17 208 (.agg #[(.string ⟨#[]⟩), (.int .i64 0), (.int .u32 0), (.int .i64 0), (.int .u32 0), (.int .i64 0), (.int .i64 0), (.int .i64 0), (.int .i64 0), (.int .i64 0), (.int .i64 0), (.int .i64 0), (.slice none 0 0), (.slice none 0 0), (.slice none 0 0), (.slice none 0 0), (.bool false)]) (.tmp 19) (.tmp 22))⟩, ⟨(some 5), none, .mv (.tmp 23)⟩]) .skip))))
 (.reg [1, 5, 8, 9, 10] [⟨(some 24), none, .bin .add 3 (.tmp 10) (.const (.int .i64 1))⟩, ⟨(some 10), none, .mv (.tmp 24)⟩]))))
/- 42 waymark/sound.At: slots 0 l, 1 node, 2 l, 3 node, 5 out, 6 _, 7 r -/
def sc_sound_At : SCode :=
 (.seq (.reg [0, 1] [⟨(some 4), none, .mv (.const (.slice none 0 0))⟩])
 (.seq (.reg [0, 1] [⟨(some 5), none, .mv (.const (.slice none 0 0))⟩])
 (.seq (.seq (.reg [0, 1, 5] [⟨(some 8), none, .mv (.tmp 0)⟩, ⟨(some 9), none, .len false (.tmp 8)⟩, ⟨(some 10), none, .mv (.const (.int .i64 0))⟩])
 (.block 0 (.loop [1, 5, 8, 9, 10] [] sc_sound_At_L0)))
 (.seq (.reg [5] [⟨(some 25), none, .mv (.tmp 5)⟩, ⟨(some 26), none, .call 62 [(.tmp 25), (.func 63)]⟩])
 (.seq (.reg [5] [⟨(some 27), none, .mv (.tmp 5)⟩, ⟨(some 4), none, .mv (.tmp 27)⟩])
 .ret)))))
theorem fn_sound_At : FnOk Try.prog 42 Try.f42 sc_sound_At [.tmp 4] 2 := ⟨Try.func42, by kernel_rfl, by kernel_rfl, by kernel_rfl, by kernel_rfl, by kernel_rfl, by kernel_rfl⟩

/- 59 waymark/sound.rule: slots 0 g, 1 r, 2 earlier, 3 g, 4 r, 5 earlier, 7 e -/
def sc_sound_rule : SCode :=
 (.seq (.reg [0, 1, 2] [⟨(some 3), none, .box 44 (.tmp 0)⟩, ⟨(some 4), none, .box 36 (.tmp 1)⟩, ⟨(some 6), none, .mv (.const (.int .i64 0))⟩])
 (.seq (.seq (.reg [2, 3, 4] [⟨(some 8), none, .fld 0 (.tmp 4)⟩, ⟨(some 9), none, .load 1 false (.tmp 8)⟩, ⟨(some 10), none, .call 77 [(.tmp 9)]⟩, ⟨(some 11), none, .un .not (.tmp 10)⟩, ⟨(some 12), none, .mv (.tmp 11)⟩, ⟨(some 13), (some (12, false)), .mv (.tmp 2)⟩, ⟨(some 14), (some (12, false)), .mkfn (.func 79) [] [(.tmp 4)]⟩, ⟨(some 15), (some (12, false)), .call 78 [(.tmp 13), (.tmp 14)]⟩, ⟨(some 16), none, .pick (.tmp 12) (.const (.bool true)) (.tmp 15)⟩])
 (.cond (.tmp 16) (.seq (.reg [] [⟨(some 6), none, .mv (.const (.int .i64 3))⟩])
 .ret) .skip))
 (.seq (.seq (.reg [3, 4] [⟨(some 17), none, .load 2 true (.tmp 3)⟩, ⟨(some 18), none, .fld 9 (.tmp 4)⟩, ⟨(some 19), none, .load 7 true (.tmp 18)⟩, ⟨(some 20), none, .call 69 [(.tmp 17), (.tmp 19)]⟩, ⟨(some 7), none, .mv (.tmp 20)⟩])
 (.seq (.reg [4, 7] [⟨(some 21), none, .mv (.tmp 7)⟩, ⟨(some 22), none, .bin .neq 49 (.tmp 21) (.const (.int .i64 0))⟩])
 (.cond (.tmp 22) (.seq (.reg [7] [⟨(some 23), none, .mv (.tmp 7)⟩, ⟨(some 6), none, .mv (.tmp 23)⟩])
 .ret) .skip)))
 (.seq (.seq (.reg [4] [⟨(some 24), none, .fld 1 (.tmp 4)⟩, ⟨(some 25), none, .load 1 false (.tmp 24)⟩, ⟨(some 26), none, .bin .lss 3 (.tmp 25) (.const (.int .i64 0))⟩, ⟨(some 27), none, .mv (.tmp 26)⟩, ⟨(some 28), (some (27, false)), .fld 2 (.tmp 4)⟩, ⟨(some 29), (some (27, false)), .fld 4 (.tmp 28)⟩, ⟨(some 30), (some (27, false)), .load 1 false (.tmp 29)⟩, ⟨(some 31), (some (27, false)), .fld 2 (.tmp 4)⟩, ⟨(some 32), (some (27, false)), .fld 5 (.tmp 31)⟩, ⟨(some 33), (some (27, false)), .load 1 false (.tmp 32)⟩, ⟨(some 34), (some (27, false)), .fld 2 (.tmp 4)⟩, ⟨(some 35), (some (27, false)), .fld 6 (.tmp 34)⟩, ⟨(some 36), (some (27, false)), .load 1 false (.tmp 35)⟩, ⟨(some 37), (some (27, false)), .call 80 [(.tmp 30), (.tmp 33), (.tmp 36)]⟩, ⟨(some 38), (some (27, false)), .un .not (.tmp 37)⟩, ⟨(some 39), none, .pick (.tmp 27) (.const (.bool true)) (.tmp 38)⟩, ⟨(some 40), none, .mv (.tmp 39)⟩, ⟨(some 41), (some (40, false)), .fld 2 (.tmp 4)⟩, ⟨(some 42), (some (40, false)), .fld 0 (.tmp 41)⟩, ⟨(some 43), (some (40, false)), .load 2 true (.tmp 42)⟩, ⟨(some 44), (some (40, false)), .call 81 [(.tmp 43)]⟩, ⟨(some 45), (some (40, false)), .un .not (.tmp 44)⟩, ⟨(some 46), none, .pick (.tmp 40) (.const (.bool true)) (.tmp 45)⟩, ⟨(some 47), none, .mv (.tmp 46)⟩, ⟨(some 48), (some (47, false)), .fld 2 (.tmp 4)⟩, ⟨(some 49), (some (47, false)), .fld 2 (.tmp 48)⟩, ⟨(some 50), (some (47, false)), .load 2 true (.tmp 49)⟩, ⟨(some 51), (some (47, false)), .call 81 [(.tmp 50)]⟩, ⟨(some 52), (some (47, false)), .un .not (.tmp 51)⟩, ⟨(some 53), none, .pick (.tmp 47) (.const (.bool true)) (.tmp 52)⟩])
 (.cond (.tmp 53) (.seq (.reg [] [⟨(some 6), none, .mv (.const (.int .i64 1))⟩])
 .ret) .skip))
 (.seq (.reg [] [⟨(some 6), none, .mv (.const (.int .i64 0))⟩])
 .ret)))))
theorem fn_sound_rule : FnOk Try.prog 59 Try.f59 sc_sound_rule [.tmp 6] 3 := ⟨Try.func59, by kernel_rfl, by kernel_rfl, by kernel_rfl, by kernel_rfl, by kernel_rfl, by kernel_rfl⟩

/- 61 waymark/sound.Clone: slots 0 r, 1 r, 3 w -/
def sc_sound_Clone : SCode :=
 (.seq (.reg [0] [⟨(some 1), none, .box 36 (.tmp 0)⟩, ⟨(some 2), none, .alloc 36 [(.string ⟨#[]⟩), (.int .i64 0), (.int .u32 0), (.int .i64 0), (.int .u32 0), (.int .i64 0), (.int .i64 0), (.int .i64 0), (.int .i64 0), (.int .i64 0), (.int .i64 0), (.int .i64 0), (.slice none 0 0), (.slice none 0 0), (.slice none 0 0), (.slice none 0 0), (.bool false)]⟩])
 (.seq (.reg [1, 2] [⟨(some 4), none, .fld 9 (.tmp 1)⟩, ⟨(some 3), none, .mv (.tmp 4)⟩])
 (.seq (.draw [1, 2, 3] [⟨(some 5), none, .mv (.tmp 3)⟩, ⟨(some 6), none, .mv (.tmp 3)⟩, ⟨(some 7), none, .mv (.tmp 3)⟩, ⟨(some 8), none, .mv (.tmp 3)⟩, ⟨(some 9), none, .mv (.tmp 3)⟩, ⟨(some 10), none, .nilc (.tmp 9)⟩, ⟨(some 11), none, .fld 3 (.tmp 10)⟩, ⟨(some 12), none, .load 1 false (.tmp 11)⟩, ⟨(some 13), none, .call 83 [(.tmp 12)]⟩, ⟨(some 14), none, .mv (.tmp 3)⟩, ⟨(some 15), none, .nilc (.tmp 14)⟩, ⟨(some 16), none, .fld 4 (.tmp 15)⟩, ⟨(some 17), none, .load 1 false (.tmp 16)⟩, ⟨(some 18), none, .call 83 [(.tmp 17)]⟩, ⟨(some 19), none, .mv (.tmp 3)⟩, ⟨(some 20), none, .nilc (.tmp 19)⟩, ⟨(some 21), none, .fld 5 (.tmp 20)⟩, ⟨(some 22), none, .load 1 false (.tmp 21)⟩, ⟨(some 23), none, .call 83 [(.tmp 22)]⟩, ⟨(some 24), none, .mv (.tmp 3)⟩, ⟨(some 25), none, .nilc (.tmp 24)⟩, ⟨(some 26), none, .fld 6 (.tmp 25)⟩, ⟨(some 27), none, .load 1 false (.tmp 26)⟩, ⟨(some 28), none, .call 83 [(.tmp 27)]⟩, ⟨(some 29), none, .nilc (.tmp 5)⟩, ⟨(some 30), none, .fld 3 (.tmp 29)⟩, ⟨none, none, .store 1 (.tmp 30) (.tmp 13)⟩, ⟨(some 31), none, .nilc (.tmp 6)⟩, ⟨(some 32), none, .fld 4 (.tmp 31)⟩, ⟨none, none, .store 1 (.tmp 32) (.tmp 18)⟩, ⟨(some 33), none, .nilc (.tmp 7)⟩, ⟨(some 34), none, .fld 5 (.tmp 33)⟩, ⟨none, none, .store 1 (.tmp 34) (.tmp 23)⟩, ⟨(some 35), none, .nilc (.tmp 8)⟩, ⟨(some 36), none, .fld 6 (.tmp 35)⟩, ⟨none, none, .store 1 (.tmp 36) (.tmp 28)⟩])
 (.seq (.reg [1, 2] [⟨(some 37), none, .load 17 true (.tmp 1)⟩, ⟨none, none, .store 17 (.tmp 2) (.tmp 37)⟩])
 .ret))))
theorem fn_sound_Clone : FnOk Try.prog 61 Try.f61 sc_sound_Clone [.cell 2 17 true] 1 := ⟨Try.func61, by kernel_rfl, by kernel_rfl, by kernel_rfl, by kernel_rfl, by kernel_rfl, by kernel_rfl⟩

/- 63 waymark/sound.At$1: slots 0 a, 1 b, 2 a, 3 b -/
def sc_sound_At_d1 : SCode :=
 (.seq (.reg [0, 1] [⟨(some 2), none, .box 36 (.tmp 0)⟩, ⟨(some 3), none, .box 36 (.tmp 1)⟩, ⟨(some 4), none, .mv (.const (.int .i64 0))⟩])
 (.seq (.reg [2, 3] [⟨(some 5), none, .fld 1 (.tmp 3)⟩, ⟨(some 6), none, .load 1 false (.tmp 5)⟩, ⟨(some 7), none, .fld 1 (.tmp 2)⟩, ⟨(some 8), none, .load 1 false (.tmp 7)⟩, ⟨(some 9), none, .call 64 [(.tmp 6), (.tmp 8)]⟩, ⟨(some 4), none, .mv (.tmp 9)⟩])
 .ret))
theorem fn_sound_At_d1 : FnOk Try.prog 63 Try.f63 sc_sound_At_d1 [.tmp 4] 2 := ⟨Try.func63, by kernel_rfl, by kernel_rfl, by kernel_rfl, by kernel_rfl, by kernel_rfl, by kernel_rfl⟩

/- 79 waymark/sound.rule$1: slots 0 x, 2 x -/
def sc_sound_rule_d1 : SCode :=
 (.seq (.reg [0, 1] [⟨(some 2), none, .box 36 (.tmp 0)⟩, ⟨(some 3), none, .mv (.const (.bool false))⟩])
 (.seq (.reg [1, 2] [⟨(some 4), none, .fld 0 (.tmp 2)⟩, ⟨(some 5), none, .load 1 false (.tmp 4)⟩, ⟨(some 6), none, .fld 0 (.tmp 1)⟩, ⟨(some 7), none, .load 1 false (.tmp 6)⟩, ⟨(some 8), none, .bin .eql 9 (.tmp 5) (.tmp 7)⟩, ⟨(some 3), none, .mv (.tmp 8)⟩])
 .ret))
theorem fn_sound_rule_d1 : FnOk Try.prog 79 Try.f79 sc_sound_rule_d1 [.tmp 3] 2 := ⟨Try.func79, by kernel_rfl, by kernel_rfl, by kernel_rfl, by kernel_rfl, by kernel_rfl, by kernel_rfl⟩

/- 81 waymark/sound.length: slots 0 p, 1 p -/
def sc_sound_length : SCode :=
 (.seq (.reg [0] [⟨(some 1), none, .box 29 (.tmp 0)⟩, ⟨(some 2), none, .mv (.const (.bool false))⟩])
 (.seq (.reg [1] [⟨(some 3), none, .fld 1 (.tmp 1)⟩, ⟨(some 4), none, .load 1 false (.tmp 3)⟩, ⟨(some 5), none, .bin .geq 3 (.tmp 4) (.const (.int .i64 0))⟩, ⟨(some 6), none, .mv (.tmp 5)⟩, ⟨(some 7), (some (6, true)), .fld 1 (.tmp 1)⟩, ⟨(some 8), (some (6, true)), .load 1 false (.tmp 7)⟩, ⟨(some 9), (some (6, true)), .bin .leq 3 (.tmp 8) (.const (.int .i64 32))⟩, ⟨(some 10), none, .pick (.tmp 6) (.tmp 9) (.const (.bool false))⟩, ⟨(some 2), none, .mv (.tmp 10)⟩])
 .ret))
theorem fn_sound_length : FnOk Try.prog 81 Try.f81 sc_sound_length [.tmp 2] 1 := ⟨Try.func81, by kernel_rfl, by kernel_rfl, by kernel_rfl, by kernel_rfl, by kernel_rfl, by kernel_rfl⟩

end Go.Proofs.Ytgahnhiidhkjaaa
end

section
namespace Go.Proofs.Ytgahnhiidhkjaaa
open Go Abs

/- 71 waymark/spf.To: slots 0 g, 1 down, 2 node, 3 g, 4 down, 5 node -/
def sc_spf_To : SCode :=
 (.seq (.reg [0, 1, 2] [⟨(some 3), none, .box 44 (.tmp 0)⟩, ⟨(some 6), none, .mv (.const (.slice none 0 0))⟩])
 (.seq (.reg [1, 2, 3] [⟨(some 7), none, .load 2 true (.tmp 3)⟩, ⟨(some 8), none, .mv (.tmp 1)⟩, ⟨(some 9), none, .mv (.tmp 2)⟩, ⟨(some 10), none, .call 92 [(.tmp 7), (.tmp 8), (.tmp 9)]⟩, ⟨(some 6), none, .mv (.tmp 10)⟩])
 .ret))
theorem fn_spf_To : FnOk Try.prog 71 Try.f71 sc_spf_To [.tmp 6] 3 := ⟨Try.func71, by kernel_rfl, by kernel_rfl, by kernel_rfl, by kernel_rfl, by kernel_rfl, by kernel_rfl⟩

/- 74 waymark/spf.Up: slots 0 down, 1 edge, 2 down, 3 edge -/
def sc_spf_Up : SCode :=
 (.seq (.reg [0, 1] [⟨(some 4), none, .mv (.const (.bool false))⟩])
 (.seq (.reg [0, 1] [⟨(some 5), none, .mv (.tmp 1)⟩, ⟨(some 6), none, .bin .quo 3 (.tmp 5) (.const (.int .i64 2))⟩, ⟨(some 7), none, .mv (.tmp 0)⟩, ⟨(some 8), none, .len false (.tmp 7)⟩, ⟨(some 9), none, .bin .geq 3 (.tmp 6) (.tmp 8)⟩, ⟨(some 10), none, .mv (.tmp 9)⟩, ⟨(some 11), (some (10, false)), .mv (.tmp 0)⟩, ⟨(some 12), (some (10, false)), .mv (.tmp 1)⟩, ⟨(some 13), (some (10, false)), .bin .quo 3 (.tmp 12) (.const (.int .i64 2))⟩, ⟨(some 14), (some (10, false)), .ia none 1 (.tmp 11) (.tmp 13)⟩, ⟨(some 15), (some (10, false)), .load 1 false (.tmp 14)⟩, ⟨(some 16), (some (10, false)), .un .not (.tmp 15)⟩, ⟨(some 17), none, .pick (.tmp 10) (.const (.bool true)) (.tmp 16)⟩, ⟨(some 4), none, .mv (.tmp 17)⟩])
 .ret))
theorem fn_spf_Up : FnOk Try.prog 74 Try.f74 sc_spf_Up [.tmp 4] 2 := ⟨Try.func74, by kernel_rfl, by kernel_rfl, by kernel_rfl, by kernel_rfl, by kernel_rfl, by kernel_rfl⟩

/- loop of waymark/spf.From, wants [1, 3, 7, 9, 10, 64, 65, 66] [] -/
def sc_spf_From_L0 : SCode :=
 (.seq (.reg [1, 3, 7, 9, 10, 64, 65, 66] [⟨(some 67), none, .bin .lss 3 (.tmp 66) (.tmp 65)⟩])
 (.seq (.cond (.tmp 67) .skip (.exit 4))
 (.seq (.block 5 (.seq (.reg [1, 3, 7, 9, 10, 64, 65, 66] [⟨(some 68), none, .ia none 1 (.tmp 64) (.tmp 66)⟩, ⟨(some 69), none, .load 1 false (.tmp 68)⟩, ⟨(some 14), none, .mv (.tmp 69)⟩])
 (.seq (.reg [1, 3, 7, 9, 10, 14, 64, 65, 66] [⟨(some 71), none, .load 2 true (.tmp 3)⟩, ⟨(some 72), none, .mv (.tmp 14)⟩, ⟨(some 73), none, .call 73 [(.tmp 71), (.tmp 72)]⟩, ⟨(some 70), none, .mv (.tmp 73)⟩, ⟨(some 74), none, .ext (.tmp 70) 0⟩, ⟨(some 75), none, .ext (.tmp 70) 1⟩, ⟨(some 76), none, .ext (.tmp 70) 2⟩, ⟨(some 15), none, .mv (.tmp 74)⟩, ⟨(some 16), none, .mv (.tmp 75)⟩, ⟨(some 17), none, .mv (.tmp 76)⟩])
 (.seq (.reg [1, 3, 7, 9, 10, 14, 16, 64, 65, 66] [⟨(some 77), none, .mv (.tmp 1)⟩, ⟨(some 78), none, .mv (.tmp 14)⟩, ⟨(some 79), none, .call 74 [(.tmp 77), (.tmp 78)]⟩, ⟨(some 80), none, .mv (.tmp 79)⟩, ⟨(some 81), (some (80, true)), .mv (.tmp 7)⟩, ⟨(some 82), (some (80, true)), .mv (.tmp 16)⟩, ⟨(some 83), (some (80, true)), .ia none 1 (.tmp 81) (.tmp 82)⟩, ⟨(some 84), (some (80, true)), .load 1 false (.tmp 83)⟩, ⟨(some 85), (some (80, true)), .bin .eql 3 (.tmp 84) (.const (.int .i64 (-1)))⟩, ⟨(some 86), none, .pick (.tmp 80) (.tmp 85) (.const (.bool false))⟩])
 (.cond (.tmp 86) (.reg [1, 3, 7, 9, 10, 14, 16, 64, 65, 66] [⟨(some 87), none, .mv (.tmp 9)⟩, ⟨(some 88), none, .mv (.tmp 10)⟩, ⟨(some 89), none, .fld 1 (.tmp 3)⟩, ⟨(some 90), none, .load 1 false (.tmp 89)⟩, ⟨(some 91), none, .mv (.tmp 14)⟩, ⟨(some 92), none, .bin .quo 3 (.tmp 91) (.const (.int .i64 2))⟩, ⟨(some 93), none, .ia none 4 (.tmp 90) (.tmp 92)⟩, ⟨(some 94), none, .fld 2 (.tmp 93)⟩, ⟨(some 95), none, .load 1 false (.tmp 94)⟩, ⟨(some 96), none, .bin .add 3 (.tmp 88) (.tmp 95)⟩, ⟨(some 97), none, .mv (.tmp 16)⟩, ⟨(some 98), none, .call 104 [(.tmp 87), (.tmp 96), (.tmp 97)]⟩]) .skip)))))
 (.reg [1, 3, 7, 9, 10, 64, 65, 66] [⟨(some 99), none, .bin .add 3 (.tmp 66) (.const (.int .i64 1))⟩, ⟨(some 66), none, .mv (.tmp 99)⟩]))))
/- loop of waymark/spf.From, wants [1, 3, 7, 9] [] -/
def sc_spf_From_L1 : SCode :=
 (.block 3 (.seq (.reg [1, 3, 7, 9] [⟨(some 45), none, .mv (.tmp 9)⟩, ⟨(some 46), none, .call 105 [(.tmp 45)]⟩, ⟨(some 44), none, .mv (.tmp 46)⟩, ⟨(some 47), none, .ext (.tmp 44) 0⟩, ⟨(some 48), none, .ext (.tmp 44) 1⟩, ⟨(some 49), none, .ext (.tmp 44) 2⟩, ⟨(some 10), none, .mv (.tmp 47)⟩, ⟨(some 11), none, .mv (.tmp 48)⟩, ⟨(some 12), none, .mv (.tmp 49)⟩])
 (.seq (.seq (.reg [1, 3, 7, 9, 10, 11, 12] [⟨(some 50), none, .mv (.tmp 12)⟩, ⟨(some 51), none, .un .not (.tmp 50)⟩])
 (.cond (.tmp 51) (.seq (.reg [7] [⟨(some 52), none, .mv (.tmp 7)⟩, ⟨(some 6), none, .mv (.tmp 52)⟩])
 .ret) .skip))
 (.seq (.seq (.reg [1, 3, 7, 9, 10, 11] [⟨(some 53), none, .mv (.tmp 7)⟩, ⟨(some 54), none, .mv (.tmp 11)⟩, ⟨(some 55), none, .ia none 1 (.tmp 53) (.tmp 54)⟩, ⟨(some 56), none, .load 1 false (.tmp 55)⟩, ⟨(some 57), none, .bin .neq 3 (.tmp 56) (.const (.int .i64 (-1)))⟩])
 (.cond (.tmp 57) (.exit 3) .skip))
 (.seq (.reg [1, 3, 7, 9, 10, 11] [⟨(some 58), none, .mv (.tmp 7)⟩, ⟨(some 59), none, .mv (.tmp 11)⟩, ⟨(some 60), none, .mv (.tmp 10)⟩, ⟨(some 61), none, .ia none 1 (.tmp 58) (.tmp 59)⟩, ⟨none, none, .store 1 (.tmp 61) (.tmp 60)⟩])
 (.seq (.reg [1, 3, 7, 9, 10, 11] [⟨(some 62), none, .load 2 true (.tmp 3)⟩, ⟨(some 63), none, .mv (.tmp 11)⟩, ⟨(some 64), none, .call 106 [(.tmp 62), (.tmp 63)]⟩, ⟨(some 65), none, .len false (.tmp 64)⟩, ⟨(some 66), none, .mv (.const (.int .i64 0))⟩])
 (.block 4 (.loop [1, 3, 7, 9, 10, 64, 65, 66] [] sc_spf_From_L0))))))))
/- loop of waymark/spf.From, wants [1, 2, 3, 7, 31, 32] [] -/
def sc_spf_From_L2 : SCode :=
 (.seq (.reg [1, 2, 3, 7, 31, 32] [⟨(some 33), none, .bin .lss 3 (.tmp 32) (.tmp 31)⟩])
 (.seq (.cond (.tmp 33) .skip (.exit 0))
 (.seq (.block 1 (.seq (.reg [1, 2, 3, 7, 31, 32] [⟨(some 34), none, .mv (.tmp 32)⟩, ⟨(some 8), none, .mv (.tmp 34)⟩])
 (.reg [1, 2, 3, 7, 8, 31, 32] [⟨(some 35), none, .mv (.tmp 7)⟩, ⟨(some 36), none, .mv (.tmp 8)⟩, ⟨(some 37), none, .ia none 1 (.tmp 35) (.tmp 36)⟩, ⟨none, none, .store 1 (.tmp 37) (.const (.int .i64 (-1)))⟩])))
 (.reg [1, 2, 3, 7, 31, 32] [⟨(some 38), none, .bin .add 3 (.tmp 32) (.const (.int .i64 1))⟩, ⟨(some 32), none, .mv (.tmp 38)⟩]))))
/- 92 waymark/spf.From: slots 0 g, 1 down, 2 node, 3 g, 4 down, 5 node, 7 out, 8 i, 9 h, 10 far, 11 at, 12 ok, 13 _, 14 edge, 15 _, 16 to, 17 _ -/
def sc_spf_From : SCode :=
 (.seq (.reg [0, 1, 2] [⟨(some 3), none, .box 44 (.tmp 0)⟩, ⟨(some 6), none, .mv (.const (.slice none 0 0))⟩])
 (.seq (.seq (.reg [1, 2, 3] [⟨(some 18), none, .load 2 true (.tmp 3)⟩, ⟨(some 19), none, .call 103 [(.tmp 18)]⟩, ⟨(some 20), none, .un .not (.tmp 19)⟩, ⟨(some 21), none, .mv (.tmp 20)⟩, ⟨(some 22), (some (21, false)), .load 2 true (.tmp 3)⟩, ⟨(some 23), (some (21, false)), .mv (.tmp 2)⟩, ⟨(some 24), (some (21, false)), .call 72 [(.tmp 22), (.tmp 23)]⟩, ⟨(some 25), (some (21, false)), .un .not (.tmp 24)⟩, ⟨(some 26), none, .pick (.tmp 21) (.const (.bool true)) (.tmp 25)⟩])
 (.cond (.tmp 26) (.seq (.reg [] [⟨(some 6), none, .mv (.const (.slice none 0 0))⟩])
 .ret) .skip))
 (.seq (.reg [1, 2, 3] [⟨(some 27), none, .fld 0 (.tmp 3)⟩, ⟨(some 28), none, .load 1 false (.tmp 27)⟩, ⟨(some 29), none, .mksl 3 1 8 [(.int .i64 0)] (.tmp 28) (.tmp 28)⟩, ⟨(some 7), none, .mv (.tmp 29)⟩])
 (.seq (.seq (.reg [1, 2, 3, 7] [⟨(some 30), none, .mv (.tmp 7)⟩, ⟨(some 31), none, .len false (.tmp 30)⟩, ⟨(some 32), none, .mv (.const (.int .i64 0))⟩])
 (.block 0 (.loop [1, 2, 3, 7, 31, 32] [] sc_spf_From_L2)))
 (.seq (.reg [1, 2, 3, 7] [⟨(some 39), none, .build [(.slice none 0 0)] []⟩, ⟨(some 40), none, .hp (.box 135 (.tmp 39))⟩, ⟨(some 9), none, .mv (.tmp 40)⟩])
 (.seq (.reg [1, 2, 3, 7, 9] [⟨(some 41), none, .mv (.tmp 9)⟩, ⟨(some 42), none, .mv (.tmp 2)⟩, ⟨(some 43), none, .call 104 [(.tmp 41), (.const (.int .i64 0)), (.tmp 42)]⟩])
 (.block 2 (.loop [1, 3, 7, 9] [] sc_spf_From_L1))))))))
theorem fn_spf_From : FnOk Try.prog 92 Try.f92 sc_spf_From [.tmp 6] 3 := ⟨Try.func92, by kernel_rfl, by kernel_rfl, by kernel_rfl, by kernel_rfl, by kernel_rfl, by kernel_rfl⟩

end Go.Proofs.Ytgahnhiidhkjaaa
end

section
namespace Go.Proofs.Ytgahnhiidhkjaaa
open Go Abs

/- 9 waymark/waymarklaw14.SoundTells: slots 0 g, 1 l, 2 node, 3 g, 4 l, 5 node, 7 live, 8 at, 9 e, 10 k, 11 f -/
def sc_waymarklaw14_SoundTells : SCode :=
 (.seq (.reg [0, 1, 2] [⟨(some 3), none, .box 44 (.tmp 0)⟩, ⟨(some 6), none, .mv (.const (.bool false))⟩])
 (.seq (.reg [1, 2, 3] [⟨(some 12), none, .call 37 []⟩, ⟨(some 7), none, .mv (.tmp 12)⟩])
 (.seq (.seq (.reg [1, 2, 3, 7] [⟨(some 13), none, .mv (.tmp 7)⟩, ⟨(some 14), none, .un .not (.tmp 13)⟩, ⟨(some 15), none, .mv (.tmp 14)⟩, ⟨(some 16), (some (15, false)), .fld 1 (.tmp 3)⟩, ⟨(some 17), (some (15, false)), .load 1 false (.tmp 16)⟩, ⟨(some 18), (some (15, false)), .len false (.tmp 17)⟩, ⟨(some 19), (some (15, false)), .bin .gtr 3 (.tmp 18) (.const (.int .i64 130))⟩, ⟨(some 20), none, .pick (.tmp 15) (.const (.bool true)) (.tmp 19)⟩, ⟨(some 21), none, .mv (.tmp 20)⟩, ⟨(some 22), (some (21, false)), .mv (.tmp 1)⟩, ⟨(some 23), (some (21, false)), .call 13 [(.tmp 22)]⟩, ⟨(some 24), (some (21, false)), .un .not (.tmp 23)⟩, ⟨(some 25), none, .pick (.tmp 21) (.const (.bool true)) (.tmp 24)⟩])
 (.cond (.tmp 25) (.seq (.reg [7] [⟨(some 26), none, .mv (.tmp 7)⟩, ⟨(some 6), none, .mv (.tmp 26)⟩])
 .ret) .skip))
 (.seq (.reg [1, 2, 3] [⟨(some 28), none, .load 2 true (.tmp 3)⟩, ⟨(some 29), none, .mv (.tmp 1)⟩, ⟨(some 30), none, .call 38 [(.tmp 28), (.tmp 29)]⟩, ⟨(some 27), none, .mv (.tmp 30)⟩, ⟨(some 31), none, .ext (.tmp 27) 0⟩, ⟨(some 32), none, .ext (.tmp 27) 1⟩, ⟨(some 8), none, .mv (.tmp 31)⟩, ⟨(some 9), none, .mv (.tmp 32)⟩])
 (.seq (.reg [1, 2, 3, 8, 9] [⟨(some 34), none, .load 2 true (.tmp 3)⟩, ⟨(some 35), none, .mv (.tmp 1)⟩, ⟨(some 36), none, .call 39 [(.tmp 34), (.tmp 35)]⟩, ⟨(some 33), none, .mv (.tmp 36)⟩, ⟨(some 37), none, .ext (.tmp 33) 0⟩, ⟨(some 38), none, .ext (.tmp 33) 1⟩, ⟨(some 10), none, .mv (.tmp 37)⟩, ⟨(some 11), none, .mv (.tmp 38)⟩])
 (.seq (.reg [1, 2, 8, 9, 10, 11] [⟨(some 39), none, .mv (.tmp 8)⟩, ⟨(some 40), none, .mv (.tmp 10)⟩, ⟨(some 41), none, .bin .eql 3 (.tmp 39) (.tmp 40)⟩, ⟨(some 42), none, .mv (.tmp 41)⟩, ⟨(some 43), (some (42, true)), .mv (.tmp 9)⟩, ⟨(some 44), (some (42, true)), .call 40 [(.tmp 43)]⟩, ⟨(some 45), (some (42, true)), .mv (.tmp 11)⟩, ⟨(some 46), (some (42, true)), .bin .eql 3 (.tmp 44) (.tmp 45)⟩, ⟨(some 47), none, .pick (.tmp 42) (.tmp 46) (.const (.bool false))⟩, ⟨(some 48), none, .mv (.tmp 47)⟩, ⟨(some 49), (some (48, true)), .mv (.tmp 1)⟩, ⟨(some 50), (some (48, true)), .mv (.tmp 2)⟩, ⟨(some 51), (some (48, true)), .call 42 [(.tmp 49), (.tmp 50)]⟩, ⟨(some 52), (some (48, true)), .mv (.tmp 1)⟩, ⟨(some 53), (some (48, true)), .mv (.tmp 2)⟩, ⟨(some 54), (some (48, true)), .call 43 [(.tmp 52), (.tmp 53)]⟩, ⟨(some 55), (some (48, true)), .call 41 [(.tmp 51), (.tmp 54)]⟩, ⟨(some 56), none, .pick (.tmp 48) (.tmp 55) (.const (.bool false))⟩, ⟨(some 6), none, .mv (.tmp 56)⟩])
 .ret))))))
theorem fn_waymarklaw14_SoundTells : FnOk Try.prog 9 Try.f9 sc_waymarklaw14_SoundTells [.tmp 6] 3 := ⟨Try.func9, by kernel_rfl, by kernel_rfl, by kernel_rfl, by kernel_rfl, by kernel_rfl, by kernel_rfl⟩

/- loop of waymark/waymarklaw14.SoundOrder, wants [2, 9, 11, 12] [] -/
def sc_waymarklaw14_SoundOrder_L0 : SCode :=
 (.seq (.seq (.reg [2, 9, 11, 12] [⟨(some 75), none, .mv (.tmp 12)⟩, ⟨(some 76), none, .mv (.tmp 9)⟩, ⟨(some 77), none, .bin .lss 3 (.tmp 75) (.tmp 76)⟩])
 (.cond (.tmp 77) .skip (.exit 2)))
 (.seq (.block 3 (.seq (.draw [2, 9, 11, 12] [⟨(some 80), none, .mv (.tmp 11)⟩, ⟨(some 81), none, .mv (.tmp 12)⟩, ⟨(some 82), none, .ia none 17 (.tmp 80) (.tmp 81)⟩, ⟨(some 83), none, .fld 9 (.tmp 82)⟩, ⟨(some 84), none, .fld 0 (.tmp 83)⟩, ⟨(some 85), none, .load 1 false (.tmp 84)⟩, ⟨(some 86), none, .mv (.tmp 2)⟩, ⟨(some 87), none, .bin .neq 3 (.tmp 85) (.tmp 86)⟩, ⟨(some 88), none, .mv (.tmp 87)⟩, ⟨(some 89), (some (88, false)), .mv (.tmp 12)⟩, ⟨(some 90), (some (88, false)), .bin .gtr 3 (.tmp 89) (.const (.int .i64 0))⟩, ⟨(some 91), (some (88, false)), .mv (.tmp 90)⟩, ⟨(some 92), (some (91, true)), .mv (.tmp 11)⟩, ⟨(some 93), (some (91, true)), .mv (.tmp 12)⟩, ⟨(some 94), (some (91, true)), .ia none 17 (.tmp 92) (.tmp 93)⟩, ⟨(some 95), (some (91, true)), .fld 1 (.tmp 94)⟩, ⟨(some 96), (some (91, true)), .load 1 false (.tmp 95)⟩, ⟨(some 97), (some (91, true)), .mv (.tmp 11)⟩, ⟨(some 98), (some (91, true)), .mv (.tmp 12)⟩, ⟨(some 99), (some (91, true)), .bin .sub 3 (.tmp 98) (.const (.int .i64 1))⟩, ⟨(some 100), (some (91, true)), .ia none 17 (.tmp 97) (.tmp 99)⟩, ⟨(some 101), (some (91, true)), .fld 1 (.tmp 100)⟩, ⟨(some 102), (some (91, true)), .load 1 false (.tmp 101)⟩, ⟨(some 103), (some (91, true)), .bin .gtr 3 (.tmp 96) (.tmp 102)⟩, ⟨(some 104), (some (91, true)), .mv (.tmp 103)⟩, ⟨(some 105), (some (104, false)), .mv (.tmp 11)⟩, ⟨(some 106), (some (104, false)), .mv (.tmp 12)⟩, ⟨(some 107), (some (104, false)), .ia none 17 (.tmp 105) (.tmp 106)⟩, ⟨(some 108), (some (104, false)), .fld 1 (.tmp 107)⟩, ⟨(some 109), (some (104, false)), .load 1 false (.tmp 108)⟩, ⟨(some 110), (some (104, false)), .mv (.tmp 11)⟩, ⟨(some 111), (some (104, false)), .mv (.tmp 12)⟩, ⟨(some 112), (some (104, false)), .bin .sub 3 (.tmp 111) (.const (.int .i64 1))⟩, ⟨(some 113), (some (104, false)), .ia none 17 (.tmp 110) (.tmp 112)⟩, ⟨(some 114), (some (104, false)), .fld 1 (.tmp 113)⟩, ⟨(some 115), (some (104, false)), .load 1 false (.tmp 114)⟩, ⟨(some 116), (some (104, false)), .bin .eql 3 (.tmp 109) (.tmp 115)⟩, ⟨(some 117), (some (104, false)), .mv (.tmp 116)⟩, ⟨(some 118), (some (117, true)), .mv (.tmp 11)⟩, ⟨(some 119), (some (117, true)), .mv (.tmp 12)⟩, ⟨(some 120), (some (117, true)), .ia none 17 (.tmp 118) (.tmp 119)⟩, ⟨(some 121), (some (117, true)), .fld 9 (.tmp 120)⟩, ⟨(some 122), (some (117, true)), .fld 1 (.tmp 121)⟩, ⟨(some 123), (some (117, true)), .load 1 false (.tmp 122)⟩, ⟨(some 124), (some (117, true)), .mv (.tmp 11)⟩, ⟨(some 125), (some (117, true)), .mv (.tmp 12)⟩, ⟨(some 126), (some (117, true)), .bin .sub 3 (.tmp 125) (.const (.int .i64 1))⟩, ⟨(some 127), (some (117, true)), .ia none 17 (.tmp 124) (.tmp 126)⟩, ⟨(some 128), (some (117, true)), .fld 9 (.tmp 127)⟩, ⟨(some 129), (some (117, true)), .fld 1 (.tmp 128)⟩, ⟨(some 130), (some (117, true)), .load 1 false (.tmp 129)⟩, ⟨(some 131), (some (117, true)), .bin .leq 3 (.tmp 123) (.tmp 130)⟩, ⟨(some 132), (some (104, false)), .pick (.tmp 117) (.tmp 131) (.const (.bool false))⟩, ⟨(some 133), (some (91, true)), .pick (.tmp 104) (.const (.bool true)) (.tmp 132)⟩, ⟨(some 134), (some (88, false)), .pick (.tmp 91) (.tmp 133) (.const (.bool false))⟩, ⟨(some 135), none, .pick (.tmp 88) (.const (.bool true)) (.tmp 134)⟩])
 (.cond (.tmp 135) (.seq (.reg [] [⟨(some 6), none, .mv (.const (.bool false))⟩])
 .ret) .skip)))
 (.reg [2, 9, 11, 12] [⟨(some 78), none, .mv (.tmp 12)⟩, ⟨(some 79), none, .bin .add 3 (.tmp 78) (.const (.int .i64 1))⟩, ⟨(some 12), none, .mv (.tmp 79)⟩])))
/- loop of waymark/waymarklaw14.SoundOrder, wants [0, 1, 2, 8, 9, 10] [] -/
def sc_waymarklaw14_SoundOrder_L1 : SCode :=
 (.seq (.seq (.reg [0, 1, 2, 8, 9, 10] [⟨(some 37), none, .mv (.tmp 10)⟩, ⟨(some 38), none, .mv (.tmp 0)⟩, ⟨(some 39), none, .len false (.tmp 38)⟩, ⟨(some 40), none, .bin .lss 3 (.tmp 37) (.tmp 39)⟩])
 (.cond (.tmp 40) .skip (.exit 0)))
 (.seq (.block 1 (.seq (.draw [0, 1, 2, 8, 9, 10] [⟨(some 43), none, .mv (.tmp 8)⟩, ⟨(some 44), none, .mv (.tmp 0)⟩, ⟨(some 45), none, .mv (.tmp 10)⟩, ⟨(some 46), none, .ia none 1 (.tmp 44) (.tmp 45)⟩, ⟨(some 47), none, .load 1 false (.tmp 46)⟩, ⟨(some 48), none, .bin .and 3 (.tmp 47) (.const (.int .i64 3))⟩, ⟨(some 49), none, .mv (.tmp 1)⟩, ⟨(some 50), none, .mv (.tmp 10)⟩, ⟨(some 51), none, .ia none 1 (.tmp 49) (.tmp 50)⟩, ⟨(some 52), none, .load 1 false (.tmp 51)⟩, ⟨(some 53), none, .bin .and 3 (.tmp 52) (.const (.int .i64 3))⟩, ⟨(some 54), none, .mv (.tmp 10)⟩, ⟨(some 55), none, .build [(.int .i64 0), (.int .i64 0), (.int .i64 0), (.slice none 0 0), (.slice none 0 0), (.slice none 0 0), (.slice none 0 0)] [(0, 1, (.tmp 53)), (1, 1, (.tmp 54))]⟩, ⟨(some 56), none, .build [(.string ⟨#[]⟩), (.int .i64 0), (.int .u32 0), (.int .i64 0), (.int .u32 0), (.int .i64 0), (.int .i64 0), (.int .i64 0), (.int .i64 0), (.int .i64 0), (.int .i64 0), (.int .i64 0), (.slice none 0 0), (.slice none 0 0), (.slice none 0 0), (.slice none 0 0), (.bool false)] [(1, 1, (.tmp 48)), (9, 7, (.tmp 55))]⟩, ⟨(some 57), none, .bsl 36 17 [(.string ⟨#[]⟩), (.int .i64 0), (.int .u32 0), (.int .i64 0), (.int .u32 0), (.int .i64 0), (.int .i64 0), (.int .i64 0), (.int .i64 0), (.int .i64 0), (.int .i64 0), (.int .i64 0), (.slice none 0 0), (.slice none 0 0), (.slice none 0 0), (.slice none 0 0), (.bool false)] 1 [(0, 17, (.tmp 56))]⟩, ⟨(some 58), none, .hp (.app 22 36 17 208 (.agg #[(.string ⟨#[]⟩), (.int .i64 0), (.int .u32 0), (.int .i64 0), (.int .u32 0), (.int .i64 0), (.int .i64 0), (.int .i64 0), (.int .i64 0), (.int .i64 0), (.int .i64 0), (.int .i64 0), (.slice none 0 0), (.slice none 0 0), (.slice none 0 0), (.slice none 0 0), (.bool false)]) (.tmp 43) (.tmp 57))⟩, ⟨(some 8), none, .mv (.tmp 58)⟩])
 (.seq (.reg [0, 1, 2, 8, 9, 10] [⟨(some 59), none, .mv (.tmp 1)⟩, ⟨(some 60), none, .mv (.tmp 10)⟩, ⟨(some 61), none, .ia none 1 (.tmp 59) (.tmp 60)⟩, ⟨(some 62), none, .load 1 false (.tmp 61)⟩, ⟨(some 63), none, .bin .and 3 (.tmp 62) (.const (.int .i64 3))⟩, ⟨(some 64), none, .mv (.tmp 2)⟩, ⟨(some 65), none, .bin .eql 3 (.tmp 63) (.tmp 64)⟩])
 (.cond (.tmp 65) (.reg [0, 1, 2, 8, 9, 10] [⟨(some 66), none, .mv (.tmp 9)⟩, ⟨(some 67), none, .bin .add 3 (.tmp 66) (.const (.int .i64 1))⟩, ⟨(some 9), none, .mv (.tmp 67)⟩]) .skip))))
 (.reg [0, 1, 2, 8, 9, 10] [⟨(some 41), none, .mv (.tmp 10)⟩, ⟨(some 42), none, .bin .add 3 (.tmp 41) (.const (.int .i64 1))⟩, ⟨(some 10), none, .mv (.tmp 42)⟩])))
/- 10 waymark/waymarklaw14.SoundOrder: slots 0 pris, 1 nodes, 2 node, 3 pris, 4 nodes, 5 node, 7 live, 8 l, 9 n, 10 i, 11 x, 12 i -/
def sc_waymarklaw14_SoundOrder : SCode :=
 (.seq (.reg [0, 1, 2] [⟨(some 6), none, .mv (.const (.bool false))⟩])
 (.seq (.reg [0, 1, 2] [⟨(some 13), none, .call 37 []⟩, ⟨(some 7), none, .mv (.tmp 13)⟩])
 (.seq (.seq (.reg [0, 1, 2, 7] [⟨(some 14), none, .mv (.tmp 7)⟩, ⟨(some 15), none, .un .not (.tmp 14)⟩, ⟨(some 16), none, .mv (.tmp 15)⟩, ⟨(some 17), (some (16, false)), .mv (.tmp 0)⟩, ⟨(some 18), (some (16, false)), .len false (.tmp 17)⟩, ⟨(some 19), (some (16, false)), .bin .gtr 3 (.tmp 18) (.const (.int .i64 30))⟩, ⟨(some 20), none, .pick (.tmp 16) (.const (.bool true)) (.tmp 19)⟩, ⟨(some 21), none, .mv (.tmp 20)⟩, ⟨(some 22), (some (21, false)), .mv (.tmp 1)⟩, ⟨(some 23), (some (21, false)), .len false (.tmp 22)⟩, ⟨(some 24), (some (21, false)), .mv (.tmp 0)⟩, ⟨(some 25), (some (21, false)), .len false (.tmp 24)⟩, ⟨(some 26), (some (21, false)), .bin .lss 3 (.tmp 23) (.tmp 25)⟩, ⟨(some 27), none, .pick (.tmp 21) (.const (.bool true)) (.tmp 26)⟩, ⟨(some 28), none, .mv (.tmp 27)⟩, ⟨(some 29), (some (28, false)), .mv (.tmp 2)⟩, ⟨(some 30), (some (28, false)), .bin .lss 3 (.tmp 29) (.const (.int .i64 0))⟩, ⟨(some 31), none, .pick (.tmp 28) (.const (.bool true)) (.tmp 30)⟩, ⟨(some 32), none, .mv (.tmp 31)⟩, ⟨(some 33), (some (32, false)), .mv (.tmp 2)⟩, ⟨(some 34), (some (32, false)), .bin .gtr 3 (.tmp 33) (.const (.int .i64 3))⟩, ⟨(some 35), none, .pick (.tmp 32) (.const (.bool true)) (.tmp 34)⟩])
 (.cond (.tmp 35) (.seq (.reg [7] [⟨(some 36), none, .mv (.tmp 7)⟩, ⟨(some 6), none, .mv (.tmp 36)⟩])
 .ret) .skip))
 (.seq (.reg [0, 1, 2] [⟨(some 8), none, .mv (.const (.slice none 0 0))⟩])
 (.seq (.reg [0, 1, 2, 8] [⟨(some 9), none, .mv (.const (.int .i64 0))⟩])
 (.seq (.seq (.reg [0, 1, 2, 8, 9] [⟨(some 10), none, .mv (.const (.int .i64 0))⟩])
 (.block 0 (.loop [0, 1, 2, 8, 9, 10] [] sc_waymarklaw14_SoundOrder_L1)))
 (.seq (.fz [8] (.reg [2, 8, 9] [⟨(some 68), none, .mv (.tmp 8)⟩, ⟨(some 69), none, .mv (.tmp 2)⟩, ⟨(some 70), none, .call 42 [(.tmp 68), (.tmp 69)]⟩, ⟨(some 11), none, .mv (.tmp 70)⟩]))
 (.seq (.seq (.reg [2, 9, 11] [⟨(some 71), none, .mv (.tmp 11)⟩, ⟨(some 72), none, .len false (.tmp 71)⟩, ⟨(some 73), none, .mv (.tmp 9)⟩, ⟨(some 74), none, .bin .neq 3 (.tmp 72) (.tmp 73)⟩])
 (.cond (.tmp 74) (.seq (.reg [] [⟨(some 6), none, .mv (.const (.bool false))⟩])
 .ret) .skip))
 (.seq (.seq (.reg [2, 9, 11] [⟨(some 12), none, .mv (.const (.int .i64 0))⟩])
 (.block 2 (.loop [2, 9, 11, 12] [] sc_waymarklaw14_SoundOrder_L0)))
 (.seq (.reg [] [⟨(some 6), none, .mv (.const (.bool true))⟩])
 .ret))))))))))
theorem fn_waymarklaw14_SoundOrder : FnOk Try.prog 10 Try.f10 sc_waymarklaw14_SoundOrder [.tmp 6] 3 := ⟨Try.func10, by kernel_rfl, by kernel_rfl, by kernel_rfl, by kernel_rfl, by kernel_rfl, by kernel_rfl⟩

/- loop of waymark/waymarklaw14.SoundWrong, wants [0, 1, 6, 7, 8] [(7, 47, 36, 17)] -/
def sc_waymarklaw14_SoundWrong_L0 : SCode :=
 (.seq (.seq (.reg [0, 1, 6, 7, 8] [⟨(some 35), none, .mv (.tmp 8)⟩, ⟨(some 36), none, .bin .lss 3 (.tmp 35) (.const (.int .i64 5))⟩])
 (.cond (.tmp 36) .skip (.exit 0)))
 (.seq (.block 1 (.reg [0, 1, 6, 7, 8] [⟨(some 39), none, .mv (.tmp 7)⟩, ⟨(some 40), none, .mv (.tmp 8)⟩, ⟨(some 41), none, .mv (.tmp 8)⟩, ⟨(some 42), none, .bin .add 3 (.tmp 41) (.const (.int .i64 1))⟩, ⟨(some 43), none, .slc none (.const (.string ⟨#[97, 98, 99, 100, 101]⟩)) (some (.tmp 40)) (some (.tmp 42)) none⟩, ⟨(some 44), none, .build [(.int .i64 0), (.int .i64 0), (.int .i64 0), (.slice none 0 0), (.slice none 0 0), (.slice none 0 0), (.slice none 0 0)] [(1, 1, (.const (.int .i64 1)))]⟩, ⟨(some 45), none, .build [(.string ⟨#[]⟩), (.int .i64 0), (.int .u32 0), (.int .i64 0), (.int .u32 0), (.int .i64 0), (.int .i64 0), (.int .i64 0), (.int .i64 0), (.int .i64 0), (.int .i64 0), (.int .i64 0), (.slice none 0 0), (.slice none 0 0), (.slice none 0 0), (.slice none 0 0), (.bool false)] [(0, 1, (.tmp 43)), (9, 7, (.tmp 44))]⟩, ⟨(some 46), none, .bsl 36 17 [(.string ⟨#[]⟩), (.int .i64 0), (.int .u32 0), (.int .i64 0), (.int .u32 0), (.int .i64 0), (.int .i64 0), (.int .i64 0), (.int .i64 0), (.int .i64 0), (.int .i64 0), (.int .i64 0), (.slice none 0 0), (.slice none 0 0), (.slice none 0 0), (.slice none 0 0), (.bool false)] 1 [(0, 17, (.tmp 45))]⟩, ⟨(some 47), none, .app 22 36 17 208 (.agg #[(.string ⟨#[]⟩), (.int .i64 0), (.int .u32 0), (.int .i64 0), (.int .u32 0), (.int .i64 0), (.int .i64 0), (.int .i64 0), (.int .i64 0), (.int .i64 0), (.int .i64 0), (.int .i64 0), (.slice none 0 0), (.slice none 0 0), (.slice none 0 0), (.slice none 0 0), (.bool false)]) (.tmp 39) (.tmp 46)⟩, ⟨(some 7), none, .mv (.tmp 47)⟩]))
 (.reg [0, 1, 6, 7, 8] [⟨(some 37), none, .mv (.tmp 8)⟩, ⟨(some 38), none, .bin .add 3 (.tmp 37) (.const (.int .i64 1))⟩, ⟨(some 8), none, .mv (.tmp 38)⟩])))
/- 11 waymark/waymarklaw14.SoundWrong: slots 0 which, 1 at, 2 which, 3 at, 5 live, 6 g, 7 l, 8 i, 9 r, 10 k, 11 e -/
def sc_waymarklaw14_SoundWrong : SCode :=
 (.seq (.reg [0, 1] [⟨(some 4), none, .mv (.const (.bool false))⟩])
 (.seq (.reg [0, 1] [⟨(some 12), none, .call 37 []⟩, ⟨(some 5), none, .mv (.tmp 12)⟩])
 (.seq (.seq (.reg [0, 1, 5] [⟨(some 13), none, .mv (.tmp 5)⟩, ⟨(some 14), none, .un .not (.tmp 13)⟩, ⟨(some 15), none, .mv (.tmp 14)⟩, ⟨(some 16), (some (15, false)), .mv (.tmp 0)⟩, ⟨(some 17), (some (15, false)), .bin .lss 3 (.tmp 16) (.const (.int .i64 0))⟩, ⟨(some 18), none, .pick (.tmp 15) (.const (.bool true)) (.tmp 17)⟩, ⟨(some 19), none, .mv (.tmp 18)⟩, ⟨(some 20), (some (19, false)), .mv (.tmp 0)⟩, ⟨(some 21), (some (19, false)), .bin .gtr 3 (.tmp 20) (.const (.int .i64 9))⟩, ⟨(some 22), none, .pick (.tmp 19) (.const (.bool true)) (.tmp 21)⟩, ⟨(some 23), none, .mv (.tmp 22)⟩, ⟨(some 24), (some (23, false)), .mv (.tmp 1)⟩, ⟨(some 25), (some (23, false)), .bin .lss 3 (.tmp 24) (.const (.int .i64 0))⟩, ⟨(some 26), none, .pick (.tmp 23) (.const (.bool true)) (.tmp 25)⟩, ⟨(some 27), none, .mv (.tmp 26)⟩, ⟨(some 28), (some (27, false)), .mv (.tmp 1)⟩, ⟨(some 29), (some (27, false)), .bin .gtr 3 (.tmp 28) (.const (.int .i64 4))⟩, ⟨(some 30), none, .pick (.tmp 27) (.const (.bool true)) (.tmp 29)⟩])
 (.cond (.tmp 30) (.seq (.reg [5] [⟨(some 31), none, .mv (.tmp 5)⟩, ⟨(some 4), none, .mv (.tmp 31)⟩])
 .ret) .skip))
 (.seq (.reg [0, 1] [⟨(some 32), none, .build [(.int .i64 0), (.int .i64 0), (.int .i64 0), (.int .i64 0)] [(1, 1, (.const (.int .i64 1))), (2, 1, (.const (.int .i64 1)))]⟩, ⟨(some 33), none, .bsl 57 4 [(.int .i64 0), (.int .i64 0), (.int .i64 0), (.int .i64 0)] 1 [(0, 4, (.tmp 32))]⟩, ⟨(some 34), none, .build [(.int .i64 0), (.slice none 0 0)] [(0, 1, (.const (.int .i64 3))), (1, 1, (.tmp 33))]⟩, ⟨(some 6), none, .alloc 44 [(.int .i64 0), (.slice none 0 0)]⟩, ⟨none, none, .store 2 (.tmp 6) (.tmp 34)⟩])
 (.seq (.reg [0, 1, 6] [⟨(some 7), none, .mv (.const (.slice none 0 0))⟩])
 (.seq (.seq (.reg [0, 1, 6, 7] [⟨(some 8), none, .mv (.const (.int .i64 0))⟩])
 (.block 0 (.loop [0, 1, 6, 7, 8] [(7, 47, 36, 17)] sc_waymarklaw14_SoundWrong_L0)))
 (.seq (.reg [0, 1, 6, 7] [⟨(some 48), none, .mv (.tmp 7)⟩, ⟨(some 49), none, .mv (.tmp 1)⟩, ⟨(some 50), none, .ia none 17 (.tmp 48) (.tmp 49)⟩, ⟨(some 9), none, .mv (.tmp 50)⟩])
 (.seq (.seq (.reg [0, 1, 6, 7, 9] [⟨(some 51), none, .mv (.tmp 0)⟩])
 (.block 2 (.seq (.reg [0, 1, 6, 7, 9, 51] [⟨(some 58), none, .bin .eql 3 (.tmp 51) (.const (.int .i64 0))⟩, ⟨(some 57), none, .mv (.tmp 58)⟩])
 (.cond (.tmp 57) (.reg [0, 1, 6, 7, 9] [⟨(some 59), none, .mv (.tmp 9)⟩, ⟨(some 60), none, .nilc (.tmp 59)⟩, ⟨(some 61), none, .fld 0 (.tmp 60)⟩, ⟨none, none, .store 1 (.tmp 61) (.const (.string ⟨#[65]⟩))⟩]) (.seq (.reg [0, 1, 6, 7, 9, 51] [⟨(some 63), none, .bin .eql 3 (.tmp 51) (.const (.int .i64 1))⟩, ⟨(some 62), none, .mv (.tmp 63)⟩])
 (.cond (.tmp 62) (.reg [0, 1, 6, 7, 9] [⟨(some 64), none, .mv (.tmp 9)⟩, ⟨(some 65), none, .nilc (.tmp 64)⟩, ⟨(some 66), none, .fld 0 (.tmp 65)⟩, ⟨none, none, .store 1 (.tmp 66) (.const (.string ⟨#[]⟩))⟩]) (.seq (.reg [0, 1, 6, 7, 9, 51] [⟨(some 68), none, .bin .eql 3 (.tmp 51) (.const (.int .i64 2))⟩, ⟨(some 67), none, .mv (.tmp 68)⟩])
 (.cond (.tmp 67) (.reg [0, 1, 6, 7, 9] [⟨(some 69), none, .mv (.tmp 9)⟩, ⟨(some 70), none, .nilc (.tmp 69)⟩, ⟨(some 71), none, .fld 9 (.tmp 70)⟩, ⟨(some 72), none, .fld 1 (.tmp 71)⟩, ⟨none, none, .store 1 (.tmp 72) (.const (.int .i64 3))⟩]) (.seq (.reg [0, 1, 6, 7, 9, 51] [⟨(some 74), none, .bin .eql 3 (.tmp 51) (.const (.int .i64 3))⟩, ⟨(some 73), none, .mv (.tmp 74)⟩])
 (.cond (.tmp 73) (.reg [0, 1, 6, 7, 9] [⟨(some 75), none, .mv (.tmp 9)⟩, ⟨(some 76), none, .bsl 3 1 [(.int .i64 0)] 1 [(0, 1, (.const (.int .i64 (-1))))]⟩, ⟨(some 77), none, .nilc (.tmp 75)⟩, ⟨(some 78), none, .fld 9 (.tmp 77)⟩, ⟨(some 79), none, .fld 3 (.tmp 78)⟩, ⟨none, none, .store 1 (.tmp 79) (.tmp 76)⟩]) (.seq (.reg [0, 1, 6, 7, 9, 51] [⟨(some 81), none, .bin .eql 3 (.tmp 51) (.const (.int .i64 4))⟩, ⟨(some 80), none, .mv (.tmp 81)⟩])
 (.cond (.tmp 80) (.reg [0, 1, 6, 7, 9] [⟨(some 82), none, .mv (.tmp 9)⟩, ⟨(some 83), none, .bsl 3 1 [(.int .i64 0)] 1 [(0, 1, (.const (.int .i64 1)))]⟩, ⟨(some 84), none, .nilc (.tmp 82)⟩, ⟨(some 85), none, .fld 9 (.tmp 84)⟩, ⟨(some 86), none, .fld 5 (.tmp 85)⟩, ⟨none, none, .store 1 (.tmp 86) (.tmp 83)⟩]) (.seq (.reg [0, 1, 6, 7, 9, 51] [⟨(some 88), none, .bin .eql 3 (.tmp 51) (.const (.int .i64 5))⟩, ⟨(some 87), none, .mv (.tmp 88)⟩])
 (.cond (.tmp 87) (.reg [0, 1, 6, 7, 9] [⟨(some 89), none, .mv (.tmp 9)⟩, ⟨(some 90), none, .bsl 3 1 [(.int .i64 0)] 1 [(0, 1, (.const (.int .i64 63)))]⟩, ⟨(some 91), none, .nilc (.tmp 89)⟩, ⟨(some 92), none, .fld 9 (.tmp 91)⟩, ⟨(some 93), none, .fld 6 (.tmp 92)⟩, ⟨none, none, .store 1 (.tmp 93) (.tmp 90)⟩]) (.seq (.reg [0, 1, 6, 7, 9, 51] [⟨(some 95), none, .bin .eql 3 (.tmp 51) (.const (.int .i64 6))⟩, ⟨(some 94), none, .mv (.tmp 95)⟩])
 (.cond (.tmp 94) (.reg [0, 1, 6, 7, 9] [⟨(some 96), none, .mv (.tmp 9)⟩, ⟨(some 97), none, .nilc (.tmp 96)⟩, ⟨(some 98), none, .fld 1 (.tmp 97)⟩, ⟨none, none, .store 1 (.tmp 98) (.const (.int .i64 (-1)))⟩]) (.seq (.reg [0, 1, 6, 7, 9, 51] [⟨(some 100), none, .bin .eql 3 (.tmp 51) (.const (.int .i64 7))⟩, ⟨(some 99), none, .mv (.tmp 100)⟩])
 (.cond (.tmp 99) (.reg [0, 1, 6, 7, 9] [⟨(some 101), none, .mv (.tmp 9)⟩, ⟨(some 102), none, .nilc (.tmp 101)⟩, ⟨(some 103), none, .fld 2 (.tmp 102)⟩, ⟨(some 104), none, .fld 4 (.tmp 103)⟩, ⟨none, none, .store 1 (.tmp 104) (.const (.int .i64 256))⟩]) (.seq (.reg [0, 1, 6, 7, 9, 51] [⟨(some 106), none, .bin .eql 3 (.tmp 51) (.const (.int .i64 8))⟩, ⟨(some 105), none, .mv (.tmp 106)⟩])
 (.cond (.tmp 105) (.reg [0, 1, 6, 7, 9] [⟨(some 107), none, .mv (.tmp 9)⟩, ⟨(some 108), none, .nilc (.tmp 107)⟩, ⟨(some 109), none, .fld 2 (.tmp 108)⟩, ⟨(some 110), none, .fld 0 (.tmp 109)⟩, ⟨(some 111), none, .fld 1 (.tmp 110)⟩, ⟨none, none, .store 1 (.tmp 111) (.const (.int .i64 33))⟩]) (.reg [0, 1, 6, 7, 9] [⟨(some 52), none, .mv (.tmp 9)⟩, ⟨(some 53), none, .mksl 3 1 8 [(.int .i64 0)] (.const (.int .i64 5)) (.const (.int .i64 5))⟩, ⟨(some 54), none, .nilc (.tmp 52)⟩, ⟨(some 55), none, .fld 9 (.tmp 54)⟩, ⟨(some 56), none, .fld 3 (.tmp 55)⟩, ⟨none, none, .store 1 (.tmp 56) (.tmp 53)⟩])))))))))))))))))))))
 (.seq (.reg [0, 1, 6, 7] [⟨(some 113), none, .load 2 true (.tmp 6)⟩, ⟨(some 114), none, .mv (.tmp 7)⟩, ⟨(some 115), none, .call 38 [(.tmp 113), (.tmp 114)]⟩, ⟨(some 112), none, .mv (.tmp 115)⟩, ⟨(some 116), none, .ext (.tmp 112) 0⟩, ⟨(some 117), none, .ext (.tmp 112) 1⟩, ⟨(some 10), none, .mv (.tmp 116)⟩, ⟨(some 11), none, .mv (.tmp 117)⟩])
 (.seq (.draw [0, 1, 10, 11] [⟨(some 118), none, .mv (.tmp 10)⟩, ⟨(some 119), none, .mv (.tmp 1)⟩, ⟨(some 120), none, .bin .eql 3 (.tmp 118) (.tmp 119)⟩, ⟨(some 121), none, .mv (.tmp 120)⟩, ⟨(some 122), (some (121, true)), .mv (.tmp 11)⟩, ⟨(some 123), (some (121, true)), .call 40 [(.tmp 122)]⟩, ⟨(some 124), (some (121, true)), .bsl 3 1 [(.int .i64 0)] 10 [(0, 1, (.const (.int .i64 3))), (1, 1, (.const (.int .i64 3))), (2, 1, (.const (.int .i64 4))), (3, 1, (.const (.int .i64 4))), (4, 1, (.const (.int .i64 5))), (5, 1, (.const (.int .i64 1))), (6, 1, (.const (.int .i64 1))), (7, 1, (.const (.int .i64 1))), (8, 1, (.const (.int .i64 1))), (9, 1, (.const (.int .i64 6)))]⟩, ⟨(some 125), (some (121, true)), .mv (.tmp 0)⟩, ⟨(some 126), (some (121, true)), .ia none 1 (.tmp 124) (.tmp 125)⟩, ⟨(some 127), (some (121, true)), .load 1 false (.tmp 126)⟩, ⟨(some 128), (some (121, true)), .bin .eql 3 (.tmp 123) (.tmp 127)⟩, ⟨(some 129), none, .pick (.tmp 121) (.tmp 128) (.const (.bool false))⟩, ⟨(some 4), none, .mv (.tmp 129)⟩])
 .ret))))))))))
theorem fn_waymarklaw14_SoundWrong : FnOk Try.prog 11 Try.f11 sc_waymarklaw14_SoundWrong [.tmp 4] 2 := ⟨Try.func11, by kernel_rfl, by kernel_rfl, by kernel_rfl, by kernel_rfl, by kernel_rfl, by kernel_rfl⟩

/- loop of waymark/waymarklaw14.Few, wants [0, 3] [] -/
def sc_waymarklaw14_Few_L0 : SCode :=
 (.seq (.seq (.reg [0, 3] [⟨(some 4), none, .mv (.tmp 3)⟩, ⟨(some 5), none, .mv (.tmp 0)⟩, ⟨(some 6), none, .len false (.tmp 5)⟩, ⟨(some 7), none, .bin .lss 3 (.tmp 4) (.tmp 6)⟩])
 (.cond (.tmp 7) .skip (.exit 0)))
 (.seq (.block 1 (.seq (.reg [0, 3] [⟨(some 10), none, .mv (.tmp 0)⟩, ⟨(some 11), none, .mv (.tmp 3)⟩, ⟨(some 12), none, .ia none 17 (.tmp 10) (.tmp 11)⟩, ⟨(some 13), none, .fld 0 (.tmp 12)⟩, ⟨(some 14), none, .load 1 false (.tmp 13)⟩, ⟨(some 15), none, .len true (.tmp 14)⟩, ⟨(some 16), none, .bin .gtr 3 (.tmp 15) (.const (.int .i64 100))⟩, ⟨(some 17), none, .mv (.tmp 16)⟩, ⟨(some 18), (some (17, false)), .mv (.tmp 0)⟩, ⟨(some 19), (some (17, false)), .mv (.tmp 3)⟩, ⟨(some 20), (some (17, false)), .ia none 17 (.tmp 18) (.tmp 19)⟩, ⟨(some 21), (some (17, false)), .fld 9 (.tmp 20)⟩, ⟨(some 22), (some (17, false)), .load 7 true (.tmp 21)⟩, ⟨(some 23), (some (17, false)), .call 20 [(.tmp 22)]⟩, ⟨(some 24), (some (17, false)), .un .not (.tmp 23)⟩, ⟨(some 25), none, .pick (.tmp 17) (.const (.bool true)) (.tmp 24)⟩])
 (.cond (.tmp 25) (.seq (.reg [] [⟨(some 2), none, .mv (.const (.bool false))⟩])
 .ret) .skip)))
 (.reg [0, 3] [⟨(some 8), none, .mv (.tmp 3)⟩, ⟨(some 9), none, .bin .add 3 (.tmp 8) (.const (.int .i64 1))⟩, ⟨(some 3), none, .mv (.tmp 9)⟩])))
/- 13 waymark/waymarklaw14.Few: slots 0 l, 1 l, 3 i -/
def sc_waymarklaw14_Few : SCode :=
 (.seq (.reg [0] [⟨(some 2), none, .mv (.const (.bool false))⟩])
 (.seq (.seq (.reg [0] [⟨(some 3), none, .mv (.const (.int .i64 0))⟩])
 (.block 0 (.loop [0, 3] [] sc_waymarklaw14_Few_L0)))
 (.seq (.reg [0] [⟨(some 26), none, .mv (.tmp 0)⟩, ⟨(some 27), none, .len false (.tmp 26)⟩, ⟨(some 28), none, .bin .leq 3 (.tmp 27) (.const (.int .i64 30))⟩, ⟨(some 2), none, .mv (.tmp 28)⟩])
 .ret)))
theorem fn_waymarklaw14_Few : FnOk Try.prog 13 Try.f13 sc_waymarklaw14_Few [.tmp 2] 1 := ⟨Try.func13, by kernel_rfl, by kernel_rfl, by kernel_rfl, by kernel_rfl, by kernel_rfl, by kernel_rfl⟩

/- 37 waymark/waymarklaw14.alive: slots 1 at, 2 e, 3 l -/
def sc_waymarklaw14_alive : SCode :=
 (.seq (.reg [] [⟨(some 0), none, .mv (.const (.bool false))⟩])
 (.seq (.reg [] [⟨(some 5), none, .build [(.int .i64 0), (.slice none 0 0)] [(0, 1, (.const (.int .i64 1)))]⟩, ⟨(some 6), none, .call 38 [(.tmp 5), (.const (.slice none 0 0))]⟩, ⟨(some 4), none, .mv (.tmp 6)⟩, ⟨(some 7), none, .ext (.tmp 4) 0⟩, ⟨(some 8), none, .ext (.tmp 4) 1⟩, ⟨(some 1), none, .mv (.tmp 7)⟩, ⟨(some 2), none, .mv (.tmp 8)⟩])
 (.seq (.reg [1, 2] [⟨(some 9), none, .build [(.string ⟨#[]⟩), (.int .i64 0), (.int .u32 0), (.int .i64 0), (.int .u32 0), (.int .i64 0), (.int .i64 0), (.int .i64 0), (.int .i64 0), (.int .i64 0), (.int .i64 0), (.int .i64 0), (.slice none 0 0), (.slice none 0 0), (.slice none 0 0), (.slice none 0 0), (.bool false)] [(0, 1, (.const (.string ⟨#[97]⟩)))]⟩, ⟨(some 10), none, .build [(.string ⟨#[]⟩), (.int .i64 0), (.int .u32 0), (.int .i64 0), (.int .u32 0), (.int .i64 0), (.int .i64 0), (.int .i64 0), (.int .i64 0), (.int .i64 0), (.int .i64 0), (.int .i64 0), (.slice none 0 0), (.slice none 0 0), (.slice none 0 0), (.slice none 0 0), (.bool false)] [(0, 1, (.const (.string ⟨#[98]⟩))), (1, 1, (.const (.int .i64 3)))]⟩, ⟨(some 11), none, .bsl 36 17 [(.string ⟨#[]⟩), (.int .i64 0), (.int .u32 0), (.int .i64 0), (.int .u32 0), (.int .i64 0), (.int .i64 0), (.int .i64 0), (.int .i64 0), (.int .i64 0), (.int .i64 0), (.int .i64 0), (.slice none 0 0), (.slice none 0 0), (.slice none 0 0), (.slice none 0 0), (.bool false)] 2 [(0, 17, (.tmp 9)), (17, 17, (.tmp 10))]⟩, ⟨(some 12), none, .call 42 [(.tmp 11), (.const (.int .i64 0))]⟩, ⟨(some 3), none, .mv (.tmp 12)⟩])
 (.seq (.reg [1, 2, 3] [⟨(some 13), none, .mv (.tmp 1)⟩, ⟨(some 14), none, .bin .eql 3 (.tmp 13) (.const (.int .i64 (-1)))⟩, ⟨(some 15), none, .mv (.tmp 14)⟩, ⟨(some 16), (some (15, true)), .mv (.tmp 2)⟩, ⟨(some 17), (some (15, true)), .call 40 [(.tmp 16)]⟩, ⟨(some 18), (some (15, true)), .bin .eql 3 (.tmp 17) (.const (.int .i64 0))⟩, ⟨(some 19), none, .pick (.tmp 15) (.tmp 18) (.const (.bool false))⟩, ⟨(some 20), none, .mv (.tmp 19)⟩, ⟨(some 21), (some (20, true)), .mv (.tmp 3)⟩, ⟨(some 22), (some (20, true)), .len false (.tmp 21)⟩, ⟨(some 23), (some (20, true)), .bin .eql 3 (.tmp 22) (.const (.int .i64 2))⟩, ⟨(some 24), none, .pick (.tmp 20) (.tmp 23) (.const (.bool false))⟩, ⟨(some 25), none, .mv (.tmp 24)⟩, ⟨(some 26), (some (25, true)), .mv (.tmp 3)⟩, ⟨(some 27), (some (25, true)), .ia none 17 (.tmp 26) (.const (.int .i64 0))⟩, ⟨(some 28), (some (25, true)), .fld 0 (.tmp 27)⟩, ⟨(some 29), (some (25, true)), .load 1 false (.tmp 28)⟩, ⟨(some 30), (some (25, true)), .bin .eql 9 (.tmp 29) (.const (.string ⟨#[98]⟩))⟩, ⟨(some 31), none, .pick (.tmp 25) (.tmp 30) (.const (.bool false))⟩, ⟨(some 0), none, .mv (.tmp 31)⟩])
 .ret))))
theorem fn_waymarklaw14_alive : FnOk Try.prog 37 Try.f37 sc_waymarklaw14_alive [.tmp 0] 0 := ⟨Try.func37, by kernel_rfl, by kernel_rfl, by kernel_rfl, by kernel_rfl, by kernel_rfl, by kernel_rfl⟩

/- 40 waymark/waymarklaw14.num: slots 0 e, 1 e -/
def sc_waymarklaw14_num : SCode :=
 (.seq (.reg [0] [⟨(some 2), none, .mv (.const (.int .i64 0))⟩])
 (.seq (.reg [0] [⟨(some 3), none, .mv (.tmp 0)⟩, ⟨(some 2), none, .mv (.tmp 3)⟩])
 .ret))
theorem fn_waymarklaw14_num : FnOk Try.prog 40 Try.f40 sc_waymarklaw14_num [.tmp 2] 1 := ⟨Try.func40, by kernel_rfl, by kernel_rfl, by kernel_rfl, by kernel_rfl, by kernel_rfl, by kernel_rfl⟩

end Go.Proofs.Ytgahnhiidhkjaaa
end

section
namespace Go.Proofs.Ytgahnhiidhkjaaa
open Go Abs

/- 20 waymark/waymarklaw8.Few: slots 0 w, 1 w -/
def sc_waymarklaw8_Few : SCode :=
 (.seq (.reg [0] [⟨(some 1), none, .box 34 (.tmp 0)⟩, ⟨(some 2), none, .mv (.const (.bool false))⟩])
 (.seq (.reg [1] [⟨(some 3), none, .fld 3 (.tmp 1)⟩, ⟨(some 4), none, .load 1 false (.tmp 3)⟩, ⟨(some 5), none, .len false (.tmp 4)⟩, ⟨(some 6), none, .bin .leq 3 (.tmp 5) (.const (.int .i64 20))⟩, ⟨(some 7), none, .mv (.tmp 6)⟩, ⟨(some 8), (some (7, true)), .fld 4 (.tmp 1)⟩, ⟨(some 9), (some (7, true)), .load 1 false (.tmp 8)⟩, ⟨(some 10), (some (7, true)), .len false (.tmp 9)⟩, ⟨(some 11), (some (7, true)), .bin .leq 3 (.tmp 10) (.const (.int .i64 60))⟩, ⟨(some 12), none, .pick (.tmp 7) (.tmp 11) (.const (.bool false))⟩, ⟨(some 13), none, .mv (.tmp 12)⟩, ⟨(some 14), (some (13, true)), .fld 5 (.tmp 1)⟩, ⟨(some 15), (some (13, true)), .load 1 false (.tmp 14)⟩, ⟨(some 16), (some (13, true)), .len false (.tmp 15)⟩, ⟨(some 17), (some (13, true)), .bin .leq 3 (.tmp 16) (.const (.int .i64 60))⟩, ⟨(some 18), none, .pick (.tmp 13) (.tmp 17) (.const (.bool false))⟩, ⟨(some 19), none, .mv (.tmp 18)⟩, ⟨(some 20), (some (19, true)), .fld 6 (.tmp 1)⟩, ⟨(some 21), (some (19, true)), .load 1 false (.tmp 20)⟩, ⟨(some 22), (some (19, true)), .len false (.tmp 21)⟩, ⟨(some 23), (some (19, true)), .bin .leq 3 (.tmp 22) (.const (.int .i64 60))⟩, ⟨(some 24), none, .pick (.tmp 19) (.tmp 23) (.const (.bool false))⟩, ⟨(some 2), none, .mv (.tmp 24)⟩])
 .ret))
theorem fn_waymarklaw8_Few : FnOk Try.prog 20 Try.f20 sc_waymarklaw8_Few [.tmp 2] 1 := ⟨Try.func20, by kernel_rfl, by kernel_rfl, by kernel_rfl, by kernel_rfl, by kernel_rfl, by kernel_rfl⟩

end Go.Proofs.Ytgahnhiidhkjaaa
end

section
namespace Go.Proofs.Ytgahnhiidhkjaaa
open Go Abs

/- loop of waymark/waymarkref1.RightWant, wants [3, 11] [] -/
def sc_waymarkref1_RightWant_L0 : SCode :=
 (.seq (.seq (.reg [3, 11] [⟨(some 93), none, .mv (.tmp 11)⟩, ⟨(some 94), none, .fld 6 (.tmp 3)⟩, ⟨(some 95), none, .load 1 false (.tmp 94)⟩, ⟨(some 96), none, .len false (.tmp 95)⟩, ⟨(some 97), none, .bin .lss 3 (.tmp 93) (.tmp 96)⟩])
 (.cond (.tmp 97) .skip (.exit 6)))
 (.seq (.block 7 (.seq (.reg [3, 11] [⟨(some 100), none, .fld 6 (.tmp 3)⟩, ⟨(some 101), none, .load 1 false (.tmp 100)⟩, ⟨(some 102), none, .mv (.tmp 11)⟩, ⟨(some 103), none, .ia none 1 (.tmp 101) (.tmp 102)⟩, ⟨(some 104), none, .load 1 false (.tmp 103)⟩, ⟨(some 105), none, .bin .lss 3 (.tmp 104) (.const (.int .i64 0))⟩, ⟨(some 106), none, .mv (.tmp 105)⟩, ⟨(some 107), (some (106, false)), .fld 6 (.tmp 3)⟩, ⟨(some 108), (some (106, false)), .load 1 false (.tmp 107)⟩, ⟨(some 109), (some (106, false)), .mv (.tmp 11)⟩, ⟨(some 110), (some (106, false)), .ia none 1 (.tmp 108) (.tmp 109)⟩, ⟨(some 111), (some (106, false)), .load 1 false (.tmp 110)⟩, ⟨(some 112), (some (106, false)), .bin .gtr 3 (.tmp 111) (.const (.int .i64 62))⟩, ⟨(some 113), none, .pick (.tmp 106) (.const (.bool true)) (.tmp 112)⟩])
 (.cond (.tmp 113) (.seq (.reg [] [⟨(some 4), none, .mv (.const (.int .i64 1))⟩])
 .ret) .skip)))
 (.reg [3, 11] [⟨(some 98), none, .mv (.tmp 11)⟩, ⟨(some 99), none, .bin .add 3 (.tmp 98) (.const (.int .i64 1))⟩, ⟨(some 11), none, .mv (.tmp 99)⟩])))
/- loop of waymark/waymarkref1.RightWant, wants [2, 3, 10] [] -/
def sc_waymarkref1_RightWant_L1 : SCode :=
 (.seq (.seq (.reg [2, 3, 10] [⟨(some 69), none, .mv (.tmp 10)⟩, ⟨(some 70), none, .fld 5 (.tmp 3)⟩, ⟨(some 71), none, .load 1 false (.tmp 70)⟩, ⟨(some 72), none, .len false (.tmp 71)⟩, ⟨(some 73), none, .bin .lss 3 (.tmp 69) (.tmp 72)⟩])
 (.cond (.tmp 73) .skip (.exit 4)))
 (.seq (.block 5 (.seq (.draw [2, 3, 10] [⟨(some 76), none, .fld 5 (.tmp 3)⟩, ⟨(some 77), none, .load 1 false (.tmp 76)⟩, ⟨(some 78), none, .mv (.tmp 10)⟩, ⟨(some 79), none, .ia none 1 (.tmp 77) (.tmp 78)⟩, ⟨(some 80), none, .load 1 false (.tmp 79)⟩, ⟨(some 81), none, .bin .lss 3 (.tmp 80) (.const (.int .i64 0))⟩, ⟨(some 82), none, .mv (.tmp 81)⟩, ⟨(some 83), (some (82, false)), .fld 5 (.tmp 3)⟩, ⟨(some 84), (some (82, false)), .load 1 false (.tmp 83)⟩, ⟨(some 85), (some (82, false)), .mv (.tmp 10)⟩, ⟨(some 86), (some (82, false)), .ia none 1 (.tmp 84) (.tmp 85)⟩, ⟨(some 87), (some (82, false)), .load 1 false (.tmp 86)⟩, ⟨(some 88), (some (82, false)), .fld 1 (.tmp 2)⟩, ⟨(some 89), (some (82, false)), .load 1 false (.tmp 88)⟩, ⟨(some 90), (some (82, false)), .len false (.tmp 89)⟩, ⟨(some 91), (some (82, false)), .bin .geq 3 (.tmp 87) (.tmp 90)⟩, ⟨(some 92), none, .pick (.tmp 82) (.const (.bool true)) (.tmp 91)⟩])
 (.cond (.tmp 92) (.seq (.reg [] [⟨(some 4), none, .mv (.const (.int .i64 5))⟩])
 .ret) .skip)))
 (.reg [2, 3, 10] [⟨(some 74), none, .mv (.tmp 10)⟩, ⟨(some 75), none, .bin .add 3 (.tmp 74) (.const (.int .i64 1))⟩, ⟨(some 10), none, .mv (.tmp 75)⟩])))
/- loop of waymark/waymarkref1.RightWant, wants [2, 3, 7, 9] [] -/
def sc_waymarkref1_RightWant_L2 : SCode :=
 (.seq (.seq (.reg [2, 3, 7, 9] [⟨(some 50), none, .mv (.tmp 9)⟩, ⟨(some 51), none, .fld 4 (.tmp 3)⟩, ⟨(some 52), none, .load 1 false (.tmp 51)⟩, ⟨(some 53), none, .len false (.tmp 52)⟩, ⟨(some 54), none, .bin .lss 3 (.tmp 50) (.tmp 53)⟩])
 (.cond (.tmp 54) .skip (.exit 2)))
 (.seq (.block 3 (.draw [2, 3, 7, 9] [⟨(some 57), none, .mv (.tmp 7)⟩, ⟨(some 58), none, .mv (.tmp 57)⟩, ⟨(some 59), (some (58, false)), .load 2 true (.tmp 2)⟩, ⟨(some 60), (some (58, false)), .fld 4 (.tmp 3)⟩, ⟨(some 61), (some (58, false)), .load 1 false (.tmp 60)⟩, ⟨(some 62), (some (58, false)), .mv (.tmp 9)⟩, ⟨(some 63), (some (58, false)), .ia none 1 (.tmp 61) (.tmp 62)⟩, ⟨(some 64), (some (58, false)), .load 1 false (.tmp 63)⟩, ⟨(some 65), (some (58, false)), .call 47 [(.tmp 59), (.tmp 64)]⟩, ⟨(some 66), (some (58, false)), .un .not (.tmp 65)⟩, ⟨(some 67), none, .pick (.tmp 58) (.const (.bool true)) (.tmp 66)⟩, ⟨(some 7), none, .mv (.tmp 67)⟩]))
 (.reg [2, 3, 7, 9] [⟨(some 55), none, .mv (.tmp 9)⟩, ⟨(some 56), none, .bin .add 3 (.tmp 55) (.const (.int .i64 1))⟩, ⟨(some 9), none, .mv (.tmp 56)⟩])))
/- loop of waymark/waymarkref1.RightWant, wants [2, 3, 7, 8] [] -/
def sc_waymarkref1_RightWant_L3 : SCode :=
 (.seq (.seq (.reg [2, 3, 7, 8] [⟨(some 32), none, .mv (.tmp 8)⟩, ⟨(some 33), none, .fld 3 (.tmp 3)⟩, ⟨(some 34), none, .load 1 false (.tmp 33)⟩, ⟨(some 35), none, .len false (.tmp 34)⟩, ⟨(some 36), none, .bin .lss 3 (.tmp 32) (.tmp 35)⟩])
 (.cond (.tmp 36) .skip (.exit 0)))
 (.seq (.block 1 (.draw [2, 3, 7, 8] [⟨(some 39), none, .mv (.tmp 7)⟩, ⟨(some 40), none, .mv (.tmp 39)⟩, ⟨(some 41), (some (40, false)), .load 2 true (.tmp 2)⟩, ⟨(some 42), (some (40, false)), .fld 3 (.tmp 3)⟩, ⟨(some 43), (some (40, false)), .load 1 false (.tmp 42)⟩, ⟨(some 44), (some (40, false)), .mv (.tmp 8)⟩, ⟨(some 45), (some (40, false)), .ia none 1 (.tmp 43) (.tmp 44)⟩, ⟨(some 46), (some (40, false)), .load 1 false (.tmp 45)⟩, ⟨(some 47), (some (40, false)), .call 47 [(.tmp 41), (.tmp 46)]⟩, ⟨(some 48), (some (40, false)), .un .not (.tmp 47)⟩, ⟨(some 49), none, .pick (.tmp 40) (.const (.bool true)) (.tmp 48)⟩, ⟨(some 7), none, .mv (.tmp 49)⟩]))
 (.reg [2, 3, 7, 8] [⟨(some 37), none, .mv (.tmp 8)⟩, ⟨(some 38), none, .bin .add 3 (.tmp 37) (.const (.int .i64 1))⟩, ⟨(some 8), none, .mv (.tmp 38)⟩])))
/- 21 waymark/waymarkref1.RightWant: slots 0 g, 1 w, 2 g, 3 w, 5 _, 6 e, 7 bad, 8 i, 9 i, 10 i, 11 i -/
def sc_waymarkref1_RightWant : SCode :=
 (.seq (.reg [0, 1] [⟨(some 2), none, .box 44 (.tmp 0)⟩, ⟨(some 3), none, .box 34 (.tmp 1)⟩, ⟨(some 4), none, .mv (.const (.int .i64 0))⟩])
 (.seq (.reg [2, 3] [⟨(some 13), none, .load 2 true (.tmp 2)⟩, ⟨(some 14), none, .call 27 [(.tmp 13)]⟩, ⟨(some 12), none, .mv (.tmp 14)⟩, ⟨(some 15), none, .ext (.tmp 12) 0⟩, ⟨(some 16), none, .ext (.tmp 12) 1⟩, ⟨(some 5), none, .mv (.tmp 15)⟩, ⟨(some 6), none, .mv (.tmp 16)⟩])
 (.seq (.seq (.reg [2, 3, 6] [⟨(some 17), none, .mv (.tmp 6)⟩, ⟨(some 18), none, .bin .neq 3 (.tmp 17) (.const (.int .i64 0))⟩])
 (.cond (.tmp 18) (.seq (.reg [6] [⟨(some 19), none, .mv (.tmp 6)⟩, ⟨(some 4), none, .mv (.tmp 19)⟩])
 .ret) .skip))
 (.seq (.reg [2, 3] [⟨(some 20), none, .load 2 true (.tmp 2)⟩, ⟨(some 21), none, .fld 0 (.tmp 3)⟩, ⟨(some 22), none, .load 1 false (.tmp 21)⟩, ⟨(some 23), none, .call 47 [(.tmp 20), (.tmp 22)]⟩, ⟨(some 24), none, .un .not (.tmp 23)⟩, ⟨(some 25), none, .mv (.tmp 24)⟩, ⟨(some 26), (some (25, false)), .load 2 true (.tmp 2)⟩, ⟨(some 27), (some (25, false)), .fld 1 (.tmp 3)⟩, ⟨(some 28), (some (25, false)), .load 1 false (.tmp 27)⟩, ⟨(some 29), (some (25, false)), .call 47 [(.tmp 26), (.tmp 28)]⟩, ⟨(some 30), (some (25, false)), .un .not (.tmp 29)⟩, ⟨(some 31), none, .pick (.tmp 25) (.const (.bool true)) (.tmp 30)⟩, ⟨(some 7), none, .mv (.tmp 31)⟩])
 (.seq (.seq (.reg [2, 3, 7] [⟨(some 8), none, .mv (.const (.int .i64 0))⟩])
 (.block 0 (.loop [2, 3, 7, 8] [] sc_waymarkref1_RightWant_L3)))
 (.seq (.seq (.reg [2, 3, 7] [⟨(some 9), none, .mv (.const (.int .i64 0))⟩])
 (.block 2 (.loop [2, 3, 7, 9] [] sc_waymarkref1_RightWant_L2)))
 (.seq (.seq (.reg [2, 3, 7] [⟨(some 68), none, .mv (.tmp 7)⟩])
 (.cond (.tmp 68) (.seq (.reg [] [⟨(some 4), none, .mv (.const (.int .i64 4))⟩])
 .ret) .skip))
 (.seq (.seq (.reg [2, 3] [⟨(some 10), none, .mv (.const (.int .i64 0))⟩])
 (.block 4 (.loop [2, 3, 10] [] sc_waymarkref1_RightWant_L1)))
 (.seq (.seq (.reg [3] [⟨(some 11), none, .mv (.const (.int .i64 0))⟩])
 (.block 6 (.loop [3, 11] [] sc_waymarkref1_RightWant_L0)))
 (.seq (.block 8 (.seq (.reg [3] [⟨(some 115), none, .fld 2 (.tmp 3)⟩, ⟨(some 116), none, .load 1 false (.tmp 115)⟩, ⟨(some 117), none, .bin .lss 3 (.tmp 116) (.const (.int .i64 0))⟩, ⟨(some 114), none, .mv (.tmp 117)⟩])
 (.cond (.tmp 114) (.seq (.reg [] [⟨(some 4), none, .mv (.const (.int .i64 1))⟩])
 .ret) (.seq (.reg [3] [⟨(some 119), none, .fld 3 (.tmp 3)⟩, ⟨(some 120), none, .load 1 false (.tmp 119)⟩, ⟨(some 121), none, .len false (.tmp 120)⟩, ⟨(some 122), none, .bin .gtr 3 (.tmp 121) (.const (.int .i64 4))⟩, ⟨(some 118), none, .mv (.tmp 122)⟩])
 (.cond (.tmp 118) (.seq (.reg [] [⟨(some 4), none, .mv (.const (.int .i64 6))⟩])
 .ret) .skip)))))
 (.seq (.reg [] [⟨(some 4), none, .mv (.const (.int .i64 0))⟩])
 .ret)))))))))))
theorem fn_waymarkref1_RightWant : FnOk Try.prog 21 Try.f21 sc_waymarkref1_RightWant [.tmp 4] 2 := ⟨Try.func21, by kernel_rfl, by kernel_rfl, by kernel_rfl, by kernel_rfl, by kernel_rfl, by kernel_rfl⟩

/- loop of waymark/waymarkref1.Pruned, wants [2, 3, 4, 7, 8] [] -/
def sc_waymarkref1_Pruned_L0 : SCode :=
 (.seq (.seq (.reg [2, 3, 4, 7, 8] [⟨(some 18), none, .mv (.tmp 8)⟩, ⟨(some 19), none, .fld 1 (.tmp 3)⟩, ⟨(some 20), none, .load 1 false (.tmp 19)⟩, ⟨(some 21), none, .len false (.tmp 20)⟩, ⟨(some 22), none, .bin .lss 3 (.tmp 18) (.tmp 21)⟩])
 (.cond (.tmp 22) .skip (.exit 0)))
 (.seq (.block 1 (.seq (.reg [2, 3, 4, 7, 8] [⟨(some 25), none, .fld 1 (.tmp 3)⟩, ⟨(some 26), none, .load 1 false (.tmp 25)⟩, ⟨(some 27), none, .mv (.tmp 8)⟩, ⟨(some 28), none, .ia none 4 (.tmp 26) (.tmp 27)⟩, ⟨(some 29), none, .load 4 true (.tmp 28)⟩, ⟨(some 9), none, .alloc 57 [(.int .i64 0), (.int .i64 0), (.int .i64 0), (.int .i64 0)]⟩, ⟨none, none, .store 4 (.tmp 9) (.tmp 29)⟩])
 (.reg [2, 3, 4, 7, 8, 9] [⟨(some 30), none, .mv (.tmp 7)⟩, ⟨(some 31), none, .mv (.tmp 8)⟩, ⟨(some 32), none, .mv (.tmp 2)⟩, ⟨(some 33), none, .mv (.tmp 8)⟩, ⟨(some 34), none, .call 49 [(.tmp 32), (.tmp 33)]⟩, ⟨(some 35), none, .mv (.tmp 34)⟩, ⟨(some 36), (some (35, false)), .fld 5 (.tmp 4)⟩, ⟨(some 37), (some (35, false)), .load 1 false (.tmp 36)⟩, ⟨(some 38), (some (35, false)), .mv (.tmp 8)⟩, ⟨(some 39), (some (35, false)), .call 50 [(.tmp 37), (.tmp 38)]⟩, ⟨(some 40), none, .pick (.tmp 35) (.const (.bool true)) (.tmp 39)⟩, ⟨(some 41), none, .mv (.tmp 40)⟩, ⟨(some 42), (some (41, false)), .fld 6 (.tmp 4)⟩, ⟨(some 43), (some (41, false)), .load 1 false (.tmp 42)⟩, ⟨(some 44), (some (41, false)), .fld 3 (.tmp 9)⟩, ⟨(some 45), (some (41, false)), .load 1 false (.tmp 44)⟩, ⟨(some 46), (some (41, false)), .call 50 [(.tmp 43), (.tmp 45)]⟩, ⟨(some 47), none, .pick (.tmp 41) (.const (.bool true)) (.tmp 46)⟩, ⟨(some 48), none, .mv (.tmp 47)⟩, ⟨(some 49), (some (48, false)), .fld 4 (.tmp 4)⟩, ⟨(some 50), (some (48, false)), .load 1 false (.tmp 49)⟩, ⟨(some 51), (some (48, false)), .fld 0 (.tmp 9)⟩, ⟨(some 52), (some (48, false)), .load 1 false (.tmp 51)⟩, ⟨(some 53), (some (48, false)), .call 50 [(.tmp 50), (.tmp 52)]⟩, ⟨(some 54), none, .pick (.tmp 48) (.const (.bool true)) (.tmp 53)⟩, ⟨(some 55), none, .mv (.tmp 54)⟩, ⟨(some 56), (some (55, false)), .fld 4 (.tmp 4)⟩, ⟨(some 57), (some (55, false)), .load 1 false (.tmp 56)⟩, ⟨(some 58), (some (55, false)), .fld 1 (.tmp 9)⟩, ⟨(some 59), (some (55, false)), .load 1 false (.tmp 58)⟩, ⟨(some 60), (some (55, false)), .call 50 [(.tmp 57), (.tmp 59)]⟩, ⟨(some 61), none, .pick (.tmp 55) (.const (.bool true)) (.tmp 60)⟩, ⟨(some 62), none, .ia none 1 (.tmp 30) (.tmp 31)⟩, ⟨none, none, .store 1 (.tmp 62) (.tmp 61)⟩])))
 (.reg [2, 3, 4, 7, 8] [⟨(some 23), none, .mv (.tmp 8)⟩, ⟨(some 24), none, .bin .add 3 (.tmp 23) (.const (.int .i64 1))⟩, ⟨(some 8), none, .mv (.tmp 24)⟩])))
/- 23 waymark/waymarkref1.Pruned: slots 0 g, 1 w, 2 down, 3 g, 4 w, 5 down, 7 out, 8 i, 9 l -/
def sc_waymarkref1_Pruned : SCode :=
 (.seq (.reg [0, 1, 2] [⟨(some 3), none, .box 44 (.tmp 0)⟩, ⟨(some 4), none, .box 34 (.tmp 1)⟩, ⟨(some 6), none, .mv (.const (.slice none 0 0))⟩])
 (.seq (.seq (.reg [2, 3, 4] [⟨(some 10), none, .load 2 true (.tmp 3)⟩, ⟨(some 11), none, .load 7 true (.tmp 4)⟩, ⟨(some 12), none, .call 21 [(.tmp 10), (.tmp 11)]⟩, ⟨(some 13), none, .bin .neq 3 (.tmp 12) (.const (.int .i64 0))⟩])
 (.cond (.tmp 13) (.seq (.reg [] [⟨(some 6), none, .mv (.const (.slice none 0 0))⟩])
 .ret) .skip))
 (.seq (.reg [2, 3, 4] [⟨(some 14), none, .fld 1 (.tmp 3)⟩, ⟨(some 15), none, .load 1 false (.tmp 14)⟩, ⟨(some 16), none, .len false (.tmp 15)⟩, ⟨(some 17), none, .mksl 4 1 1 [(.bool false)] (.tmp 16) (.tmp 16)⟩, ⟨(some 7), none, .mv (.tmp 17)⟩])
 (.seq (.seq (.reg [2, 3, 4, 7] [⟨(some 8), none, .mv (.const (.int .i64 0))⟩])
 (.block 0 (.loop [2, 3, 4, 7, 8] [] sc_waymarkref1_Pruned_L0)))
 (.seq (.reg [7] [⟨(some 63), none, .mv (.tmp 7)⟩, ⟨(some 6), none, .mv (.tmp 63)⟩])
 .ret)))))
theorem fn_waymarkref1_Pruned : FnOk Try.prog 23 Try.f23 sc_waymarkref1_Pruned [.tmp 6] 3 := ⟨Try.func23, by kernel_rfl, by kernel_rfl, by kernel_rfl, by kernel_rfl, by kernel_rfl, by kernel_rfl⟩

/- 24 waymark/waymarkref1.Ends: slots 0 g, 1 edge, 2 g, 3 edge, 7 l -/
def sc_waymarkref1_Ends : SCode :=
 (.seq (.reg [0, 1] [⟨(some 2), none, .box 44 (.tmp 0)⟩, ⟨(some 4), none, .mv (.const (.int .i64 0))⟩, ⟨(some 5), none, .mv (.const (.int .i64 0))⟩, ⟨(some 6), none, .mv (.const (.bool false))⟩])
 (.seq (.seq (.reg [1, 2] [⟨(some 8), none, .mv (.tmp 1)⟩, ⟨(some 9), none, .bin .lss 3 (.tmp 8) (.const (.int .i64 0))⟩, ⟨(some 10), none, .mv (.tmp 9)⟩, ⟨(some 11), (some (10, false)), .mv (.tmp 1)⟩, ⟨(some 12), (some (10, false)), .bin .quo 3 (.tmp 11) (.const (.int .i64 2))⟩, ⟨(some 13), (some (10, false)), .fld 1 (.tmp 2)⟩, ⟨(some 14), (some (10, false)), .load 1 false (.tmp 13)⟩, ⟨(some 15), (some (10, false)), .len false (.tmp 14)⟩, ⟨(some 16), (some (10, false)), .bin .geq 3 (.tmp 12) (.tmp 15)⟩, ⟨(some 17), none, .pick (.tmp 10) (.const (.bool true)) (.tmp 16)⟩])
 (.cond (.tmp 17) (.seq (.reg [] [⟨(some 4), none, .mv (.const (.int .i64 0))⟩, ⟨(some 5), none, .mv (.const (.int .i64 0))⟩, ⟨(some 6), none, .mv (.const (.bool false))⟩])
 .ret) .skip))
 (.seq (.reg [1, 2] [⟨(some 18), none, .fld 1 (.tmp 2)⟩, ⟨(some 19), none, .load 1 false (.tmp 18)⟩, ⟨(some 20), none, .mv (.tmp 1)⟩, ⟨(some 21), none, .bin .quo 3 (.tmp 20) (.const (.int .i64 2))⟩, ⟨(some 22), none, .ia none 4 (.tmp 19) (.tmp 21)⟩, ⟨(some 23), none, .load 4 true (.tmp 22)⟩, ⟨(some 7), none, .alloc 57 [(.int .i64 0), (.int .i64 0), (.int .i64 0), (.int .i64 0)]⟩, ⟨none, none, .store 4 (.tmp 7) (.tmp 23)⟩])
 (.seq (.seq (.reg [1, 7] [⟨(some 24), none, .mv (.tmp 1)⟩, ⟨(some 25), none, .bin .rem 3 (.tmp 24) (.const (.int .i64 2))⟩, ⟨(some 26), none, .bin .eql 3 (.tmp 25) (.const (.int .i64 1))⟩])
 (.cond (.tmp 26) (.seq (.draw [7] [⟨(some 27), none, .fld 1 (.tmp 7)⟩, ⟨(some 28), none, .load 1 false (.tmp 27)⟩, ⟨(some 29), none, .fld 0 (.tmp 7)⟩, ⟨(some 30), none, .load 1 false (.tmp 29)⟩, ⟨(some 4), none, .mv (.tmp 28)⟩, ⟨(some 5), none, .mv (.tmp 30)⟩, ⟨(some 6), none, .mv (.const (.bool true))⟩])
 .ret) .skip))
 (.seq (.draw [7] [⟨(some 31), none, .fld 0 (.tmp 7)⟩, ⟨(some 32), none, .load 1 false (.tmp 31)⟩, ⟨(some 33), none, .fld 1 (.tmp 7)⟩, ⟨(some 34), none, .load 1 false (.tmp 33)⟩, ⟨(some 4), none, .mv (.tmp 32)⟩, ⟨(some 5), none, .mv (.tmp 34)⟩, ⟨(some 6), none, .mv (.const (.bool true))⟩])
 .ret)))))
theorem fn_waymarkref1_Ends : FnOk Try.prog 24 Try.f24 sc_waymarkref1_Ends [.tmp 4, .tmp 5, .tmp 6] 2 := ⟨Try.func24, by kernel_rfl, by kernel_rfl, by kernel_rfl, by kernel_rfl, by kernel_rfl, by kernel_rfl⟩

/- loop of waymark/waymarkref1.Check, wants [1, 4] [] -/
def sc_waymarkref1_Check_L0 : SCode :=
 (.seq (.seq (.reg [1, 4] [⟨(some 18), none, .mv (.tmp 4)⟩, ⟨(some 19), none, .fld 1 (.tmp 1)⟩, ⟨(some 20), none, .load 1 false (.tmp 19)⟩, ⟨(some 21), none, .len false (.tmp 20)⟩, ⟨(some 22), none, .bin .lss 3 (.tmp 18) (.tmp 21)⟩])
 (.cond (.tmp 22) .skip (.exit 0)))
 (.seq (.block 1 (.seq (.reg [1, 4] [⟨(some 25), none, .fld 1 (.tmp 1)⟩, ⟨(some 26), none, .load 1 false (.tmp 25)⟩, ⟨(some 27), none, .mv (.tmp 4)⟩, ⟨(some 28), none, .ia none 4 (.tmp 26) (.tmp 27)⟩, ⟨(some 29), none, .load 4 true (.tmp 28)⟩, ⟨(some 5), none, .alloc 57 [(.int .i64 0), (.int .i64 0), (.int .i64 0), (.int .i64 0)]⟩, ⟨none, none, .store 4 (.tmp 5) (.tmp 29)⟩])
 (.seq (.seq (.reg [1, 4, 5] [⟨(some 30), none, .fld 0 (.tmp 5)⟩, ⟨(some 31), none, .load 1 false (.tmp 30)⟩, ⟨(some 32), none, .bin .lss 3 (.tmp 31) (.const (.int .i64 0))⟩, ⟨(some 33), none, .mv (.tmp 32)⟩, ⟨(some 34), (some (33, false)), .fld 0 (.tmp 5)⟩, ⟨(some 35), (some (33, false)), .load 1 false (.tmp 34)⟩, ⟨(some 36), (some (33, false)), .fld 0 (.tmp 1)⟩, ⟨(some 37), (some (33, false)), .load 1 false (.tmp 36)⟩, ⟨(some 38), (some (33, false)), .bin .geq 3 (.tmp 35) (.tmp 37)⟩, ⟨(some 39), none, .pick (.tmp 33) (.const (.bool true)) (.tmp 38)⟩, ⟨(some 40), none, .mv (.tmp 39)⟩, ⟨(some 41), (some (40, false)), .fld 1 (.tmp 5)⟩, ⟨(some 42), (some (40, false)), .load 1 false (.tmp 41)⟩, ⟨(some 43), (some (40, false)), .bin .lss 3 (.tmp 42) (.const (.int .i64 0))⟩, ⟨(some 44), none, .pick (.tmp 40) (.const (.bool true)) (.tmp 43)⟩, ⟨(some 45), none, .mv (.tmp 44)⟩, ⟨(some 46), (some (45, false)), .fld 1 (.tmp 5)⟩, ⟨(some 47), (some (45, false)), .load 1 false (.tmp 46)⟩, ⟨(some 48), (some (45, false)), .fld 0 (.tmp 1)⟩, ⟨(some 49), (some (45, false)), .load 1 false (.tmp 48)⟩, ⟨(some 50), (some (45, false)), .bin .geq 3 (.tmp 47) (.tmp 49)⟩, ⟨(some 51), none, .pick (.tmp 45) (.const (.bool true)) (.tmp 50)⟩, ⟨(some 52), none, .mv (.tmp 51)⟩, ⟨(some 53), (some (52, false)), .fld 0 (.tmp 5)⟩, ⟨(some 54), (some (52, false)), .load 1 false (.tmp 53)⟩, ⟨(some 55), (some (52, false)), .fld 1 (.tmp 5)⟩, ⟨(some 56), (some (52, false)), .load 1 false (.tmp 55)⟩, ⟨(some 57), (some (52, false)), .bin .eql 3 (.tmp 54) (.tmp 56)⟩, ⟨(some 58), none, .pick (.tmp 52) (.const (.bool true)) (.tmp 57)⟩])
 (.cond (.tmp 58) (.seq (.reg [4] [⟨(some 59), none, .mv (.tmp 4)⟩, ⟨(some 2), none, .mv (.tmp 59)⟩, ⟨(some 3), none, .mv (.const (.int .i64 4))⟩])
 .ret) .skip))
 (.seq (.reg [1, 4, 5] [⟨(some 60), none, .fld 2 (.tmp 5)⟩, ⟨(some 61), none, .load 1 false (.tmp 60)⟩, ⟨(some 62), none, .bin .lss 3 (.tmp 61) (.const (.int .i64 1))⟩, ⟨(some 63), none, .mv (.tmp 62)⟩, ⟨(some 64), (some (63, false)), .fld 2 (.tmp 5)⟩, ⟨(some 65), (some (63, false)), .load 1 false (.tmp 64)⟩, ⟨(some 66), (some (63, false)), .bin .gtr 3 (.tmp 65) (.const (.int .i64 16777216))⟩, ⟨(some 67), none, .pick (.tmp 63) (.const (.bool true)) (.tmp 66)⟩, ⟨(some 68), none, .mv (.tmp 67)⟩, ⟨(some 69), (some (68, false)), .fld 3 (.tmp 5)⟩, ⟨(some 70), (some (68, false)), .load 1 false (.tmp 69)⟩, ⟨(some 71), (some (68, false)), .bin .lss 3 (.tmp 70) (.const (.int .i64 0))⟩, ⟨(some 72), none, .pick (.tmp 68) (.const (.bool true)) (.tmp 71)⟩, ⟨(some 73), none, .mv (.tmp 72)⟩, ⟨(some 74), (some (73, false)), .fld 3 (.tmp 5)⟩, ⟨(some 75), (some (73, false)), .load 1 false (.tmp 74)⟩, ⟨(some 76), (some (73, false)), .bin .gtr 3 (.tmp 75) (.const (.int .i64 62))⟩, ⟨(some 77), none, .pick (.tmp 73) (.const (.bool true)) (.tmp 76)⟩])
 (.cond (.tmp 77) (.seq (.reg [4] [⟨(some 78), none, .mv (.tmp 4)⟩, ⟨(some 2), none, .mv (.tmp 78)⟩, ⟨(some 3), none, .mv (.const (.int .i64 1))⟩])
 .ret) .skip)))))
 (.reg [1, 4] [⟨(some 23), none, .mv (.tmp 4)⟩, ⟨(some 24), none, .bin .add 3 (.tmp 23) (.const (.int .i64 1))⟩, ⟨(some 4), none, .mv (.tmp 24)⟩])))
/- 27 waymark/waymarkref1.Check: slots 0 g, 1 g, 4 i, 5 l -/
def sc_waymarkref1_Check : SCode :=
 (.seq (.reg [0] [⟨(some 1), none, .box 44 (.tmp 0)⟩, ⟨(some 2), none, .mv (.const (.int .i64 0))⟩, ⟨(some 3), none, .mv (.const (.int .i64 0))⟩])
 (.seq (.seq (.reg [1] [⟨(some 6), none, .fld 1 (.tmp 1)⟩, ⟨(some 7), none, .load 1 false (.tmp 6)⟩, ⟨(some 8), none, .len false (.tmp 7)⟩, ⟨(some 9), none, .bin .gtr 3 (.tmp 8) (.const (.int .i64 120))⟩])
 (.cond (.tmp 9) (.seq (.reg [] [⟨(some 2), none, .mv (.const (.int .i64 (-1)))⟩, ⟨(some 3), none, .mv (.const (.int .i64 6))⟩])
 .ret) .skip))
 (.seq (.seq (.reg [1] [⟨(some 10), none, .fld 0 (.tmp 1)⟩, ⟨(some 11), none, .load 1 false (.tmp 10)⟩, ⟨(some 12), none, .bin .lss 3 (.tmp 11) (.const (.int .i64 1))⟩, ⟨(some 13), none, .mv (.tmp 12)⟩, ⟨(some 14), (some (13, false)), .fld 0 (.tmp 1)⟩, ⟨(some 15), (some (13, false)), .load 1 false (.tmp 14)⟩, ⟨(some 16), (some (13, false)), .bin .gtr 3 (.tmp 15) (.const (.int .i64 40))⟩, ⟨(some 17), none, .pick (.tmp 13) (.const (.bool true)) (.tmp 16)⟩])
 (.cond (.tmp 17) (.seq (.reg [] [⟨(some 2), none, .mv (.const (.int .i64 (-1)))⟩, ⟨(some 3), none, .mv (.const (.int .i64 1))⟩])
 .ret) .skip))
 (.seq (.seq (.reg [1] [⟨(some 4), none, .mv (.const (.int .i64 0))⟩])
 (.block 0 (.loop [1, 4] [] sc_waymarkref1_Check_L0)))
 (.seq (.reg [] [⟨(some 2), none, .mv (.const (.int .i64 (-1)))⟩, ⟨(some 3), none, .mv (.const (.int .i64 0))⟩])
 .ret)))))
theorem fn_waymarkref1_Check : FnOk Try.prog 27 Try.f27 sc_waymarkref1_Check [.tmp 2, .tmp 3] 1 := ⟨Try.func27, by kernel_rfl, by kernel_rfl, by kernel_rfl, by kernel_rfl, by kernel_rfl, by kernel_rfl⟩

/- loop of waymark/waymarkref1.From, wants [1, 3, 9, 11, 12] [] -/
def sc_waymarkref1_From_L0 : SCode :=
 (.seq (.seq (.reg [1, 3, 9, 11, 12] [⟨(some 46), none, .mv (.tmp 12)⟩, ⟨(some 47), none, .fld 1 (.tmp 3)⟩, ⟨(some 48), none, .load 1 false (.tmp 47)⟩, ⟨(some 49), none, .len false (.tmp 48)⟩, ⟨(some 50), none, .bin .mul 3 (.const (.int .i64 2)) (.tmp 49)⟩, ⟨(some 51), none, .bin .lss 3 (.tmp 46) (.tmp 50)⟩])
 (.cond (.tmp 51) .skip (.exit 4)))
 (.seq (.block 5 (.seq (.reg [1, 3, 9, 11, 12] [⟨(some 55), none, .load 2 true (.tmp 3)⟩, ⟨(some 56), none, .mv (.tmp 12)⟩, ⟨(some 57), none, .call 24 [(.tmp 55), (.tmp 56)]⟩, ⟨(some 54), none, .mv (.tmp 57)⟩, ⟨(some 58), none, .ext (.tmp 54) 0⟩, ⟨(some 59), none, .ext (.tmp 54) 1⟩, ⟨(some 60), none, .ext (.tmp 54) 2⟩, ⟨(some 13), none, .mv (.tmp 58)⟩, ⟨(some 14), none, .mv (.tmp 59)⟩, ⟨(some 15), none, .mv (.tmp 60)⟩])
 (.seq (.draw [1, 3, 9, 11, 12, 13, 14] [⟨(some 61), none, .mv (.tmp 9)⟩, ⟨(some 62), none, .mv (.tmp 13)⟩, ⟨(some 63), none, .ia none 1 (.tmp 61) (.tmp 62)⟩, ⟨(some 64), none, .load 1 false (.tmp 63)⟩, ⟨(some 65), none, .fld 1 (.tmp 3)⟩, ⟨(some 66), none, .load 1 false (.tmp 65)⟩, ⟨(some 67), none, .mv (.tmp 12)⟩, ⟨(some 68), none, .bin .quo 3 (.tmp 67) (.const (.int .i64 2))⟩, ⟨(some 69), none, .ia none 4 (.tmp 66) (.tmp 68)⟩, ⟨(some 70), none, .fld 2 (.tmp 69)⟩, ⟨(some 71), none, .load 1 false (.tmp 70)⟩, ⟨(some 72), none, .bin .add 3 (.tmp 64) (.tmp 71)⟩, ⟨(some 16), none, .mv (.tmp 72)⟩])
 (.seq (.reg [1, 3, 9, 11, 12, 13, 14, 16] [⟨(some 73), none, .mv (.tmp 9)⟩, ⟨(some 74), none, .mv (.tmp 13)⟩, ⟨(some 75), none, .ia none 1 (.tmp 73) (.tmp 74)⟩, ⟨(some 76), none, .load 1 false (.tmp 75)⟩, ⟨(some 77), none, .bin .geq 3 (.tmp 76) (.const (.int .i64 0))⟩, ⟨(some 78), none, .mv (.tmp 77)⟩, ⟨(some 79), (some (78, true)), .mv (.tmp 1)⟩, ⟨(some 80), (some (78, true)), .mv (.tmp 12)⟩, ⟨(some 81), (some (78, true)), .bin .quo 3 (.tmp 80) (.const (.int .i64 2))⟩, ⟨(some 82), (some (78, true)), .call 49 [(.tmp 79), (.tmp 81)]⟩, ⟨(some 83), (some (78, true)), .un .not (.tmp 82)⟩, ⟨(some 84), none, .pick (.tmp 78) (.tmp 83) (.const (.bool false))⟩, ⟨(some 85), none, .mv (.tmp 84)⟩, ⟨(some 86), (some (85, true)), .mv (.tmp 9)⟩, ⟨(some 87), (some (85, true)), .mv (.tmp 14)⟩, ⟨(some 88), (some (85, true)), .ia none 1 (.tmp 86) (.tmp 87)⟩, ⟨(some 89), (some (85, true)), .load 1 false (.tmp 88)⟩, ⟨(some 90), (some (85, true)), .bin .lss 3 (.tmp 89) (.const (.int .i64 0))⟩, ⟨(some 91), (some (85, true)), .mv (.tmp 90)⟩, ⟨(some 92), (some (91, false)), .mv (.tmp 16)⟩, ⟨(some 93), (some (91, false)), .mv (.tmp 9)⟩, ⟨(some 94), (some (91, false)), .mv (.tmp 14)⟩, ⟨(some 95), (some (91, false)), .ia none 1 (.tmp 93) (.tmp 94)⟩, ⟨(some 96), (some (91, false)), .load 1 false (.tmp 95)⟩, ⟨(some 97), (some (91, false)), .bin .lss 3 (.tmp 92) (.tmp 96)⟩, ⟨(some 98), (some (85, true)), .pick (.tmp 91) (.const (.bool true)) (.tmp 97)⟩, ⟨(some 99), none, .pick (.tmp 85) (.tmp 98) (.const (.bool false))⟩])
 (.cond (.tmp 99) (.seq (.reg [1, 3, 9, 12, 14, 16] [⟨(some 100), none, .mv (.tmp 9)⟩, ⟨(some 101), none, .mv (.tmp 14)⟩, ⟨(some 102), none, .mv (.tmp 16)⟩, ⟨(some 103), none, .ia none 1 (.tmp 100) (.tmp 101)⟩, ⟨none, none, .store 1 (.tmp 103) (.tmp 102)⟩])
 (.reg [1, 3, 9, 12] [⟨(some 11), none, .mv (.const (.bool true))⟩])) .skip)))))
 (.reg [1, 3, 9, 11, 12] [⟨(some 52), none, .mv (.tmp 12)⟩, ⟨(some 53), none, .bin .add 3 (.tmp 52) (.const (.int .i64 1))⟩, ⟨(some 12), none, .mv (.tmp 53)⟩])))
/- loop of waymark/waymarkref1.From, wants [1, 3, 9, 11] [] -/
def sc_waymarkref1_From_L1 : SCode :=
 (.seq (.seq (.reg [1, 3, 9, 11] [⟨(some 45), none, .mv (.tmp 11)⟩])
 (.cond (.tmp 45) .skip (.exit 2)))
 (.block 3 (.seq (.reg [1, 3, 9] [⟨(some 11), none, .mv (.const (.bool false))⟩])
 (.seq (.reg [1, 3, 9, 11] [⟨(some 12), none, .mv (.const (.int .i64 0))⟩])
 (.block 4 (.loop [1, 3, 9, 11, 12] [] sc_waymarkref1_From_L0))))))
/- loop of waymark/waymarkref1.From, wants [1, 2, 3, 9, 10] [] -/
def sc_waymarkref1_From_L2 : SCode :=
 (.seq (.seq (.reg [1, 2, 3, 9, 10] [⟨(some 33), none, .mv (.tmp 10)⟩, ⟨(some 34), none, .fld 0 (.tmp 3)⟩, ⟨(some 35), none, .load 1 false (.tmp 34)⟩, ⟨(some 36), none, .bin .lss 3 (.tmp 33) (.tmp 35)⟩])
 (.cond (.tmp 36) .skip (.exit 0)))
 (.seq (.block 1 (.reg [1, 2, 3, 9, 10] [⟨(some 39), none, .mv (.tmp 9)⟩, ⟨(some 40), none, .mv (.tmp 10)⟩, ⟨(some 41), none, .ia none 1 (.tmp 39) (.tmp 40)⟩, ⟨none, none, .store 1 (.tmp 41) (.const (.int .i64 (-1)))⟩]))
 (.reg [1, 2, 3, 9, 10] [⟨(some 37), none, .mv (.tmp 10)⟩, ⟨(some 38), none, .bin .add 3 (.tmp 37) (.const (.int .i64 1))⟩, ⟨(some 10), none, .mv (.tmp 38)⟩])))
/- 28 waymark/waymarkref1.From: slots 0 g, 1 down, 2 node, 3 g, 4 down, 5 node, 7 _, 8 e, 9 d, 10 i, 11 more, 12 k, 13 a, 14 b, 15 _, 16 n -/
def sc_waymarkref1_From : SCode :=
 (.seq (.reg [0, 1, 2] [⟨(some 3), none, .box 44 (.tmp 0)⟩, ⟨(some 6), none, .mv (.const (.slice none 0 0))⟩])
 (.seq (.reg [1, 2, 3] [⟨(some 18), none, .load 2 true (.tmp 3)⟩, ⟨(some 19), none, .call 27 [(.tmp 18)]⟩, ⟨(some 17), none, .mv (.tmp 19)⟩, ⟨(some 20), none, .ext (.tmp 17) 0⟩, ⟨(some 21), none, .ext (.tmp 17) 1⟩, ⟨(some 7), none, .mv (.tmp 20)⟩, ⟨(some 8), none, .mv (.tmp 21)⟩])
 (.seq (.seq (.reg [1, 2, 3, 8] [⟨(some 22), none, .mv (.tmp 8)⟩, ⟨(some 23), none, .bin .neq 3 (.tmp 22) (.const (.int .i64 0))⟩, ⟨(some 24), none, .mv (.tmp 23)⟩, ⟨(some 25), (some (24, false)), .load 2 true (.tmp 3)⟩, ⟨(some 26), (some (24, false)), .mv (.tmp 2)⟩, ⟨(some 27), (some (24, false)), .call 47 [(.tmp 25), (.tmp 26)]⟩, ⟨(some 28), (some (24, false)), .un .not (.tmp 27)⟩, ⟨(some 29), none, .pick (.tmp 24) (.const (.bool true)) (.tmp 28)⟩])
 (.cond (.tmp 29) (.seq (.reg [] [⟨(some 6), none, .mv (.const (.slice none 0 0))⟩])
 .ret) .skip))
 (.seq (.reg [1, 2, 3] [⟨(some 30), none, .fld 0 (.tmp 3)⟩, ⟨(some 31), none, .load 1 false (.tmp 30)⟩, ⟨(some 32), none, .mksl 3 1 8 [(.int .i64 0)] (.tmp 31) (.tmp 31)⟩, ⟨(some 9), none, .mv (.tmp 32)⟩])
 (.seq (.seq (.reg [1, 2, 3, 9] [⟨(some 10), none, .mv (.const (.int .i64 0))⟩])
 (.block 0 (.loop [1, 2, 3, 9, 10] [] sc_waymarkref1_From_L2)))
 (.seq (.reg [1, 2, 3, 9] [⟨(some 42), none, .mv (.tmp 9)⟩, ⟨(some 43), none, .mv (.tmp 2)⟩, ⟨(some 44), none, .ia none 1 (.tmp 42) (.tmp 43)⟩, ⟨none, none, .store 1 (.tmp 44) (.const (.int .i64 0))⟩])
 (.seq (.seq (.reg [1, 3, 9] [⟨(some 11), none, .mv (.const (.bool true))⟩])
 (.block 2 (.loop [1, 3, 9, 11] [] sc_waymarkref1_From_L1)))
 (.seq (.reg [9] [⟨(some 104), none, .mv (.tmp 9)⟩, ⟨(some 6), none, .mv (.tmp 104)⟩])
 .ret))))))))
theorem fn_waymarkref1_From : FnOk Try.prog 28 Try.f28 sc_waymarkref1_From [.tmp 6] 3 := ⟨Try.func28, by kernel_rfl, by kernel_rfl, by kernel_rfl, by kernel_rfl, by kernel_rfl, by kernel_rfl⟩

/- 47 waymark/waymarkref1.Node: slots 0 g, 1 n, 2 g, 3 n -/
def sc_waymarkref1_Node : SCode :=
 (.seq (.reg [0, 1] [⟨(some 2), none, .box 44 (.tmp 0)⟩, ⟨(some 4), none, .mv (.const (.bool false))⟩])
 (.seq (.reg [1, 2] [⟨(some 5), none, .mv (.tmp 1)⟩, ⟨(some 6), none, .bin .geq 3 (.tmp 5) (.const (.int .i64 0))⟩, ⟨(some 7), none, .mv (.tmp 6)⟩, ⟨(some 8), (some (7, true)), .mv (.tmp 1)⟩, ⟨(some 9), (some (7, true)), .fld 0 (.tmp 2)⟩, ⟨(some 10), (some (7, true)), .load 1 false (.tmp 9)⟩, ⟨(some 11), (some (7, true)), .bin .lss 3 (.tmp 8) (.tmp 10)⟩, ⟨(some 12), none, .pick (.tmp 7) (.tmp 11) (.const (.bool false))⟩, ⟨(some 4), none, .mv (.tmp 12)⟩])
 .ret))
theorem fn_waymarkref1_Node : FnOk Try.prog 47 Try.f47 sc_waymarkref1_Node [.tmp 4] 2 := ⟨Try.func47, by kernel_rfl, by kernel_rfl, by kernel_rfl, by kernel_rfl, by kernel_rfl, by kernel_rfl⟩

/- 49 waymark/waymarkref1.IsDown: slots 0 down, 1 i, 2 down, 3 i -/
def sc_waymarkref1_IsDown : SCode :=
 (.seq (.reg [0, 1] [⟨(some 4), none, .mv (.const (.bool false))⟩])
 (.seq (.reg [0, 1] [⟨(some 5), none, .mv (.tmp 1)⟩, ⟨(some 6), none, .bin .geq 3 (.tmp 5) (.const (.int .i64 0))⟩, ⟨(some 7), none, .mv (.tmp 6)⟩, ⟨(some 8), (some (7, true)), .mv (.tmp 1)⟩, ⟨(some 9), (some (7, true)), .mv (.tmp 0)⟩, ⟨(some 10), (some (7, true)), .len false (.tmp 9)⟩, ⟨(some 11), (some (7, true)), .bin .lss 3 (.tmp 8) (.tmp 10)⟩, ⟨(some 12), none, .pick (.tmp 7) (.tmp 11) (.const (.bool false))⟩, ⟨(some 13), none, .mv (.tmp 12)⟩, ⟨(some 14), (some (13, true)), .mv (.tmp 0)⟩, ⟨(some 15), (some (13, true)), .mv (.tmp 1)⟩, ⟨(some 16), (some (13, true)), .ia none 1 (.tmp 14) (.tmp 15)⟩, ⟨(some 17), (some (13, true)), .load 1 false (.tmp 16)⟩, ⟨(some 18), none, .pick (.tmp 13) (.tmp 17) (.const (.bool false))⟩, ⟨(some 4), none, .mv (.tmp 18)⟩])
 .ret))
theorem fn_waymarkref1_IsDown : FnOk Try.prog 49 Try.f49 sc_waymarkref1_IsDown [.tmp 4] 2 := ⟨Try.func49, by kernel_rfl, by kernel_rfl, by kernel_rfl, by kernel_rfl, by kernel_rfl, by kernel_rfl⟩

/- loop of waymark/waymarkref1.has, wants [0, 1, 5] [] -/
def sc_waymarkref1_has_L0 : SCode :=
 (.seq (.seq (.reg [0, 1, 5] [⟨(some 6), none, .mv (.tmp 5)⟩, ⟨(some 7), none, .mv (.tmp 0)⟩, ⟨(some 8), none, .len false (.tmp 7)⟩, ⟨(some 9), none, .bin .lss 3 (.tmp 6) (.tmp 8)⟩])
 (.cond (.tmp 9) .skip (.exit 0)))
 (.seq (.block 1 (.seq (.reg [0, 1, 5] [⟨(some 12), none, .mv (.tmp 0)⟩, ⟨(some 13), none, .mv (.tmp 5)⟩, ⟨(some 14), none, .ia none 1 (.tmp 12) (.tmp 13)⟩, ⟨(some 15), none, .load 1 false (.tmp 14)⟩, ⟨(some 16), none, .mv (.tmp 1)⟩, ⟨(some 17), none, .bin .eql 3 (.tmp 15) (.tmp 16)⟩])
 (.cond (.tmp 17) (.seq (.reg [] [⟨(some 4), none, .mv (.const (.bool true))⟩])
 .ret) .skip)))
 (.reg [0, 1, 5] [⟨(some 10), none, .mv (.tmp 5)⟩, ⟨(some 11), none, .bin .add 3 (.tmp 10) (.const (.int .i64 1))⟩, ⟨(some 5), none, .mv (.tmp 11)⟩])))
/- 50 waymark/waymarkref1.has: slots 0 l, 1 n, 2 l, 3 n, 5 i -/
def sc_waymarkref1_has : SCode :=
 (.seq (.reg [0, 1] [⟨(some 4), none, .mv (.const (.bool false))⟩])
 (.seq (.seq (.reg [0, 1] [⟨(some 5), none, .mv (.const (.int .i64 0))⟩])
 (.block 0 (.loop [0, 1, 5] [] sc_waymarkref1_has_L0)))
 (.seq (.reg [] [⟨(some 4), none, .mv (.const (.bool false))⟩])
 .ret)))
theorem fn_waymarkref1_has : FnOk Try.prog 50 Try.f50 sc_waymarkref1_has [.tmp 4] 2 := ⟨Try.func50, by kernel_rfl, by kernel_rfl, by kernel_rfl, by kernel_rfl, by kernel_rfl, by kernel_rfl⟩

/- loop of waymark/waymarkref1.SameInts, wants [0, 1, 5] [] -/
def sc_waymarkref1_SameInts_L0 : SCode :=
 (.seq (.seq (.reg [0, 1, 5] [⟨(some 11), none, .mv (.tmp 5)⟩, ⟨(some 12), none, .mv (.tmp 0)⟩, ⟨(some 13), none, .len false (.tmp 12)⟩, ⟨(some 14), none, .bin .lss 3 (.tmp 11) (.tmp 13)⟩])
 (.cond (.tmp 14) .skip (.exit 0)))
 (.seq (.block 1 (.seq (.draw [0, 1, 5] [⟨(some 17), none, .mv (.tmp 0)⟩, ⟨(some 18), none, .mv (.tmp 5)⟩, ⟨(some 19), none, .ia none 1 (.tmp 17) (.tmp 18)⟩, ⟨(some 20), none, .load 1 false (.tmp 19)⟩, ⟨(some 21), none, .mv (.tmp 1)⟩, ⟨(some 22), none, .mv (.tmp 5)⟩, ⟨(some 23), none, .ia none 1 (.tmp 21) (.tmp 22)⟩, ⟨(some 24), none, .load 1 false (.tmp 23)⟩, ⟨(some 25), none, .bin .neq 3 (.tmp 20) (.tmp 24)⟩])
 (.cond (.tmp 25) (.seq (.reg [] [⟨(some 4), none, .mv (.const (.bool false))⟩])
 .ret) .skip)))
 (.reg [0, 1, 5] [⟨(some 15), none, .mv (.tmp 5)⟩, ⟨(some 16), none, .bin .add 3 (.tmp 15) (.const (.int .i64 1))⟩, ⟨(some 5), none, .mv (.tmp 16)⟩])))
/- 67 waymark/waymarkref1.SameInts: slots 0 a, 1 b, 2 a, 3 b, 5 i -/
def sc_waymarkref1_SameInts : SCode :=
 (.seq (.reg [0, 1] [⟨(some 4), none, .mv (.const (.bool false))⟩])
 (.seq (.seq (.reg [0, 1] [⟨(some 6), none, .mv (.tmp 0)⟩, ⟨(some 7), none, .len false (.tmp 6)⟩, ⟨(some 8), none, .mv (.tmp 1)⟩, ⟨(some 9), none, .len false (.tmp 8)⟩, ⟨(some 10), none, .bin .neq 3 (.tmp 7) (.tmp 9)⟩])
 (.cond (.tmp 10) (.seq (.reg [] [⟨(some 4), none, .mv (.const (.bool false))⟩])
 .ret) .skip))
 (.seq (.seq (.reg [0, 1] [⟨(some 5), none, .mv (.const (.int .i64 0))⟩])
 (.block 0 (.loop [0, 1, 5] [] sc_waymarkref1_SameInts_L0)))
 (.seq (.reg [] [⟨(some 4), none, .mv (.const (.bool true))⟩])
 .ret))))
theorem fn_waymarkref1_SameInts : FnOk Try.prog 67 Try.f67 sc_waymarkref1_SameInts [.tmp 4] 2 := ⟨Try.func67, by kernel_rfl, by kernel_rfl, by kernel_rfl, by kernel_rfl, by kernel_rfl, by kernel_rfl⟩

/- 68 waymark/waymarkref1.Cut: slots 0 n, 1 low, 2 high, 3 n, 4 low, 5 high -/
def sc_waymarkref1_Cut : SCode :=
 (.seq (.reg [0, 1, 2] [⟨(some 6), none, .mv (.const (.int .i64 0))⟩])
 (.seq (.block 0 (.seq (.reg [0, 1, 2] [⟨(some 8), none, .mv (.tmp 0)⟩, ⟨(some 9), none, .mv (.tmp 1)⟩, ⟨(some 10), none, .bin .lss 3 (.tmp 8) (.tmp 9)⟩, ⟨(some 7), none, .mv (.tmp 10)⟩])
 (.cond (.tmp 7) (.seq (.reg [1] [⟨(some 11), none, .mv (.tmp 1)⟩, ⟨(some 6), none, .mv (.tmp 11)⟩])
 .ret) (.seq (.reg [0, 2] [⟨(some 13), none, .mv (.tmp 0)⟩, ⟨(some 14), none, .mv (.tmp 2)⟩, ⟨(some 15), none, .bin .gtr 3 (.tmp 13) (.tmp 14)⟩, ⟨(some 12), none, .mv (.tmp 15)⟩])
 (.cond (.tmp 12) (.seq (.reg [2] [⟨(some 16), none, .mv (.tmp 2)⟩, ⟨(some 6), none, .mv (.tmp 16)⟩])
 .ret) .skip)))))
 (.seq (.reg [0] [⟨(some 17), none, .mv (.tmp 0)⟩, ⟨(some 6), none, .mv (.tmp 17)⟩])
 .ret)))
theorem fn_waymarkref1_Cut : FnOk Try.prog 68 Try.f68 sc_waymarkref1_Cut [.tmp 6] 3 := ⟨Try.func68, by kernel_rfl, by kernel_rfl, by kernel_rfl, by kernel_rfl, by kernel_rfl, by kernel_rfl⟩

/- loop of waymark/waymarkref1.Next, wants [1, 2, 3, 4, 11, 12, 13] [(11, 106, 3, 1)] -/
def sc_waymarkref1_Next_L0 : SCode :=
 (.seq (.seq (.reg [1, 2, 3, 4, 11, 12, 13] [⟨(some 47), none, .mv (.tmp 13)⟩, ⟨(some 48), none, .mv (.tmp 12)⟩, ⟨(some 49), none, .len false (.tmp 48)⟩, ⟨(some 50), none, .bin .lss 3 (.tmp 47) (.tmp 49)⟩])
 (.cond (.tmp 50) .skip (.exit 0)))
 (.seq (.block 1 (.seq (.draw [1, 2, 3, 4, 11, 12, 13] [⟨(some 54), none, .load 2 true (.tmp 4)⟩, ⟨(some 55), none, .mv (.tmp 12)⟩, ⟨(some 56), none, .mv (.tmp 13)⟩, ⟨(some 57), none, .ia none 1 (.tmp 55) (.tmp 56)⟩, ⟨(some 58), none, .load 1 false (.tmp 57)⟩, ⟨(some 59), none, .call 24 [(.tmp 54), (.tmp 58)]⟩, ⟨(some 53), none, .mv (.tmp 59)⟩, ⟨(some 60), none, .ext (.tmp 53) 0⟩, ⟨(some 61), none, .ext (.tmp 53) 1⟩, ⟨(some 62), none, .ext (.tmp 53) 2⟩, ⟨(some 14), none, .mv (.tmp 60)⟩, ⟨(some 15), none, .mv (.tmp 61)⟩, ⟨(some 16), none, .mv (.tmp 62)⟩])
 (.seq (.draw [1, 2, 3, 4, 11, 12, 13, 15] [⟨(some 63), none, .mv (.tmp 1)⟩, ⟨(some 64), none, .mv (.tmp 12)⟩, ⟨(some 65), none, .mv (.tmp 13)⟩, ⟨(some 66), none, .ia none 1 (.tmp 64) (.tmp 65)⟩, ⟨(some 67), none, .load 1 false (.tmp 66)⟩, ⟨(some 68), none, .bin .quo 3 (.tmp 67) (.const (.int .i64 2))⟩, ⟨(some 69), none, .call 49 [(.tmp 63), (.tmp 68)]⟩, ⟨(some 70), none, .un .not (.tmp 69)⟩, ⟨(some 71), none, .mv (.tmp 70)⟩, ⟨(some 72), (some (71, true)), .mv (.tmp 2)⟩, ⟨(some 73), (some (71, true)), .mv (.tmp 15)⟩, ⟨(some 74), (some (71, true)), .ia none 1 (.tmp 72) (.tmp 73)⟩, ⟨(some 75), (some (71, true)), .load 1 false (.tmp 74)⟩, ⟨(some 76), (some (71, true)), .bin .geq 3 (.tmp 75) (.const (.int .i64 0))⟩, ⟨(some 77), none, .pick (.tmp 71) (.tmp 76) (.const (.bool false))⟩, ⟨(some 78), none, .mv (.tmp 77)⟩, ⟨(some 79), (some (78, true)), .mv (.tmp 2)⟩, ⟨(some 80), (some (78, true)), .mv (.tmp 3)⟩, ⟨(some 81), (some (78, true)), .ia none 1 (.tmp 79) (.tmp 80)⟩, ⟨(some 82), (some (78, true)), .load 1 false (.tmp 81)⟩, ⟨(some 83), (some (78, true)), .mv (.tmp 2)⟩, ⟨(some 84), (some (78, true)), .mv (.tmp 15)⟩, ⟨(some 85), (some (78, true)), .ia none 1 (.tmp 83) (.tmp 84)⟩, ⟨(some 86), (some (78, true)), .load 1 false (.tmp 85)⟩, ⟨(some 87), (some (78, true)), .bin .sub 3 (.tmp 82) (.tmp 86)⟩, ⟨(some 88), (some (78, true)), .fld 1 (.tmp 4)⟩, ⟨(some 89), (some (78, true)), .load 1 false (.tmp 88)⟩, ⟨(some 90), (some (78, true)), .mv (.tmp 12)⟩, ⟨(some 91), (some (78, true)), .mv (.tmp 13)⟩, ⟨(some 92), (some (78, true)), .ia none 1 (.tmp 90) (.tmp 91)⟩, ⟨(some 93), (some (78, true)), .load 1 false (.tmp 92)⟩, ⟨(some 94), (some (78, true)), .bin .quo 3 (.tmp 93) (.const (.int .i64 2))⟩, ⟨(some 95), (some (78, true)), .ia none 4 (.tmp 89) (.tmp 94)⟩, ⟨(some 96), (some (78, true)), .fld 2 (.tmp 95)⟩, ⟨(some 97), (some (78, true)), .load 1 false (.tmp 96)⟩, ⟨(some 98), (some (78, true)), .bin .eql 3 (.tmp 87) (.tmp 97)⟩, ⟨(some 99), none, .pick (.tmp 78) (.tmp 98) (.const (.bool false))⟩])
 (.cond (.tmp 99) (.reg [1, 2, 3, 4, 11, 12, 13] [⟨(some 100), none, .mv (.tmp 11)⟩, ⟨(some 101), none, .mv (.tmp 12)⟩, ⟨(some 102), none, .mv (.tmp 13)⟩, ⟨(some 103), none, .ia none 1 (.tmp 101) (.tmp 102)⟩, ⟨(some 104), none, .load 1 false (.tmp 103)⟩, ⟨(some 105), none, .bsl 3 1 [(.int .i64 0)] 1 [(0, 1, (.tmp 104))]⟩, ⟨(some 106), none, .app 32 3 1 8 (.int .i64 0) (.tmp 100) (.tmp 105)⟩, ⟨(some 11), none, .mv (.tmp 106)⟩]) .skip))))
 (.reg [1, 2, 3, 4, 11, 12, 13] [⟨(some 51), none, .mv (.tmp 13)⟩, ⟨(some 52), none, .bin .add 3 (.tmp 51) (.const (.int .i64 1))⟩, ⟨(some 13), none, .mv (.tmp 52)⟩])))
/- 75 waymark/waymarkref1.Next: slots 0 g, 1 down, 2 to, 3 node, 4 g, 5 down, 6 to, 7 node, 9 _, 10 e, 11 out, 12 l, 13 i, 14 _, 15 b, 16 _ -/
def sc_waymarkref1_Next : SCode :=
 (.seq (.reg [0, 1, 2, 3] [⟨(some 4), none, .box 44 (.tmp 0)⟩, ⟨(some 8), none, .mv (.const (.slice none 0 0))⟩])
 (.seq (.reg [1, 2, 3, 4] [⟨(some 18), none, .load 2 true (.tmp 4)⟩, ⟨(some 19), none, .call 27 [(.tmp 18)]⟩, ⟨(some 17), none, .mv (.tmp 19)⟩, ⟨(some 20), none, .ext (.tmp 17) 0⟩, ⟨(some 21), none, .ext (.tmp 17) 1⟩, ⟨(some 9), none, .mv (.tmp 20)⟩, ⟨(some 10), none, .mv (.tmp 21)⟩])
 (.seq (.seq (.reg [1, 2, 3, 4, 10] [⟨(some 22), none, .mv (.tmp 10)⟩, ⟨(some 23), none, .bin .neq 3 (.tmp 22) (.const (.int .i64 0))⟩, ⟨(some 24), none, .mv (.tmp 23)⟩, ⟨(some 25), (some (24, false)), .mv (.tmp 2)⟩, ⟨(some 26), (some (24, false)), .len false (.tmp 25)⟩, ⟨(some 27), (some (24, false)), .fld 0 (.tmp 4)⟩, ⟨(some 28), (some (24, false)), .load 1 false (.tmp 27)⟩, ⟨(some 29), (some (24, false)), .bin .neq 3 (.tmp 26) (.tmp 28)⟩, ⟨(some 30), none, .pick (.tmp 24) (.const (.bool true)) (.tmp 29)⟩, ⟨(some 31), none, .mv (.tmp 30)⟩, ⟨(some 32), (some (31, false)), .load 2 true (.tmp 4)⟩, ⟨(some 33), (some (31, false)), .mv (.tmp 3)⟩, ⟨(some 34), (some (31, false)), .call 47 [(.tmp 32), (.tmp 33)]⟩, ⟨(some 35), (some (31, false)), .un .not (.tmp 34)⟩, ⟨(some 36), none, .pick (.tmp 31) (.const (.bool true)) (.tmp 35)⟩, ⟨(some 37), none, .mv (.tmp 36)⟩, ⟨(some 38), (some (37, false)), .mv (.tmp 2)⟩, ⟨(some 39), (some (37, false)), .mv (.tmp 3)⟩, ⟨(some 40), (some (37, false)), .ia none 1 (.tmp 38) (.tmp 39)⟩, ⟨(some 41), (some (37, false)), .load 1 false (.tmp 40)⟩, ⟨(some 42), (some (37, false)), .bin .leq 3 (.tmp 41) (.const (.int .i64 0))⟩, ⟨(some 43), none, .pick (.tmp 37) (.const (.bool true)) (.tmp 42)⟩])
 (.cond (.tmp 43) (.seq (.reg [] [⟨(some 8), none, .mv (.const (.slice none 0 0))⟩])
 .ret) .skip))
 (.seq (.reg [1, 2, 3, 4] [⟨(some 11), none, .mv (.const (.slice none 0 0))⟩])
 (.seq (.reg [1, 2, 3, 4, 11] [⟨(some 44), none, .load 2 true (.tmp 4)⟩, ⟨(some 45), none, .mv (.tmp 3)⟩, ⟨(some 46), none, .call 93 [(.tmp 44), (.tmp 45)]⟩, ⟨(some 12), none, .mv (.tmp 46)⟩])
 (.seq (.seq (.reg [1, 2, 3, 4, 11, 12] [⟨(some 13), none, .mv (.const (.int .i64 0))⟩])
 (.block 0 (.loop [1, 2, 3, 4, 11, 12, 13] [(11, 106, 3, 1)] sc_waymarkref1_Next_L0)))
 (.seq (.reg [11] [⟨(some 107), none, .mv (.tmp 11)⟩, ⟨(some 8), none, .mv (.tmp 107)⟩])
 .ret)))))))
theorem fn_waymarkref1_Next : FnOk Try.prog 75 Try.f75 sc_waymarkref1_Next [.tmp 8] 4 := ⟨Try.func75, by kernel_rfl, by kernel_rfl, by kernel_rfl, by kernel_rfl, by kernel_rfl, by kernel_rfl⟩

/- loop of waymark/waymarkref1.Out, wants [1, 2, 5, 6] [(5, 31, 3, 1)] -/
def sc_waymarkref1_Out_L0 : SCode :=
 (.seq (.seq (.reg [1, 2, 5, 6] [⟨(some 10), none, .mv (.tmp 6)⟩, ⟨(some 11), none, .fld 1 (.tmp 2)⟩, ⟨(some 12), none, .load 1 false (.tmp 11)⟩, ⟨(some 13), none, .len false (.tmp 12)⟩, ⟨(some 14), none, .bin .mul 3 (.const (.int .i64 2)) (.tmp 13)⟩, ⟨(some 15), none, .bin .lss 3 (.tmp 10) (.tmp 14)⟩])
 (.cond (.tmp 15) .skip (.exit 0)))
 (.seq (.block 1 (.seq (.reg [1, 2, 5, 6] [⟨(some 19), none, .load 2 true (.tmp 2)⟩, ⟨(some 20), none, .mv (.tmp 6)⟩, ⟨(some 21), none, .call 24 [(.tmp 19), (.tmp 20)]⟩, ⟨(some 18), none, .mv (.tmp 21)⟩, ⟨(some 22), none, .ext (.tmp 18) 0⟩, ⟨(some 23), none, .ext (.tmp 18) 1⟩, ⟨(some 24), none, .ext (.tmp 18) 2⟩, ⟨(some 7), none, .mv (.tmp 22)⟩, ⟨(some 8), none, .mv (.tmp 23)⟩, ⟨(some 9), none, .mv (.tmp 24)⟩])
 (.seq (.reg [1, 2, 5, 6, 7] [⟨(some 25), none, .mv (.tmp 7)⟩, ⟨(some 26), none, .mv (.tmp 1)⟩, ⟨(some 27), none, .bin .eql 3 (.tmp 25) (.tmp 26)⟩])
 (.cond (.tmp 27) (.reg [1, 2, 5, 6] [⟨(some 28), none, .mv (.tmp 5)⟩, ⟨(some 29), none, .mv (.tmp 6)⟩, ⟨(some 30), none, .bsl 3 1 [(.int .i64 0)] 1 [(0, 1, (.tmp 29))]⟩, ⟨(some 31), none, .app 32 3 1 8 (.int .i64 0) (.tmp 28) (.tmp 30)⟩, ⟨(some 5), none, .mv (.tmp 31)⟩]) .skip))))
 (.reg [1, 2, 5, 6] [⟨(some 16), none, .mv (.tmp 6)⟩, ⟨(some 17), none, .bin .add 3 (.tmp 16) (.const (.int .i64 1))⟩, ⟨(some 6), none, .mv (.tmp 17)⟩])))
/- 93 waymark/waymarkref1.Out: slots 0 g, 1 node, 2 g, 3 node, 5 out, 6 e, 7 a, 8 _, 9 _ -/
def sc_waymarkref1_Out : SCode :=
 (.seq (.reg [0, 1] [⟨(some 2), none, .box 44 (.tmp 0)⟩, ⟨(some 4), none, .mv (.const (.slice none 0 0))⟩])
 (.seq (.reg [1, 2] [⟨(some 5), none, .mv (.const (.slice none 0 0))⟩])
 (.seq (.seq (.reg [1, 2, 5] [⟨(some 6), none, .mv (.const (.int .i64 0))⟩])
 (.block 0 (.loop [1, 2, 5, 6] [(5, 31, 3, 1)] sc_waymarkref1_Out_L0)))
 (.seq (.reg [5] [⟨(some 32), none, .mv (.tmp 5)⟩, ⟨(some 4), none, .mv (.tmp 32)⟩])
 .ret))))
theorem fn_waymarkref1_Out : FnOk Try.prog 93 Try.f93 sc_waymarkref1_Out [.tmp 4] 2 := ⟨Try.func93, by kernel_rfl, by kernel_rfl, by kernel_rfl, by kernel_rfl, by kernel_rfl, by kernel_rfl⟩

end Go.Proofs.Ytgahnhiidhkjaaa
end

section
namespace Go.Proofs.Ytgahnhiidhkjaaa
open Go Abs

/- loop of waymark/waymarkref11.First, wants [5, 6, 8, 9] [] -/
def sc_waymarkref11_First_L0 : SCode :=
 (.seq (.seq (.reg [5, 6, 8, 9] [⟨(some 13), none, .mv (.tmp 9)⟩, ⟨(some 14), none, .mv (.tmp 8)⟩, ⟨(some 15), none, .len false (.tmp 14)⟩, ⟨(some 16), none, .bin .lss 3 (.tmp 13) (.tmp 15)⟩])
 (.cond (.tmp 16) .skip (.exit 0)))
 (.seq (.block 1 (.seq (.draw [5, 6, 8, 9] [⟨(some 19), none, .mv (.tmp 8)⟩, ⟨(some 20), none, .mv (.tmp 9)⟩, ⟨(some 21), none, .ia none 17 (.tmp 19) (.tmp 20)⟩, ⟨(some 22), none, .fld 2 (.tmp 21)⟩, ⟨(some 23), none, .load 7 true (.tmp 22)⟩, ⟨(some 24), none, .load 5 true (.tmp 5)⟩, ⟨(some 25), none, .call 17 [(.tmp 23), (.tmp 24)]⟩])
 (.cond (.tmp 25) (.seq (.reg [6, 8, 9] [⟨(some 26), none, .mv (.tmp 8)⟩, ⟨(some 27), none, .mv (.tmp 9)⟩, ⟨(some 28), none, .ia none 17 (.tmp 26) (.tmp 27)⟩, ⟨(some 29), none, .load 17 true (.tmp 28)⟩, ⟨none, none, .store 17 (.tmp 6) (.tmp 29)⟩, ⟨(some 7), none, .mv (.const (.bool true))⟩])
 .ret) .skip)))
 (.reg [5, 6, 8, 9] [⟨(some 17), none, .mv (.tmp 9)⟩, ⟨(some 18), none, .bin .add 3 (.tmp 17) (.const (.int .i64 1))⟩, ⟨(some 9), none, .mv (.tmp 18)⟩])))
/- 15 waymark/waymarkref11.First: slots 0 l, 1 node, 2 t, 3 l, 4 node, 5 t, 8 x, 9 i -/
def sc_waymarkref11_First : SCode :=
 (.seq (.reg [0, 1, 2] [⟨(some 5), none, .box 25 (.tmp 2)⟩, ⟨(some 6), none, .alloc 36 [(.string ⟨#[]⟩), (.int .i64 0), (.int .u32 0), (.int .i64 0), (.int .u32 0), (.int .i64 0), (.int .i64 0), (.int .i64 0), (.int .i64 0), (.int .i64 0), (.int .i64 0), (.int .i64 0), (.slice none 0 0), (.slice none 0 0), (.slice none 0 0), (.slice none 0 0), (.bool false)]⟩, ⟨(some 7), none, .mv (.const (.bool false))⟩])
 (.seq (.reg [0, 1, 5, 6] [⟨(some 10), none, .mv (.tmp 0)⟩, ⟨(some 11), none, .mv (.tmp 1)⟩, ⟨(some 12), none, .call 43 [(.tmp 10), (.tmp 11)]⟩, ⟨(some 8), none, .mv (.tmp 12)⟩])
 (.seq (.seq (.reg [5, 6, 8] [⟨(some 9), none, .mv (.const (.int .i64 0))⟩])
 (.block 0 (.loop [5, 6, 8, 9] [] sc_waymarkref11_First_L0)))
 (.seq (.reg [6] [⟨(some 30), none, .build [(.string ⟨#[]⟩), (.int .i64 0), (.int .u32 0), (.int .i64 0), (.int .u32 0), (.int .i64 0), (.int .i64 0), (.int .i64 0), (.int .i64 0), (.int .i64 0), (.int .i64 0), (.int .i64 0), (.slice none 0 0), (.slice none 0 0), (.slice none 0 0), (.slice none 0 0), (.bool false)] []⟩, ⟨none, none, .store 17 (.tmp 6) (.tmp 30)⟩, ⟨(some 7), none, .mv (.const (.bool false))⟩])
 .ret))))
theorem fn_waymarkref11_First : FnOk Try.prog 15 Try.f15 sc_waymarkref11_First [.cell 6 17 true, .tmp 7] 3 := ⟨Try.func15, by kernel_rfl, by kernel_rfl, by kernel_rfl, by kernel_rfl, by kernel_rfl, by kernel_rfl⟩

/- 16 waymark/waymarkref11.SameRule: slots 0 a, 1 b, 2 a, 3 b -/
def sc_waymarkref11_SameRule : SCode :=
 (.seq (.reg [0, 1] [⟨(some 2), none, .box 36 (.tmp 0)⟩, ⟨(some 3), none, .box 36 (.tmp 1)⟩, ⟨(some 4), none, .mv (.const (.bool false))⟩])
 (.seq (.reg [2, 3] [⟨(some 5), none, .fld 0 (.tmp 2)⟩, ⟨(some 6), none, .load 1 false (.tmp 5)⟩, ⟨(some 7), none, .fld 0 (.tmp 3)⟩, ⟨(some 8), none, .load 1 false (.tmp 7)⟩, ⟨(some 9), none, .bin .eql 9 (.tmp 6) (.tmp 8)⟩, ⟨(some 10), none, .mv (.tmp 9)⟩, ⟨(some 11), (some (10, true)), .fld 1 (.tmp 2)⟩, ⟨(some 12), (some (10, true)), .load 1 false (.tmp 11)⟩, ⟨(some 13), (some (10, true)), .fld 1 (.tmp 3)⟩, ⟨(some 14), (some (10, true)), .load 1 false (.tmp 13)⟩, ⟨(some 15), (some (10, true)), .bin .eql 3 (.tmp 12) (.tmp 14)⟩, ⟨(some 16), none, .pick (.tmp 10) (.tmp 15) (.const (.bool false))⟩, ⟨(some 17), none, .mv (.tmp 16)⟩, ⟨(some 18), (some (17, true)), .fld 2 (.tmp 2)⟩, ⟨(some 19), (some (17, true)), .load 7 true (.tmp 18)⟩, ⟨(some 20), (some (17, true)), .fld 2 (.tmp 3)⟩, ⟨(some 21), (some (17, true)), .load 7 true (.tmp 20)⟩, ⟨(some 22), (some (17, true)), .eqs false [(0, .i), (1, .i), (2, .i), (3, .i), (4, .i), (5, .i), (6, .i)] (.tmp 19) (.tmp 21)⟩, ⟨(some 23), none, .pick (.tmp 17) (.tmp 22) (.const (.bool false))⟩, ⟨(some 24), none, .mv (.tmp 23)⟩, ⟨(some 25), (some (24, true)), .fld 9 (.tmp 2)⟩, ⟨(some 26), (some (24, true)), .load 7 true (.tmp 25)⟩, ⟨(some 27), (some (24, true)), .fld 9 (.tmp 3)⟩, ⟨(some 28), (some (24, true)), .load 7 true (.tmp 27)⟩, ⟨(some 29), (some (24, true)), .call 45 [(.tmp 26), (.tmp 28)]⟩, ⟨(some 30), none, .pick (.tmp 24) (.tmp 29) (.const (.bool false))⟩, ⟨(some 31), none, .mv (.tmp 30)⟩, ⟨(some 32), (some (31, true)), .fld 16 (.tmp 2)⟩, ⟨(some 33), (some (31, true)), .load 1 false (.tmp 32)⟩, ⟨(some 34), (some (31, true)), .fld 16 (.tmp 3)⟩, ⟨(some 35), (some (31, true)), .load 1 false (.tmp 34)⟩, ⟨(some 36), (some (31, true)), .beq false (.tmp 33) (.tmp 35)⟩, ⟨(some 37), none, .pick (.tmp 31) (.tmp 36) (.const (.bool false))⟩, ⟨(some 4), none, .mv (.tmp 37)⟩])
 .ret))
theorem fn_waymarkref11_SameRule : FnOk Try.prog 16 Try.f16 sc_waymarkref11_SameRule [.tmp 4] 2 := ⟨Try.func16, by kernel_rfl, by kernel_rfl, by kernel_rfl, by kernel_rfl, by kernel_rfl, by kernel_rfl⟩

/- 17 waymark/waymarkref11.Matches: slots 0 m, 1 t, 2 m, 3 t -/
def sc_waymarkref11_Matches : SCode :=
 (.seq (.reg [0, 1] [⟨(some 2), none, .box 31 (.tmp 0)⟩, ⟨(some 3), none, .box 25 (.tmp 1)⟩, ⟨(some 4), none, .mv (.const (.bool false))⟩])
 (.seq (.reg [2, 3] [⟨(some 5), none, .fld 0 (.tmp 2)⟩, ⟨(some 6), none, .load 2 true (.tmp 5)⟩, ⟨(some 7), none, .fld 0 (.tmp 3)⟩, ⟨(some 8), none, .load 1 false (.tmp 7)⟩, ⟨(some 9), none, .call 46 [(.tmp 6), (.tmp 8)]⟩, ⟨(some 10), none, .mv (.tmp 9)⟩, ⟨(some 11), (some (10, true)), .fld 2 (.tmp 2)⟩, ⟨(some 12), (some (10, true)), .load 2 true (.tmp 11)⟩, ⟨(some 13), (some (10, true)), .fld 1 (.tmp 3)⟩, ⟨(some 14), (some (10, true)), .load 1 false (.tmp 13)⟩, ⟨(some 15), (some (10, true)), .call 46 [(.tmp 12), (.tmp 14)]⟩, ⟨(some 16), none, .pick (.tmp 10) (.tmp 15) (.const (.bool false))⟩, ⟨(some 17), none, .mv (.tmp 16)⟩, ⟨(some 18), (some (17, true)), .fld 4 (.tmp 2)⟩, ⟨(some 19), (some (17, true)), .load 1 false (.tmp 18)⟩, ⟨(some 20), (some (17, true)), .bin .eql 3 (.tmp 19) (.const (.int .i64 0))⟩, ⟨(some 21), (some (17, true)), .mv (.tmp 20)⟩, ⟨(some 22), (some (21, false)), .fld 4 (.tmp 2)⟩, ⟨(some 23), (some (21, false)), .load 1 false (.tmp 22)⟩, ⟨(some 24), (some (21, false)), .fld 2 (.tmp 3)⟩, ⟨(some 25), (some (21, false)), .load 1 false (.tmp 24)⟩, ⟨(some 26), (some (21, false)), .bin .eql 3 (.tmp 23) (.tmp 25)⟩, ⟨(some 27), (some (17, true)), .pick (.tmp 21) (.const (.bool true)) (.tmp 26)⟩, ⟨(some 28), none, .pick (.tmp 17) (.tmp 27) (.const (.bool false))⟩, ⟨(some 29), none, .mv (.tmp 28)⟩, ⟨(some 30), (some (29, true)), .fld 5 (.tmp 2)⟩, ⟨(some 31), (some (29, true)), .load 1 false (.tmp 30)⟩, ⟨(some 32), (some (29, true)), .bin .eql 3 (.tmp 31) (.const (.int .i64 0))⟩, ⟨(some 33), (some (29, true)), .mv (.tmp 32)⟩, ⟨(some 34), (some (33, false)), .fld 5 (.tmp 2)⟩, ⟨(some 35), (some (33, false)), .load 1 false (.tmp 34)⟩, ⟨(some 36), (some (33, false)), .fld 3 (.tmp 3)⟩, ⟨(some 37), (some (33, false)), .load 1 false (.tmp 36)⟩, ⟨(some 38), (some (33, false)), .bin .eql 3 (.tmp 35) (.tmp 37)⟩, ⟨(some 39), (some (29, true)), .pick (.tmp 33) (.const (.bool true)) (.tmp 38)⟩, ⟨(some 40), none, .pick (.tmp 29) (.tmp 39) (.const (.bool false))⟩, ⟨(some 41), none, .mv (.tmp 40)⟩, ⟨(some 42), (some (41, true)), .fld 6 (.tmp 2)⟩, ⟨(some 43), (some (41, true)), .load 1 false (.tmp 42)⟩, ⟨(some 44), (some (41, true)), .bin .eql 3 (.tmp 43) (.const (.int .i64 0))⟩, ⟨(some 45), (some (41, true)), .mv (.tmp 44)⟩, ⟨(some 46), (some (45, false)), .fld 6 (.tmp 2)⟩, ⟨(some 47), (some (45, false)), .load 1 false (.tmp 46)⟩, ⟨(some 48), (some (45, false)), .fld 4 (.tmp 3)⟩, ⟨(some 49), (some (45, false)), .load 1 false (.tmp 48)⟩, ⟨(some 50), (some (45, false)), .bin .eql 3 (.tmp 47) (.tmp 49)⟩, ⟨(some 51), (some (41, true)), .pick (.tmp 45) (.const (.bool true)) (.tmp 50)⟩, ⟨(some 52), none, .pick (.tmp 41) (.tmp 51) (.const (.bool false))⟩, ⟨(some 4), none, .mv (.tmp 52)⟩])
 .ret))
theorem fn_waymarkref11_Matches : FnOk Try.prog 17 Try.f17 sc_waymarkref11_Matches [.tmp 4] 2 := ⟨Try.func17, by kernel_rfl, by kernel_rfl, by kernel_rfl, by kernel_rfl, by kernel_rfl, by kernel_rfl⟩

/- loop of waymark/waymarkref11.CheckRules, wants [1, 2, 8, 9, 10, 11] [] -/
def sc_waymarkref11_CheckRules_L0 : SCode :=
 (.seq (.seq (.reg [1, 2, 8, 9, 10, 11] [⟨(some 32), none, .mv (.tmp 11)⟩, ⟨(some 33), none, .mv (.tmp 8)⟩, ⟨(some 34), none, .bin .lss 3 (.tmp 32) (.tmp 33)⟩])
 (.cond (.tmp 34) .skip (.exit 2)))
 (.seq (.block 3 (.draw [1, 2, 8, 9, 10, 11] [⟨(some 37), none, .mv (.tmp 10)⟩, ⟨(some 38), none, .mv (.tmp 37)⟩, ⟨(some 39), (some (38, false)), .mv (.tmp 1)⟩, ⟨(some 40), (some (38, false)), .mv (.tmp 11)⟩, ⟨(some 41), (some (38, false)), .ia none 17 (.tmp 39) (.tmp 40)⟩, ⟨(some 42), (some (38, false)), .fld 0 (.tmp 41)⟩, ⟨(some 43), (some (38, false)), .load 1 false (.tmp 42)⟩, ⟨(some 44), (some (38, false)), .fld 0 (.tmp 9)⟩, ⟨(some 45), (some (38, false)), .load 1 false (.tmp 44)⟩, ⟨(some 46), (some (38, false)), .bin .eql 9 (.tmp 43) (.tmp 45)⟩, ⟨(some 47), none, .pick (.tmp 38) (.const (.bool true)) (.tmp 46)⟩, ⟨(some 10), none, .mv (.tmp 47)⟩]))
 (.reg [1, 2, 8, 9, 10, 11] [⟨(some 35), none, .mv (.tmp 11)⟩, ⟨(some 36), none, .bin .add 3 (.tmp 35) (.const (.int .i64 1))⟩, ⟨(some 11), none, .mv (.tmp 36)⟩])))
/- loop of waymark/waymarkref11.CheckRules, wants [1, 2, 8] [] -/
def sc_waymarkref11_CheckRules_L1 : SCode :=
 (.seq (.seq (.reg [1, 2, 8] [⟨(some 22), none, .mv (.tmp 8)⟩, ⟨(some 23), none, .mv (.tmp 1)⟩, ⟨(some 24), none, .len false (.tmp 23)⟩, ⟨(some 25), none, .bin .lss 3 (.tmp 22) (.tmp 24)⟩])
 (.cond (.tmp 25) .skip (.exit 0)))
 (.seq (.block 1 (.seq (.reg [1, 2, 8] [⟨(some 28), none, .mv (.tmp 1)⟩, ⟨(some 29), none, .mv (.tmp 8)⟩, ⟨(some 30), none, .ia none 17 (.tmp 28) (.tmp 29)⟩, ⟨(some 31), none, .load 17 true (.tmp 30)⟩, ⟨(some 9), none, .alloc 36 [(.string ⟨#[]⟩), (.int .i64 0), (.int .u32 0), (.int .i64 0), (.int .u32 0), (.int .i64 0), (.int .i64 0), (.int .i64 0), (.int .i64 0), (.int .i64 0), (.int .i64 0), (.int .i64 0), (.slice none 0 0), (.slice none 0 0), (.slice none 0 0), (.slice none 0 0), (.bool false)]⟩, ⟨none, none, .store 17 (.tmp 9) (.tmp 31)⟩])
 (.seq (.reg [1, 2, 8, 9] [⟨(some 10), none, .mv (.const (.bool false))⟩])
 (.seq (.seq (.reg [1, 2, 8, 9, 10] [⟨(some 11), none, .mv (.const (.int .i64 0))⟩])
 (.block 2 (.loop [1, 2, 8, 9, 10, 11] [] sc_waymarkref11_CheckRules_L0)))
 (.seq (.seq (.reg [1, 2, 8, 9, 10] [⟨(some 48), none, .mv (.tmp 10)⟩, ⟨(some 49), none, .mv (.tmp 48)⟩, ⟨(some 50), (some (49, false)), .fld 0 (.tmp 9)⟩, ⟨(some 51), (some (49, false)), .load 1 false (.tmp 50)⟩, ⟨(some 52), (some (49, false)), .call 60 [(.tmp 51)]⟩, ⟨(some 53), (some (49, false)), .un .not (.tmp 52)⟩, ⟨(some 54), none, .pick (.tmp 49) (.const (.bool true)) (.tmp 53)⟩])
 (.cond (.tmp 54) (.seq (.reg [8] [⟨(some 55), none, .mv (.tmp 8)⟩, ⟨(some 4), none, .mv (.tmp 55)⟩, ⟨(some 5), none, .mv (.const (.int .i64 3))⟩])
 .ret) .skip))
 (.seq (.reg [1, 2, 8, 9] [⟨(some 56), none, .load 2 true (.tmp 2)⟩, ⟨(some 57), none, .fld 9 (.tmp 9)⟩, ⟨(some 58), none, .load 7 true (.tmp 57)⟩, ⟨(some 59), none, .call 21 [(.tmp 56), (.tmp 58)]⟩, ⟨(some 12), none, .mv (.tmp 59)⟩])
 (.seq (.seq (.reg [1, 2, 8, 9, 12] [⟨(some 60), none, .mv (.tmp 12)⟩, ⟨(some 61), none, .bin .neq 3 (.tmp 60) (.const (.int .i64 0))⟩])
 (.cond (.tmp 61) (.seq (.reg [8, 12] [⟨(some 62), none, .mv (.tmp 8)⟩, ⟨(some 63), none, .mv (.tmp 12)⟩, ⟨(some 4), none, .mv (.tmp 62)⟩, ⟨(some 5), none, .mv (.tmp 63)⟩])
 .ret) .skip))
 (.seq (.reg [1, 2, 8, 9] [⟨(some 64), none, .fld 2 (.tmp 9)⟩, ⟨(some 65), none, .load 7 true (.tmp 64)⟩, ⟨(some 13), none, .alloc 31 [(.int .u32 0), (.int .i64 0), (.int .u32 0), (.int .i64 0), (.int .i64 0), (.int .i64 0), (.int .i64 0)]⟩, ⟨none, none, .store 7 (.tmp 13) (.tmp 65)⟩])
 (.seq (.reg [1, 2, 8, 9, 13] [⟨(some 66), none, .fld 1 (.tmp 9)⟩, ⟨(some 67), none, .load 1 false (.tmp 66)⟩, ⟨(some 68), none, .bin .lss 3 (.tmp 67) (.const (.int .i64 0))⟩, ⟨(some 69), none, .mv (.tmp 68)⟩, ⟨(some 70), (some (69, false)), .fld 4 (.tmp 13)⟩, ⟨(some 71), (some (69, false)), .load 1 false (.tmp 70)⟩, ⟨(some 72), (some (69, false)), .bin .lss 3 (.tmp 71) (.const (.int .i64 0))⟩, ⟨(some 73), none, .pick (.tmp 69) (.const (.bool true)) (.tmp 72)⟩, ⟨(some 74), none, .mv (.tmp 73)⟩, ⟨(some 75), (some (74, false)), .fld 4 (.tmp 13)⟩, ⟨(some 76), (some (74, false)), .load 1 false (.tmp 75)⟩, ⟨(some 77), (some (74, false)), .bin .gtr 3 (.tmp 76) (.const (.int .i64 255))⟩, ⟨(some 78), none, .pick (.tmp 74) (.const (.bool true)) (.tmp 77)⟩, ⟨(some 79), none, .mv (.tmp 78)⟩, ⟨(some 80), (some (79, false)), .fld 5 (.tmp 13)⟩, ⟨(some 81), (some (79, false)), .load 1 false (.tmp 80)⟩, ⟨(some 82), (some (79, false)), .bin .lss 3 (.tmp 81) (.const (.int .i64 0))⟩, ⟨(some 83), none, .pick (.tmp 79) (.const (.bool true)) (.tmp 82)⟩, ⟨(some 84), none, .mv (.tmp 83)⟩, ⟨(some 85), (some (84, false)), .fld 5 (.tmp 13)⟩, ⟨(some 86), (some (84, false)), .load 1 false (.tmp 85)⟩, ⟨(some 87), (some (84, false)), .bin .gtr 3 (.tmp 86) (.const (.int .i64 65535))⟩, ⟨(some 88), none, .pick (.tmp 84) (.const (.bool true)) (.tmp 87)⟩, ⟨(some 89), none, .mv (.tmp 88)⟩, ⟨(some 90), (some (89, false)), .fld 6 (.tmp 13)⟩, ⟨(some 91), (some (89, false)), .load 1 false (.tmp 90)⟩, ⟨(some 92), (some (89, false)), .bin .lss 3 (.tmp 91) (.const (.int .i64 0))⟩, ⟨(some 93), none, .pick (.tmp 89) (.const (.bool true)) (.tmp 92)⟩, ⟨(some 94), none, .mv (.tmp 93)⟩, ⟨(some 95), (some (94, false)), .fld 6 (.tmp 13)⟩, ⟨(some 96), (some (94, false)), .load 1 false (.tmp 95)⟩, ⟨(some 97), (some (94, false)), .bin .gtr 3 (.tmp 96) (.const (.int .i64 65535))⟩, ⟨(some 98), none, .pick (.tmp 94) (.const (.bool true)) (.tmp 97)⟩, ⟨(some 99), none, .mv (.tmp 98)⟩, ⟨(some 100), (some (99, false)), .fld 0 (.tmp 13)⟩, ⟨(some 101), (some (99, false)), .fld 1 (.tmp 100)⟩, ⟨(some 102), (some (99, false)), .load 1 false (.tmp 101)⟩, ⟨(some 103), (some (99, false)), .bin .lss 3 (.tmp 102) (.const (.int .i64 0))⟩, ⟨(some 104), none, .pick (.tmp 99) (.const (.bool true)) (.tmp 103)⟩, ⟨(some 105), none, .mv (.tmp 104)⟩, ⟨(some 106), (some (105, false)), .fld 0 (.tmp 13)⟩, ⟨(some 107), (some (105, false)), .fld 1 (.tmp 106)⟩, ⟨(some 108), (some (105, false)), .load 1 false (.tmp 107)⟩, ⟨(some 109), (some (105, false)), .bin .gtr 3 (.tmp 108) (.const (.int .i64 32))⟩, ⟨(some 110), none, .pick (.tmp 105) (.const (.bool true)) (.tmp 109)⟩, ⟨(some 111), none, .mv (.tmp 110)⟩, ⟨(some 112), (some (111, false)), .fld 2 (.tmp 13)⟩, ⟨(some 113), (some (111, false)), .fld 1 (.tmp 112)⟩, ⟨(some 114), (some (111, false)), .load 1 false (.tmp 113)⟩, ⟨(some 115), (some (111, false)), .bin .lss 3 (.tmp 114) (.const (.int .i64 0))⟩, ⟨(some 116), none, .pick (.tmp 111) (.const (.bool true)) (.tmp 115)⟩, ⟨(some 117), none, .mv (.tmp 116)⟩, ⟨(some 118), (some (117, false)), .fld 2 (.tmp 13)⟩, ⟨(some 119), (some (117, false)), .fld 1 (.tmp 118)⟩, ⟨(some 120), (some (117, false)), .load 1 false (.tmp 119)⟩, ⟨(some 121), (some (117, false)), .bin .gtr 3 (.tmp 120) (.const (.int .i64 32))⟩, ⟨(some 122), none, .pick (.tmp 117) (.const (.bool true)) (.tmp 121)⟩])
 (.cond (.tmp 122) (.seq (.reg [8] [⟨(some 123), none, .mv (.tmp 8)⟩, ⟨(some 4), none, .mv (.tmp 123)⟩, ⟨(some 5), none, .mv (.const (.int .i64 1))⟩])
 .ret) .skip))))))))))
 (.reg [1, 2, 8] [⟨(some 26), none, .mv (.tmp 8)⟩, ⟨(some 27), none, .bin .add 3 (.tmp 26) (.const (.int .i64 1))⟩, ⟨(some 8), none, .mv (.tmp 27)⟩])))
/- 39 waymark/waymarkref11.CheckRules: slots 0 g, 1 l, 2 g, 3 l, 6 _, 7 e, 8 i, 9 r, 10 twice, 11 k, 12 f, 13 m -/
def sc_waymarkref11_CheckRules : SCode :=
 (.seq (.reg [0, 1] [⟨(some 2), none, .box 44 (.tmp 0)⟩, ⟨(some 4), none, .mv (.const (.int .i64 0))⟩, ⟨(some 5), none, .mv (.const (.int .i64 0))⟩])
 (.seq (.reg [1, 2] [⟨(some 15), none, .load 2 true (.tmp 2)⟩, ⟨(some 16), none, .call 27 [(.tmp 15)]⟩, ⟨(some 14), none, .mv (.tmp 16)⟩, ⟨(some 17), none, .ext (.tmp 14) 0⟩, ⟨(some 18), none, .ext (.tmp 14) 1⟩, ⟨(some 6), none, .mv (.tmp 17)⟩, ⟨(some 7), none, .mv (.tmp 18)⟩])
 (.seq (.seq (.reg [1, 2, 7] [⟨(some 19), none, .mv (.tmp 7)⟩, ⟨(some 20), none, .bin .neq 3 (.tmp 19) (.const (.int .i64 0))⟩])
 (.cond (.tmp 20) (.seq (.reg [7] [⟨(some 21), none, .mv (.tmp 7)⟩, ⟨(some 4), none, .mv (.const (.int .i64 (-1)))⟩, ⟨(some 5), none, .mv (.tmp 21)⟩])
 .ret) .skip))
 (.seq (.seq (.reg [1, 2] [⟨(some 8), none, .mv (.const (.int .i64 0))⟩])
 (.block 0 (.loop [1, 2, 8] [] sc_waymarkref11_CheckRules_L1)))
 (.seq (.reg [] [⟨(some 4), none, .mv (.const (.int .i64 (-1)))⟩, ⟨(some 5), none, .mv (.const (.int .i64 0))⟩])
 .ret)))))
theorem fn_waymarkref11_CheckRules : FnOk Try.prog 39 Try.f39 sc_waymarkref11_CheckRules [.tmp 4, .tmp 5] 2 := ⟨Try.func39, by kernel_rfl, by kernel_rfl, by kernel_rfl, by kernel_rfl, by kernel_rfl, by kernel_rfl⟩

/- loop of waymark/waymarkref11.SameRules, wants [0, 1, 5] [] -/
def sc_waymarkref11_SameRules_L0 : SCode :=
 (.seq (.seq (.reg [0, 1, 5] [⟨(some 11), none, .mv (.tmp 5)⟩, ⟨(some 12), none, .mv (.tmp 0)⟩, ⟨(some 13), none, .len false (.tmp 12)⟩, ⟨(some 14), none, .bin .lss 3 (.tmp 11) (.tmp 13)⟩])
 (.cond (.tmp 14) .skip (.exit 0)))
 (.seq (.block 1 (.seq (.draw [0, 1, 5] [⟨(some 17), none, .mv (.tmp 0)⟩, ⟨(some 18), none, .mv (.tmp 5)⟩, ⟨(some 19), none, .ia none 17 (.tmp 17) (.tmp 18)⟩, ⟨(some 20), none, .load 17 true (.tmp 19)⟩, ⟨(some 21), none, .mv (.tmp 1)⟩, ⟨(some 22), none, .mv (.tmp 5)⟩, ⟨(some 23), none, .ia none 17 (.tmp 21) (.tmp 22)⟩, ⟨(some 24), none, .load 17 true (.tmp 23)⟩, ⟨(some 25), none, .call 16 [(.tmp 20), (.tmp 24)]⟩, ⟨(some 26), none, .un .not (.tmp 25)⟩])
 (.cond (.tmp 26) (.seq (.reg [] [⟨(some 4), none, .mv (.const (.bool false))⟩])
 .ret) .skip)))
 (.reg [0, 1, 5] [⟨(some 15), none, .mv (.tmp 5)⟩, ⟨(some 16), none, .bin .add 3 (.tmp 15) (.const (.int .i64 1))⟩, ⟨(some 5), none, .mv (.tmp 16)⟩])))
/- 41 waymark/waymarkref11.SameRules: slots 0 a, 1 b, 2 a, 3 b, 5 i -/
def sc_waymarkref11_SameRules : SCode :=
 (.seq (.reg [0, 1] [⟨(some 4), none, .mv (.const (.bool false))⟩])
 (.seq (.seq (.reg [0, 1] [⟨(some 6), none, .mv (.tmp 0)⟩, ⟨(some 7), none, .len false (.tmp 6)⟩, ⟨(some 8), none, .mv (.tmp 1)⟩, ⟨(some 9), none, .len false (.tmp 8)⟩, ⟨(some 10), none, .bin .neq 3 (.tmp 7) (.tmp 9)⟩])
 (.cond (.tmp 10) (.seq (.reg [] [⟨(some 4), none, .mv (.const (.bool false))⟩])
 .ret) .skip))
 (.seq (.seq (.reg [0, 1] [⟨(some 5), none, .mv (.const (.int .i64 0))⟩])
 (.block 0 (.loop [0, 1, 5] [] sc_waymarkref11_SameRules_L0)))
 (.seq (.reg [] [⟨(some 4), none, .mv (.const (.bool true))⟩])
 .ret))))
theorem fn_waymarkref11_SameRules : FnOk Try.prog 41 Try.f41 sc_waymarkref11_SameRules [.tmp 4] 2 := ⟨Try.func41, by kernel_rfl, by kernel_rfl, by kernel_rfl, by kernel_rfl, by kernel_rfl, by kernel_rfl⟩

/- loop of waymark/waymarkref11.At, wants [0, 1, 5, 6, 7] [] -/
def sc_waymarkref11_At_L0 : SCode :=
 (.seq (.seq (.draw [0, 1, 5, 6, 7] [⟨(some 24), none, .mv (.tmp 7)⟩, ⟨(some 25), none, .bin .gtr 3 (.tmp 24) (.const (.int .i64 0))⟩, ⟨(some 26), none, .mv (.tmp 25)⟩, ⟨(some 27), (some (26, true)), .mv (.tmp 5)⟩, ⟨(some 28), (some (26, true)), .mv (.tmp 7)⟩, ⟨(some 29), (some (26, true)), .bin .sub 3 (.tmp 28) (.const (.int .i64 1))⟩, ⟨(some 30), (some (26, true)), .ia none 17 (.tmp 27) (.tmp 29)⟩, ⟨(some 31), (some (26, true)), .fld 1 (.tmp 30)⟩, ⟨(some 32), (some (26, true)), .load 1 false (.tmp 31)⟩, ⟨(some 33), (some (26, true)), .mv (.tmp 0)⟩, ⟨(some 34), (some (26, true)), .mv (.tmp 6)⟩, ⟨(some 35), (some (26, true)), .ia none 17 (.tmp 33) (.tmp 34)⟩, ⟨(some 36), (some (26, true)), .fld 1 (.tmp 35)⟩, ⟨(some 37), (some (26, true)), .load 1 false (.tmp 36)⟩, ⟨(some 38), (some (26, true)), .bin .lss 3 (.tmp 32) (.tmp 37)⟩, ⟨(some 39), none, .pick (.tmp 26) (.tmp 38) (.const (.bool false))⟩])
 (.cond (.tmp 39) .skip (.exit 2)))
 (.block 3 (.reg [0, 1, 5, 6, 7] [⟨(some 40), none, .mv (.tmp 7)⟩, ⟨(some 41), none, .bin .sub 3 (.tmp 40) (.const (.int .i64 1))⟩, ⟨(some 7), none, .mv (.tmp 41)⟩])))
/- loop of waymark/waymarkref11.At, wants [0, 1, 5, 6] [] -/
def sc_waymarkref11_At_L1 : SCode :=
 (.seq (.seq (.reg [0, 1, 5, 6] [⟨(some 8), none, .mv (.tmp 6)⟩, ⟨(some 9), none, .mv (.tmp 0)⟩, ⟨(some 10), none, .len false (.tmp 9)⟩, ⟨(some 11), none, .bin .lss 3 (.tmp 8) (.tmp 10)⟩])
 (.cond (.tmp 11) .skip (.exit 0)))
 (.seq (.block 1 (.seq (.seq (.reg [0, 1, 5, 6] [⟨(some 14), none, .mv (.tmp 0)⟩, ⟨(some 15), none, .mv (.tmp 6)⟩, ⟨(some 16), none, .ia none 17 (.tmp 14) (.tmp 15)⟩, ⟨(some 17), none, .fld 9 (.tmp 16)⟩, ⟨(some 18), none, .fld 0 (.tmp 17)⟩, ⟨(some 19), none, .load 1 false (.tmp 18)⟩, ⟨(some 20), none, .mv (.tmp 1)⟩, ⟨(some 21), none, .bin .neq 3 (.tmp 19) (.tmp 20)⟩])
 (.cond (.tmp 21) (.exit 1) .skip))
 (.seq (.reg [0, 1, 5, 6] [⟨(some 22), none, .mv (.tmp 5)⟩, ⟨(some 23), none, .len false (.tmp 22)⟩, ⟨(some 7), none, .mv (.tmp 23)⟩])
 (.seq (.block 2 (.loop [0, 1, 5, 6, 7] [] sc_waymarkref11_At_L0))
 (.draw [0, 1, 5, 6, 7] [⟨(some 42), none, .mv (.tmp 5)⟩, ⟨(some 43), none, .mv (.tmp 7)⟩, ⟨(some 44), none, .slc (some 17) (.tmp 42) none (some (.tmp 43)) none⟩, ⟨(some 45), none, .hp (.app 22 36 17 208 (.agg #[(.string ⟨#[]⟩), (.int .i64 0), (.int .u32 0), (.int .i64 0), (.int .u32 0), (.int .i64 0), (.int .i64 0), (.int .i64 0), (.int .i64 0), (.int .i64 0), (.int .i64 0), (.int .i64 0), (.slice none 0 0), (.slice none 0 0), (.slice none 0 0), (.slice none 0 0), (.bool false)]) (.const (.slice none 0 0)) (.tmp 44))⟩, ⟨(some 46), none, .mv (.tmp 0)⟩, ⟨(some 47), none, .mv (.tmp 6)⟩, ⟨(some 48), none, .ia none 17 (.tmp 46) (.tmp 47)⟩, ⟨(some 49), none, .ow (.load 17 true (.tmp 48))⟩, ⟨(some 50), none, .bsl 36 17 [(.string ⟨#[]⟩), (.int .i64 0), (.int .u32 0), (.int .i64 0), (.int .u32 0), (.int .i64 0), (.int .i64 0), (.int .i64 0), (.int .i64 0), (.int .i64 0), (.int .i64 0), (.int .i64 0), (.slice none 0 0), (.slice none 0 0), (.slice none 0 0), (.slice none 0 0), (.bool false)] 1 [(0, 17, (.tmp 49))]⟩, ⟨(some 51), none, .hp (.app 22 36 17 208 (.agg #[(.string ⟨#[]⟩), (.int .i64 0), (.int .u32 0), (.int .i64 0), (.int .u32 0), (.int .i64 0), (.int .i64 0), (.int .i64 0), (.int .i64 0), (.int .i64 0), (.int .i64 0), (.int .i64 0), (.slice none 0 0), (.slice none 0 0), (.slice none 0 0), (.slice none 0 0), (.bool false)]) (.tmp 45) (.tmp 50))⟩, ⟨(some 52), none, .mv (.tmp 5)⟩, ⟨(some 53), none, .mv (.tmp 7)⟩, ⟨(some 54), none, .slc (some 17) (.tmp 52) (some (.tmp 53)) none none⟩, ⟨(some 55), none, .hp (.app 22 36 17 208 (.agg #[(.string ⟨#[]⟩), (.int .i64 0), (.int .u32 0), (.int .i64 0), (.int .u32 0), (.int .i64 0), (.int .i64 0), (.int .i64 0), (.int .i64 0), (.int .i64 0), (.int .i64 0), (.int .i64 0), (.slice none 0 0), (.slice none 0 0), (.slice none 0 0), (.slice none 0 0), (.bool false)]) (.tmp 51) (.tmp 54))⟩, ⟨(some 5), none, .mv (.tmp 55)⟩])))))
 (.fz [5] (.reg [0, 1, 5, 6] [⟨(some 12), none, .mv (.tmp 6)⟩, ⟨(some 13), none, .bin .add 3 (.tmp 12) (.const (.int .i64 1))⟩, ⟨(some 6), none, .mv (.tmp 13)⟩]))))
/- 43 waymark/waymarkref11.At: slots 0 l, 1 node, 2 l, 3 node, 5 out, 6 i, 7 k -/
def sc_waymarkref11_At : SCode :=
 (.seq (.reg [0, 1] [⟨(some 4), none, .mv (.const (.slice none 0 0))⟩])
 (.seq (.reg [0, 1] [⟨(some 5), none, .mv (.const (.slice none 0 0))⟩])
 (.seq (.seq (.reg [0, 1, 5] [⟨(some 6), none, .mv (.const (.int .i64 0))⟩])
 (.block 0 (.loop [0, 1, 5, 6] [] sc_waymarkref11_At_L1)))
 (.seq (.reg [5] [⟨(some 56), none, .mv (.tmp 5)⟩, ⟨(some 4), none, .mv (.tmp 56)⟩])
 .ret))))
theorem fn_waymarkref11_At : FnOk Try.prog 43 Try.f43 sc_waymarkref11_At [.tmp 4] 2 := ⟨Try.func43, by kernel_rfl, by kernel_rfl, by kernel_rfl, by kernel_rfl, by kernel_rfl, by kernel_rfl⟩

/- 45 waymark/waymarkref11.SameWant: slots 0 a, 1 b, 2 a, 3 b -/
def sc_waymarkref11_SameWant : SCode :=
 (.seq (.reg [0, 1] [⟨(some 2), none, .box 34 (.tmp 0)⟩, ⟨(some 3), none, .box 34 (.tmp 1)⟩, ⟨(some 4), none, .mv (.const (.bool false))⟩])
 (.seq (.reg [2, 3] [⟨(some 5), none, .fld 0 (.tmp 2)⟩, ⟨(some 6), none, .load 1 false (.tmp 5)⟩, ⟨(some 7), none, .fld 0 (.tmp 3)⟩, ⟨(some 8), none, .load 1 false (.tmp 7)⟩, ⟨(some 9), none, .bin .eql 3 (.tmp 6) (.tmp 8)⟩, ⟨(some 10), none, .mv (.tmp 9)⟩, ⟨(some 11), (some (10, true)), .fld 1 (.tmp 2)⟩, ⟨(some 12), (some (10, true)), .load 1 false (.tmp 11)⟩, ⟨(some 13), (some (10, true)), .fld 1 (.tmp 3)⟩, ⟨(some 14), (some (10, true)), .load 1 false (.tmp 13)⟩, ⟨(some 15), (some (10, true)), .bin .eql 3 (.tmp 12) (.tmp 14)⟩, ⟨(some 16), none, .pick (.tmp 10) (.tmp 15) (.const (.bool false))⟩, ⟨(some 17), none, .mv (.tmp 16)⟩, ⟨(some 18), (some (17, true)), .fld 2 (.tmp 2)⟩, ⟨(some 19), (some (17, true)), .load 1 false (.tmp 18)⟩, ⟨(some 20), (some (17, true)), .fld 2 (.tmp 3)⟩, ⟨(some 21), (some (17, true)), .load 1 false (.tmp 20)⟩, ⟨(some 22), (some (17, true)), .bin .eql 3 (.tmp 19) (.tmp 21)⟩, ⟨(some 23), none, .pick (.tmp 17) (.tmp 22) (.const (.bool false))⟩, ⟨(some 24), none, .mv (.tmp 23)⟩, ⟨(some 25), (some (24, true)), .fld 3 (.tmp 2)⟩, ⟨(some 26), (some (24, true)), .load 1 false (.tmp 25)⟩, ⟨(some 27), (some (24, true)), .fld 3 (.tmp 3)⟩, ⟨(some 28), (some (24, true)), .load 1 false (.tmp 27)⟩, ⟨(some 29), (some (24, true)), .call 67 [(.tmp 26), (.tmp 28)]⟩, ⟨(some 30), none, .pick (.tmp 24) (.tmp 29) (.const (.bool false))⟩, ⟨(some 31), none, .mv (.tmp 30)⟩, ⟨(some 32), (some (31, true)), .fld 4 (.tmp 2)⟩, ⟨(some 33), (some (31, true)), .load 1 false (.tmp 32)⟩, ⟨(some 34), (some (31, true)), .fld 4 (.tmp 3)⟩, ⟨(some 35), (some (31, true)), .load 1 false (.tmp 34)⟩, ⟨(some 36), (some (31, true)), .call 67 [(.tmp 33), (.tmp 35)]⟩, ⟨(some 37), none, .pick (.tmp 31) (.tmp 36) (.const (.bool false))⟩, ⟨(some 38), none, .mv (.tmp 37)⟩, ⟨(some 39), (some (38, true)), .fld 5 (.tmp 2)⟩, ⟨(some 40), (some (38, true)), .load 1 false (.tmp 39)⟩, ⟨(some 41), (some (38, true)), .fld 5 (.tmp 3)⟩, ⟨(some 42), (some (38, true)), .load 1 false (.tmp 41)⟩, ⟨(some 43), (some (38, true)), .call 67 [(.tmp 40), (.tmp 42)]⟩, ⟨(some 44), none, .pick (.tmp 38) (.tmp 43) (.const (.bool false))⟩, ⟨(some 45), none, .mv (.tmp 44)⟩, ⟨(some 46), (some (45, true)), .fld 6 (.tmp 2)⟩, ⟨(some 47), (some (45, true)), .load 1 false (.tmp 46)⟩, ⟨(some 48), (some (45, true)), .fld 6 (.tmp 3)⟩, ⟨(some 49), (some (45, true)), .load 1 false (.tmp 48)⟩, ⟨(some 50), (some (45, true)), .call 67 [(.tmp 47), (.tmp 49)]⟩, ⟨(some 51), none, .pick (.tmp 45) (.tmp 50) (.const (.bool false))⟩, ⟨(some 4), none, .mv (.tmp 51)⟩])
 .ret))
theorem fn_waymarkref11_SameWant : FnOk Try.prog 45 Try.f45 sc_waymarkref11_SameWant [.tmp 4] 2 := ⟨Try.func45, by kernel_rfl, by kernel_rfl, by kernel_rfl, by kernel_rfl, by kernel_rfl, by kernel_rfl⟩

/- loop of waymark/waymarkref11.In, wants [1, 2, 5, 6] [] -/
def sc_waymarkref11_In_L0 : SCode :=
 (.seq (.seq (.reg [1, 2, 5, 6] [⟨(some 10), none, .mv (.tmp 6)⟩, ⟨(some 11), none, .mv (.tmp 5)⟩, ⟨(some 12), none, .bin .lss 3 (.tmp 10) (.tmp 11)⟩])
 (.cond (.tmp 12) .skip (.exit 0)))
 (.seq (.block 1 (.seq (.reg [1, 2, 5, 6] [⟨(some 15), none, .fld 0 (.tmp 2)⟩, ⟨(some 16), none, .load 1 false (.tmp 15)⟩, ⟨(some 17), none, .mv (.tmp 6)⟩, ⟨(some 18), none, .bin .sub 3 (.const (.int .i64 31)) (.tmp 17)⟩, ⟨(some 19), none, .cnv .u64 (.tmp 18)⟩, ⟨(some 20), none, .bin .shr 23 (.tmp 16) (.tmp 19)⟩, ⟨(some 21), none, .bin .and 23 (.tmp 20) (.const (.int .u32 1))⟩, ⟨(some 22), none, .mv (.tmp 1)⟩, ⟨(some 23), none, .mv (.tmp 6)⟩, ⟨(some 24), none, .bin .sub 3 (.const (.int .i64 31)) (.tmp 23)⟩, ⟨(some 25), none, .cnv .u64 (.tmp 24)⟩, ⟨(some 26), none, .bin .shr 23 (.tmp 22) (.tmp 25)⟩, ⟨(some 27), none, .bin .and 23 (.tmp 26) (.const (.int .u32 1))⟩, ⟨(some 28), none, .bin .neq 23 (.tmp 21) (.tmp 27)⟩])
 (.cond (.tmp 28) (.seq (.reg [] [⟨(some 4), none, .mv (.const (.bool false))⟩])
 .ret) .skip)))
 (.reg [1, 2, 5, 6] [⟨(some 13), none, .mv (.tmp 6)⟩, ⟨(some 14), none, .bin .add 3 (.tmp 13) (.const (.int .i64 1))⟩, ⟨(some 6), none, .mv (.tmp 14)⟩])))
/- 46 waymark/waymarkref11.In: slots 0 p, 1 addr, 2 p, 3 addr, 5 n, 6 i -/
def sc_waymarkref11_In : SCode :=
 (.seq (.reg [0, 1] [⟨(some 2), none, .box 29 (.tmp 0)⟩, ⟨(some 4), none, .mv (.const (.bool false))⟩])
 (.seq (.reg [1, 2] [⟨(some 7), none, .fld 1 (.tmp 2)⟩, ⟨(some 8), none, .load 1 false (.tmp 7)⟩, ⟨(some 9), none, .call 68 [(.tmp 8), (.const (.int .i64 0)), (.const (.int .i64 32))]⟩, ⟨(some 5), none, .mv (.tmp 9)⟩])
 (.seq (.seq (.reg [1, 2, 5] [⟨(some 6), none, .mv (.const (.int .i64 0))⟩])
 (.block 0 (.loop [1, 2, 5, 6] [] sc_waymarkref11_In_L0)))
 (.seq (.reg [] [⟨(some 4), none, .mv (.const (.bool true))⟩])
 .ret))))
theorem fn_waymarkref11_In : FnOk Try.prog 46 Try.f46 sc_waymarkref11_In [.tmp 4] 2 := ⟨Try.func46, by kernel_rfl, by kernel_rfl, by kernel_rfl, by kernel_rfl, by kernel_rfl, by kernel_rfl⟩

/- 60 waymark/waymarkref11.word: slots 0 s, 1 s, 3 l, 4 _, 5 e -/
def sc_waymarkref11_word : SCode :=
 (.seq (.reg [0] [⟨(some 2), none, .mv (.const (.bool false))⟩])
 (.seq (.reg [0] [⟨(some 7), none, .mv (.tmp 0)⟩, ⟨(some 8), none, .call 82 [(.tmp 7)]⟩, ⟨(some 6), none, .mv (.tmp 8)⟩, ⟨(some 9), none, .ext (.tmp 6) 0⟩, ⟨(some 10), none, .ext (.tmp 6) 1⟩, ⟨(some 11), none, .ext (.tmp 6) 2⟩, ⟨(some 3), none, .mv (.tmp 9)⟩, ⟨(some 4), none, .mv (.tmp 10)⟩, ⟨(some 5), none, .mv (.tmp 11)⟩])
 (.seq (.reg [0, 3, 5] [⟨(some 12), none, .mv (.tmp 5)⟩, ⟨(some 13), none, .bin .eql 3 (.tmp 12) (.const (.int .i64 0))⟩, ⟨(some 14), none, .mv (.tmp 13)⟩, ⟨(some 15), (some (14, true)), .mv (.tmp 3)⟩, ⟨(some 16), (some (14, true)), .len false (.tmp 15)⟩, ⟨(some 17), (some (14, true)), .bin .eql 3 (.tmp 16) (.const (.int .i64 1))⟩, ⟨(some 18), none, .pick (.tmp 14) (.tmp 17) (.const (.bool false))⟩, ⟨(some 19), none, .mv (.tmp 18)⟩, ⟨(some 20), (some (19, true)), .mv (.tmp 3)⟩, ⟨(some 21), (some (19, true)), .ia none 3 (.tmp 20) (.const (.int .i64 0))⟩, ⟨(some 22), (some (19, true)), .fld 0 (.tmp 21)⟩, ⟨(some 23), (some (19, true)), .load 1 false (.tmp 22)⟩, ⟨(some 24), (some (19, true)), .bin .eql 3 (.tmp 23) (.const (.int .i64 1))⟩, ⟨(some 25), none, .pick (.tmp 19) (.tmp 24) (.const (.bool false))⟩, ⟨(some 26), none, .mv (.tmp 25)⟩, ⟨(some 27), (some (26, true)), .mv (.tmp 3)⟩, ⟨(some 28), (some (26, true)), .ia none 3 (.tmp 27) (.const (.int .i64 0))⟩, ⟨(some 29), (some (26, true)), .fld 2 (.tmp 28)⟩, ⟨(some 30), (some (26, true)), .load 1 false (.tmp 29)⟩, ⟨(some 31), (some (26, true)), .mv (.tmp 0)⟩, ⟨(some 32), (some (26, true)), .bin .eql 9 (.tmp 30) (.tmp 31)⟩, ⟨(some 33), none, .pick (.tmp 26) (.tmp 32) (.const (.bool false))⟩, ⟨(some 2), none, .mv (.tmp 33)⟩])
 .ret)))
theorem fn_waymarkref11_word : FnOk Try.prog 60 Try.f60 sc_waymarkref11_word [.tmp 2] 1 := ⟨Try.func60, by kernel_rfl, by kernel_rfl, by kernel_rfl, by kernel_rfl, by kernel_rfl, by kernel_rfl⟩

/- loop of waymark/waymarkref11.Split, wants [0, 5, 6, 8] [] -/
def sc_waymarkref11_Split_L0 : SCode :=
 (.seq (.seq (.reg [0, 5, 6, 8] [⟨(some 84), none, .mv (.tmp 6)⟩, ⟨(some 85), none, .mv (.tmp 0)⟩, ⟨(some 86), none, .len true (.tmp 85)⟩, ⟨(some 87), none, .bin .lss 3 (.tmp 84) (.tmp 86)⟩, ⟨(some 88), none, .mv (.tmp 87)⟩, ⟨(some 89), (some (88, true)), .mv (.tmp 0)⟩, ⟨(some 90), (some (88, true)), .mv (.tmp 6)⟩, ⟨(some 91), (some (88, true)), .ixs (.tmp 89) (.tmp 90)⟩, ⟨(some 92), (some (88, true)), .call 98 [(.tmp 91)]⟩, ⟨(some 93), (some (88, true)), .mv (.tmp 92)⟩, ⟨(some 94), (some (93, false)), .mv (.tmp 0)⟩, ⟨(some 95), (some (93, false)), .mv (.tmp 6)⟩, ⟨(some 96), (some (93, false)), .ixs (.tmp 94) (.tmp 95)⟩, ⟨(some 97), (some (93, false)), .bin .eql 5 (.tmp 96) (.const (.int .u8 46))⟩, ⟨(some 98), (some (88, true)), .pick (.tmp 93) (.const (.bool true)) (.tmp 97)⟩, ⟨(some 99), (some (88, true)), .mv (.tmp 98)⟩, ⟨(some 100), (some (99, false)), .mv (.tmp 0)⟩, ⟨(some 101), (some (99, false)), .mv (.tmp 6)⟩, ⟨(some 102), (some (99, false)), .ixs (.tmp 100) (.tmp 101)⟩, ⟨(some 103), (some (99, false)), .bin .eql 5 (.tmp 102) (.const (.int .u8 47))⟩, ⟨(some 104), (some (88, true)), .pick (.tmp 99) (.const (.bool true)) (.tmp 103)⟩, ⟨(some 105), none, .pick (.tmp 88) (.tmp 104) (.const (.bool false))⟩])
 (.cond (.tmp 105) .skip (.exit 7)))
 (.block 8 (.reg [0, 5, 6, 8] [⟨(some 106), none, .mv (.tmp 6)⟩, ⟨(some 107), none, .bin .add 3 (.tmp 106) (.const (.int .i64 1))⟩, ⟨(some 6), none, .mv (.tmp 107)⟩])))
/- loop of waymark/waymarkref11.Split, wants [0, 5, 6, 8] [] -/
def sc_waymarkref11_Split_L1 : SCode :=
 (.seq (.seq (.reg [0, 5, 6, 8] [⟨(some 48), none, .mv (.tmp 6)⟩, ⟨(some 49), none, .mv (.tmp 0)⟩, ⟨(some 50), none, .len true (.tmp 49)⟩, ⟨(some 51), none, .bin .lss 3 (.tmp 48) (.tmp 50)⟩, ⟨(some 52), none, .mv (.tmp 51)⟩, ⟨(some 53), (some (52, true)), .mv (.tmp 0)⟩, ⟨(some 54), (some (52, true)), .mv (.tmp 6)⟩, ⟨(some 55), (some (52, true)), .ixs (.tmp 53) (.tmp 54)⟩, ⟨(some 56), (some (52, true)), .call 97 [(.tmp 55)]⟩, ⟨(some 57), (some (52, true)), .mv (.tmp 56)⟩, ⟨(some 58), (some (57, false)), .mv (.tmp 0)⟩, ⟨(some 59), (some (57, false)), .mv (.tmp 6)⟩, ⟨(some 60), (some (57, false)), .ixs (.tmp 58) (.tmp 59)⟩, ⟨(some 61), (some (57, false)), .call 98 [(.tmp 60)]⟩, ⟨(some 62), (some (52, true)), .pick (.tmp 57) (.const (.bool true)) (.tmp 61)⟩, ⟨(some 63), (some (52, true)), .mv (.tmp 62)⟩, ⟨(some 64), (some (63, false)), .mv (.tmp 0)⟩, ⟨(some 65), (some (63, false)), .mv (.tmp 6)⟩, ⟨(some 66), (some (63, false)), .ixs (.tmp 64) (.tmp 65)⟩, ⟨(some 67), (some (63, false)), .bin .eql 5 (.tmp 66) (.const (.int .u8 45))⟩, ⟨(some 68), (some (52, true)), .pick (.tmp 63) (.const (.bool true)) (.tmp 67)⟩, ⟨(some 69), none, .pick (.tmp 52) (.tmp 68) (.const (.bool false))⟩])
 (.cond (.tmp 69) .skip (.exit 5)))
 (.block 6 (.reg [0, 5, 6, 8] [⟨(some 70), none, .mv (.tmp 6)⟩, ⟨(some 71), none, .bin .add 3 (.tmp 70) (.const (.int .i64 1))⟩, ⟨(some 6), none, .mv (.tmp 71)⟩])))
/- loop of waymark/waymarkref11.Split, wants [0, 5, 6] [] -/
def sc_waymarkref11_Split_L2 : SCode :=
 (.seq (.seq (.reg [0, 5, 6] [⟨(some 33), none, .mv (.tmp 6)⟩, ⟨(some 34), none, .mv (.tmp 0)⟩, ⟨(some 35), none, .len true (.tmp 34)⟩, ⟨(some 36), none, .bin .lss 3 (.tmp 33) (.tmp 35)⟩, ⟨(some 37), none, .mv (.tmp 36)⟩, ⟨(some 38), (some (37, true)), .mv (.tmp 0)⟩, ⟨(some 39), (some (37, true)), .mv (.tmp 6)⟩, ⟨(some 40), (some (37, true)), .ixs (.tmp 38) (.tmp 39)⟩, ⟨(some 41), (some (37, true)), .bin .neq 5 (.tmp 40) (.const (.int .u8 10))⟩, ⟨(some 42), none, .pick (.tmp 37) (.tmp 41) (.const (.bool false))⟩])
 (.cond (.tmp 42) .skip (.exit 3)))
 (.block 4 (.reg [0, 5, 6] [⟨(some 43), none, .mv (.tmp 6)⟩, ⟨(some 44), none, .bin .add 3 (.tmp 43) (.const (.int .i64 1))⟩, ⟨(some 6), none, .mv (.tmp 44)⟩])))
/- loop of waymark/waymarkref11.Split, wants [0, 5, 6] [(5, 80, 118, 3)] -/
def sc_waymarkref11_Split_L3 : SCode :=
 (.seq (.seq (.reg [0, 5, 6] [⟨(some 12), none, .mv (.tmp 6)⟩, ⟨(some 13), none, .mv (.tmp 0)⟩, ⟨(some 14), none, .len true (.tmp 13)⟩, ⟨(some 15), none, .bin .lss 3 (.tmp 12) (.tmp 14)⟩])
 (.cond (.tmp 15) .skip (.exit 0)))
 (.block 1 (.seq (.reg [0, 5, 6] [⟨(some 16), none, .mv (.tmp 0)⟩, ⟨(some 17), none, .mv (.tmp 6)⟩, ⟨(some 18), none, .ixs (.tmp 16) (.tmp 17)⟩, ⟨(some 7), none, .mv (.tmp 18)⟩])
 (.seq (.reg [0, 5, 6, 7] [⟨(some 19), none, .mv (.tmp 6)⟩, ⟨(some 8), none, .mv (.tmp 19)⟩])
 (.block 2 (.seq (.reg [0, 5, 6, 7, 8] [⟨(some 22), none, .mv (.tmp 7)⟩, ⟨(some 23), none, .bin .eql 5 (.tmp 22) (.const (.int .u8 32))⟩, ⟨(some 24), none, .mv (.tmp 23)⟩, ⟨(some 25), (some (24, false)), .mv (.tmp 7)⟩, ⟨(some 26), (some (24, false)), .bin .eql 5 (.tmp 25) (.const (.int .u8 10))⟩, ⟨(some 27), none, .pick (.tmp 24) (.const (.bool true)) (.tmp 26)⟩, ⟨(some 21), none, .mv (.tmp 27)⟩])
 (.cond (.tmp 21) (.reg [0, 5, 6] [⟨(some 28), none, .mv (.tmp 6)⟩, ⟨(some 29), none, .bin .add 3 (.tmp 28) (.const (.int .i64 1))⟩, ⟨(some 6), none, .mv (.tmp 29)⟩]) (.seq (.reg [0, 5, 6, 7, 8] [⟨(some 31), none, .mv (.tmp 7)⟩, ⟨(some 32), none, .bin .eql 5 (.tmp 31) (.const (.int .u8 35))⟩, ⟨(some 30), none, .mv (.tmp 32)⟩])
 (.cond (.tmp 30) (.block 3 (.loop [0, 5, 6] [] sc_waymarkref11_Split_L2)) (.seq (.reg [0, 5, 6, 7, 8] [⟨(some 46), none, .mv (.tmp 7)⟩, ⟨(some 47), none, .call 97 [(.tmp 46)]⟩, ⟨(some 45), none, .mv (.tmp 47)⟩])
 (.cond (.tmp 45) (.seq (.block 5 (.loop [0, 5, 6, 8] [] sc_waymarkref11_Split_L1))
 (.reg [0, 5, 6, 8] [⟨(some 72), none, .mv (.tmp 5)⟩, ⟨(some 73), none, .mv (.tmp 8)⟩, ⟨(some 74), none, .mv (.tmp 0)⟩, ⟨(some 75), none, .mv (.tmp 8)⟩, ⟨(some 76), none, .mv (.tmp 6)⟩, ⟨(some 77), none, .slc none (.tmp 74) (some (.tmp 75)) (some (.tmp 76)) none⟩, ⟨(some 78), none, .build [(.int .i64 0), (.int .i64 0), (.string ⟨#[]⟩)] [(0, 1, (.const (.int .i64 1))), (1, 1, (.tmp 73)), (2, 1, (.tmp 77))]⟩, ⟨(some 79), none, .bsl 118 3 [(.int .i64 0), (.int .i64 0), (.string ⟨#[]⟩)] 1 [(0, 3, (.tmp 78))]⟩, ⟨(some 80), none, .app 114 118 3 32 (.agg #[(.int .i64 0), (.int .i64 0), (.string ⟨#[]⟩)]) (.tmp 72) (.tmp 79)⟩, ⟨(some 5), none, .mv (.tmp 80)⟩])) (.seq (.reg [0, 5, 6, 7, 8] [⟨(some 82), none, .mv (.tmp 7)⟩, ⟨(some 83), none, .call 98 [(.tmp 82)]⟩, ⟨(some 81), none, .mv (.tmp 83)⟩])
 (.cond (.tmp 81) (.seq (.block 7 (.loop [0, 5, 6, 8] [] sc_waymarkref11_Split_L0))
 (.reg [0, 5, 6, 8] [⟨(some 108), none, .mv (.tmp 5)⟩, ⟨(some 109), none, .mv (.tmp 8)⟩, ⟨(some 110), none, .mv (.tmp 0)⟩, ⟨(some 111), none, .mv (.tmp 8)⟩, ⟨(some 112), none, .mv (.tmp 6)⟩, ⟨(some 113), none, .slc none (.tmp 110) (some (.tmp 111)) (some (.tmp 112)) none⟩, ⟨(some 114), none, .build [(.int .i64 0), (.int .i64 0), (.string ⟨#[]⟩)] [(0, 1, (.const (.int .i64 2))), (1, 1, (.tmp 109)), (2, 1, (.tmp 113))]⟩, ⟨(some 115), none, .bsl 118 3 [(.int .i64 0), (.int .i64 0), (.string ⟨#[]⟩)] 1 [(0, 3, (.tmp 114))]⟩, ⟨(some 116), none, .app 114 118 3 32 (.agg #[(.int .i64 0), (.int .i64 0), (.string ⟨#[]⟩)]) (.tmp 108) (.tmp 115)⟩, ⟨(some 5), none, .mv (.tmp 116)⟩])) (.seq (.reg [0, 5, 6, 7, 8] [⟨(some 118), none, .mv (.tmp 7)⟩, ⟨(some 119), none, .bin .eql 5 (.tmp 118) (.const (.int .u8 59))⟩, ⟨(some 117), none, .mv (.tmp 119)⟩])
 (.cond (.tmp 117) (.seq (.reg [0, 5, 6, 8] [⟨(some 120), none, .mv (.tmp 6)⟩, ⟨(some 121), none, .bin .add 3 (.tmp 120) (.const (.int .i64 1))⟩, ⟨(some 6), none, .mv (.tmp 121)⟩])
 (.reg [0, 5, 6, 8] [⟨(some 122), none, .mv (.tmp 5)⟩, ⟨(some 123), none, .mv (.tmp 8)⟩, ⟨(some 124), none, .build [(.int .i64 0), (.int .i64 0), (.string ⟨#[]⟩)] [(0, 1, (.const (.int .i64 3))), (1, 1, (.tmp 123)), (2, 1, (.const (.string ⟨#[59]⟩)))]⟩, ⟨(some 125), none, .bsl 118 3 [(.int .i64 0), (.int .i64 0), (.string ⟨#[]⟩)] 1 [(0, 3, (.tmp 124))]⟩, ⟨(some 126), none, .app 114 118 3 32 (.agg #[(.int .i64 0), (.int .i64 0), (.string ⟨#[]⟩)]) (.tmp 122) (.tmp 125)⟩, ⟨(some 5), none, .mv (.tmp 126)⟩])) (.seq (.reg [6] [⟨(some 20), none, .mv (.tmp 6)⟩, ⟨(some 2), none, .mv (.const (.slice none 0 0))⟩, ⟨(some 3), none, .mv (.tmp 20)⟩, ⟨(some 4), none, .mv (.const (.int .i64 3))⟩])
 .ret))))))))))))))))
/- 82 waymark/waymarkref11.Split: slots 0 s, 1 s, 5 l, 6 i, 7 c, 8 k -/
def sc_waymarkref11_Split : SCode :=
 (.seq (.reg [0] [⟨(some 2), none, .mv (.const (.slice none 0 0))⟩, ⟨(some 3), none, .mv (.const (.int .i64 0))⟩, ⟨(some 4), none, .mv (.const (.int .i64 0))⟩])
 (.seq (.seq (.reg [0] [⟨(some 9), none, .mv (.tmp 0)⟩, ⟨(some 10), none, .len true (.tmp 9)⟩, ⟨(some 11), none, .bin .gtr 3 (.tmp 10) (.const (.int .i64 10000))⟩])
 (.cond (.tmp 11) (.seq (.reg [] [⟨(some 2), none, .mv (.const (.slice none 0 0))⟩, ⟨(some 3), none, .mv (.const (.int .i64 0))⟩, ⟨(some 4), none, .mv (.const (.int .i64 6))⟩])
 .ret) .skip))
 (.seq (.reg [0] [⟨(some 5), none, .mv (.const (.slice none 0 0))⟩])
 (.seq (.reg [0, 5] [⟨(some 6), none, .mv (.const (.int .i64 0))⟩])
 (.seq (.block 0 (.loop [0, 5, 6] [(5, 80, 118, 3)] sc_waymarkref11_Split_L3))
 (.seq (.reg [5] [⟨(some 127), none, .mv (.tmp 5)⟩, ⟨(some 2), none, .mv (.tmp 127)⟩, ⟨(some 3), none, .mv (.const (.int .i64 (-1)))⟩, ⟨(some 4), none, .mv (.const (.int .i64 0))⟩])
 .ret))))))
theorem fn_waymarkref11_Split : FnOk Try.prog 82 Try.f82 sc_waymarkref11_Split [.tmp 2, .tmp 3, .tmp 4] 1 := ⟨Try.func82, by kernel_rfl, by kernel_rfl, by kernel_rfl, by kernel_rfl, by kernel_rfl, by kernel_rfl⟩

/- 97 waymark/waymarkref11.letter: slots 0 c, 1 c -/
def sc_waymarkref11_letter : SCode :=
 (.seq (.reg [0] [⟨(some 2), none, .mv (.const (.bool false))⟩])
 (.seq (.reg [0] [⟨(some 3), none, .mv (.tmp 0)⟩, ⟨(some 4), none, .bin .geq 5 (.tmp 3) (.const (.int .u8 97))⟩, ⟨(some 5), none, .mv (.tmp 4)⟩, ⟨(some 6), (some (5, true)), .mv (.tmp 0)⟩, ⟨(some 7), (some (5, true)), .bin .leq 5 (.tmp 6) (.const (.int .u8 122))⟩, ⟨(some 8), none, .pick (.tmp 5) (.tmp 7) (.const (.bool false))⟩, ⟨(some 2), none, .mv (.tmp 8)⟩])
 .ret))
theorem fn_waymarkref11_letter : FnOk Try.prog 97 Try.f97 sc_waymarkref11_letter [.tmp 2] 1 := ⟨Try.func97, by kernel_rfl, by kernel_rfl, by kernel_rfl, by kernel_rfl, by kernel_rfl, by kernel_rfl⟩

/- 98 waymark/waymarkref11.digit: slots 0 c, 1 c -/
def sc_waymarkref11_digit : SCode :=
 (.seq (.reg [0] [⟨(some 2), none, .mv (.const (.bool false))⟩])
 (.seq (.reg [0] [⟨(some 3), none, .mv (.tmp 0)⟩, ⟨(some 4), none, .bin .geq 5 (.tmp 3) (.const (.int .u8 48))⟩, ⟨(some 5), none, .mv (.tmp 4)⟩, ⟨(some 6), (some (5, true)), .mv (.tmp 0)⟩, ⟨(some 7), (some (5, true)), .bin .leq 5 (.tmp 6) (.const (.int .u8 57))⟩, ⟨(some 8), none, .pick (.tmp 5) (.tmp 7) (.const (.bool false))⟩, ⟨(some 2), none, .mv (.tmp 8)⟩])
 .ret))
theorem fn_waymarkref11_digit : FnOk Try.prog 98 Try.f98 sc_waymarkref11_digit [.tmp 2] 1 := ⟨Try.func98, by kernel_rfl, by kernel_rfl, by kernel_rfl, by kernel_rfl, by kernel_rfl, by kernel_rfl⟩

end Go.Proofs.Ytgahnhiidhkjaaa
end

section
namespace Go.Proofs.Ytgahnhiidhkjaaa
open Go Abs

/- loop of waymark/words.Word, wants [0, 13, 14] [] -/
def sc_words_Word_L0 : SCode :=
 (.seq (.reg [0, 13, 14] [⟨(some 15), none, .bin .lss 3 (.tmp 14) (.tmp 13)⟩])
 (.seq (.cond (.tmp 15) .skip (.exit 0))
 (.seq (.block 1 (.seq (.reg [0, 13, 14] [⟨(some 16), none, .mv (.tmp 14)⟩, ⟨(some 3), none, .mv (.tmp 16)⟩])
 (.seq (.reg [0, 3, 13, 14] [⟨(some 17), none, .mv (.tmp 0)⟩, ⟨(some 18), none, .mv (.tmp 3)⟩, ⟨(some 19), none, .ixs (.tmp 17) (.tmp 18)⟩, ⟨(some 20), none, .call 95 [(.tmp 19)]⟩, ⟨(some 21), none, .un .not (.tmp 20)⟩])
 (.cond (.tmp 21) (.seq (.reg [] [⟨(some 2), none, .mv (.const (.bool false))⟩])
 .ret) .skip))))
 (.reg [0, 13, 14] [⟨(some 22), none, .bin .add 3 (.tmp 14) (.const (.int .i64 1))⟩, ⟨(some 14), none, .mv (.tmp 22)⟩]))))
/- 77 waymark/words.Word: slots 0 s, 1 s, 3 i -/
def sc_words_Word : SCode :=
 (.seq (.reg [0] [⟨(some 2), none, .mv (.const (.bool false))⟩])
 (.seq (.seq (.reg [0] [⟨(some 4), none, .mv (.tmp 0)⟩, ⟨(some 5), none, .bin .eql 9 (.tmp 4) (.const (.string ⟨#[]⟩))⟩, ⟨(some 6), none, .mv (.tmp 5)⟩, ⟨(some 7), (some (6, false)), .mv (.tmp 0)⟩, ⟨(some 8), (some (6, false)), .ixs (.tmp 7) (.const (.int .i64 0))⟩, ⟨(some 9), (some (6, false)), .call 94 [(.tmp 8)]⟩, ⟨(some 10), (some (6, false)), .un .not (.tmp 9)⟩, ⟨(some 11), none, .pick (.tmp 6) (.const (.bool true)) (.tmp 10)⟩])
 (.cond (.tmp 11) (.seq (.reg [] [⟨(some 2), none, .mv (.const (.bool false))⟩])
 .ret) .skip))
 (.seq (.seq (.reg [0] [⟨(some 12), none, .mv (.tmp 0)⟩, ⟨(some 13), none, .len true (.tmp 12)⟩, ⟨(some 14), none, .mv (.const (.int .i64 0))⟩])
 (.block 0 (.loop [0, 13, 14] [] sc_words_Word_L0)))
 (.seq (.reg [] [⟨(some 2), none, .mv (.const (.bool true))⟩])
 .ret))))
theorem fn_words_Word : FnOk Try.prog 77 Try.f77 sc_words_Word [.tmp 2] 1 := ⟨Try.func77, by kernel_rfl, by kernel_rfl, by kernel_rfl, by kernel_rfl, by kernel_rfl, by kernel_rfl⟩

/- 94 waymark/words.letter: slots 0 c, 1 c -/
def sc_words_letter : SCode :=
 (.seq (.reg [0] [⟨(some 2), none, .mv (.const (.bool false))⟩])
 (.seq (.reg [0] [⟨(some 3), none, .mv (.tmp 0)⟩, ⟨(some 4), none, .bin .geq 5 (.tmp 3) (.const (.int .u8 97))⟩, ⟨(some 5), none, .mv (.tmp 4)⟩, ⟨(some 6), (some (5, true)), .mv (.tmp 0)⟩, ⟨(some 7), (some (5, true)), .bin .leq 5 (.tmp 6) (.const (.int .u8 122))⟩, ⟨(some 8), none, .pick (.tmp 5) (.tmp 7) (.const (.bool false))⟩, ⟨(some 2), none, .mv (.tmp 8)⟩])
 .ret))
theorem fn_words_letter : FnOk Try.prog 94 Try.f94 sc_words_letter [.tmp 2] 1 := ⟨Try.func94, by kernel_rfl, by kernel_rfl, by kernel_rfl, by kernel_rfl, by kernel_rfl, by kernel_rfl⟩

/- 95 waymark/words.inWord: slots 0 c, 1 c -/
def sc_words_inWord : SCode :=
 (.seq (.reg [0] [⟨(some 2), none, .mv (.const (.bool false))⟩])
 (.seq (.reg [0] [⟨(some 3), none, .mv (.tmp 0)⟩, ⟨(some 4), none, .call 94 [(.tmp 3)]⟩, ⟨(some 5), none, .mv (.tmp 4)⟩, ⟨(some 6), (some (5, false)), .mv (.tmp 0)⟩, ⟨(some 7), (some (5, false)), .call 107 [(.tmp 6)]⟩, ⟨(some 8), none, .pick (.tmp 5) (.const (.bool true)) (.tmp 7)⟩, ⟨(some 9), none, .mv (.tmp 8)⟩, ⟨(some 10), (some (9, false)), .mv (.tmp 0)⟩, ⟨(some 11), (some (9, false)), .bin .eql 5 (.tmp 10) (.const (.int .u8 45))⟩, ⟨(some 12), none, .pick (.tmp 9) (.const (.bool true)) (.tmp 11)⟩, ⟨(some 2), none, .mv (.tmp 12)⟩])
 .ret))
theorem fn_words_inWord : FnOk Try.prog 95 Try.f95 sc_words_inWord [.tmp 2] 1 := ⟨Try.func95, by kernel_rfl, by kernel_rfl, by kernel_rfl, by kernel_rfl, by kernel_rfl, by kernel_rfl⟩

/- 107 waymark/words.digit: slots 0 c, 1 c -/
def sc_words_digit : SCode :=
 (.seq (.reg [0] [⟨(some 2), none, .mv (.const (.bool false))⟩])
 (.seq (.reg [0] [⟨(some 3), none, .mv (.tmp 0)⟩, ⟨(some 4), none, .bin .geq 5 (.tmp 3) (.const (.int .u8 48))⟩, ⟨(some 5), none, .mv (.tmp 4)⟩, ⟨(some 6), (some (5, true)), .mv (.tmp 0)⟩, ⟨(some 7), (some (5, true)), .bin .leq 5 (.tmp 6) (.const (.int .u8 57))⟩, ⟨(some 8), none, .pick (.tmp 5) (.tmp 7) (.const (.bool false))⟩, ⟨(some 2), none, .mv (.tmp 8)⟩])
 .ret))
theorem fn_words_digit : FnOk Try.prog 107 Try.f107 sc_words_digit [.tmp 2] 1 := ⟨Try.func107, by kernel_rfl, by kernel_rfl, by kernel_rfl, by kernel_rfl, by kernel_rfl, by kernel_rfl⟩

end Go.Proofs.Ytgahnhiidhkjaaa
end
