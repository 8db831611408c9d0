import Derived.Test.YtkephdahbplhfaaProg
import Derived.Test.YtkephdahbplhfaaAbsG
set_option maxRecDepth 100000
namespace Go.Proofs.Ytkephdahbplhfaa
open Go Abs

/- 23 waymark/waymarkref1.Ends: slots 0 g, 1 edge, 2 g, 3 edge, 7 l -/
def sc_waymarkref1_Ends : SCode :=
 (.seq (.reg [0, 1] [⟨(some 2), none, .box 24 (.tmp 0)⟩, ⟨(some 4), none, .mv (.const (.int .i64 0))⟩, ⟨(some 5), none, .mv (.const (.int .i64 0))⟩, ⟨(some 6), none, .mv (.const (.bool false))⟩])
 (.seq (.seq (.reg [1, 2] [⟨(some 8), none, .mv (.tmp 1)⟩, ⟨(some 9), none, .bin .lss 3 (.tmp 8) (.const (.int .i64 0))⟩, ⟨(some 10), none, .mv (.tmp 9)⟩, ⟨(some 11), (some (10, false)), .mv (.tmp 1)⟩, ⟨(some 12), (some (10, false)), .bin .quo 3 (.tmp 11) (.const (.int .i64 2))⟩, ⟨(some 13), (some (10, false)), .fld 1 (.tmp 2)⟩, ⟨(some 14), (some (10, false)), .load 1 false (.tmp 13)⟩, ⟨(some 15), (some (10, false)), .len false (.tmp 14)⟩, ⟨(some 16), (some (10, false)), .bin .geq 3 (.tmp 12) (.tmp 15)⟩, ⟨(some 17), none, .pick (.tmp 10) (.const (.bool true)) (.tmp 16)⟩])
 (.cond (.tmp 17) (.seq (.reg [] [⟨(some 4), none, .mv (.const (.int .i64 0))⟩, ⟨(some 5), none, .mv (.const (.int .i64 0))⟩, ⟨(some 6), none, .mv (.const (.bool false))⟩])
 .ret) .skip))
 (.seq (.reg [1, 2] [⟨(some 18), none, .fld 1 (.tmp 2)⟩, ⟨(some 19), none, .load 1 false (.tmp 18)⟩, ⟨(some 20), none, .mv (.tmp 1)⟩, ⟨(some 21), none, .bin .quo 3 (.tmp 20) (.const (.int .i64 2))⟩, ⟨(some 22), none, .ia none 4 (.tmp 19) (.tmp 21)⟩, ⟨(some 23), none, .load 4 true (.tmp 22)⟩, ⟨(some 7), none, .alloc 41 [(.int .i64 0), (.int .i64 0), (.int .i64 0), (.int .i64 0)]⟩, ⟨none, none, .store 4 (.tmp 7) (.tmp 23)⟩])
 (.seq (.seq (.reg [1, 7] [⟨(some 24), none, .mv (.tmp 1)⟩, ⟨(some 25), none, .bin .rem 3 (.tmp 24) (.const (.int .i64 2))⟩, ⟨(some 26), none, .bin .eql 3 (.tmp 25) (.const (.int .i64 1))⟩])
 (.cond (.tmp 26) (.seq (.draw [7] [⟨(some 27), none, .fld 1 (.tmp 7)⟩, ⟨(some 28), none, .load 1 false (.tmp 27)⟩, ⟨(some 29), none, .fld 0 (.tmp 7)⟩, ⟨(some 30), none, .load 1 false (.tmp 29)⟩, ⟨(some 4), none, .mv (.tmp 28)⟩, ⟨(some 5), none, .mv (.tmp 30)⟩, ⟨(some 6), none, .mv (.const (.bool true))⟩])
 .ret) .skip))
 (.seq (.draw [7] [⟨(some 31), none, .fld 0 (.tmp 7)⟩, ⟨(some 32), none, .load 1 false (.tmp 31)⟩, ⟨(some 33), none, .fld 1 (.tmp 7)⟩, ⟨(some 34), none, .load 1 false (.tmp 33)⟩, ⟨(some 4), none, .mv (.tmp 32)⟩, ⟨(some 5), none, .mv (.tmp 34)⟩, ⟨(some 6), none, .mv (.const (.bool true))⟩])
 .ret)))))
theorem fn_waymarkref1_Ends : FnOk Try.prog 23 Try.f23 sc_waymarkref1_Ends [.tmp 4, .tmp 5, .tmp 6] 2 := ⟨Try.func23, by kernel_rfl, by kernel_rfl, by kernel_rfl, by kernel_rfl, by kernel_rfl, by kernel_rfl⟩

/- 24 waymark/waymarklaw6.num: slots 0 e, 1 e -/
def sc_waymarklaw6_num : SCode :=
 (.seq (.reg [0] [⟨(some 2), none, .mv (.const (.int .i64 0))⟩])
 (.seq (.reg [0] [⟨(some 3), none, .mv (.tmp 0)⟩, ⟨(some 2), none, .mv (.tmp 3)⟩])
 .ret))
theorem fn_waymarklaw6_num : FnOk Try.prog 24 Try.f24 sc_waymarklaw6_num [.tmp 2] 1 := ⟨Try.func24, by kernel_rfl, by kernel_rfl, by kernel_rfl, by kernel_rfl, by kernel_rfl, by kernel_rfl⟩

/- loop of waymark/waymarkref1.SameInts, wants [0, 1, 5] [] -/
def sc_waymarkref1_SameInts_L0 : SCode :=
 (.seq (.seq (.reg [0, 1, 5] [⟨(some 11), none, .mv (.tmp 5)⟩, ⟨(some 12), none, .mv (.tmp 0)⟩, ⟨(some 13), none, .len false (.tmp 12)⟩, ⟨(some 14), none, .bin .lss 3 (.tmp 11) (.tmp 13)⟩])
 (.cond (.tmp 14) .skip (.exit 0)))
 (.seq (.block 1 (.seq (.draw [0, 1, 5] [⟨(some 17), none, .mv (.tmp 0)⟩, ⟨(some 18), none, .mv (.tmp 5)⟩, ⟨(some 19), none, .ia none 1 (.tmp 17) (.tmp 18)⟩, ⟨(some 20), none, .load 1 false (.tmp 19)⟩, ⟨(some 21), none, .mv (.tmp 1)⟩, ⟨(some 22), none, .mv (.tmp 5)⟩, ⟨(some 23), none, .ia none 1 (.tmp 21) (.tmp 22)⟩, ⟨(some 24), none, .load 1 false (.tmp 23)⟩, ⟨(some 25), none, .bin .neq 3 (.tmp 20) (.tmp 24)⟩])
 (.cond (.tmp 25) (.seq (.reg [] [⟨(some 4), none, .mv (.const (.bool false))⟩])
 .ret) .skip)))
 (.reg [0, 1, 5] [⟨(some 15), none, .mv (.tmp 5)⟩, ⟨(some 16), none, .bin .add 3 (.tmp 15) (.const (.int .i64 1))⟩, ⟨(some 5), none, .mv (.tmp 16)⟩])))
/- 25 waymark/waymarkref1.SameInts: slots 0 a, 1 b, 2 a, 3 b, 5 i -/
def sc_waymarkref1_SameInts : SCode :=
 (.seq (.reg [0, 1] [⟨(some 4), none, .mv (.const (.bool false))⟩])
 (.seq (.seq (.reg [0, 1] [⟨(some 6), none, .mv (.tmp 0)⟩, ⟨(some 7), none, .len false (.tmp 6)⟩, ⟨(some 8), none, .mv (.tmp 1)⟩, ⟨(some 9), none, .len false (.tmp 8)⟩, ⟨(some 10), none, .bin .neq 3 (.tmp 7) (.tmp 9)⟩])
 (.cond (.tmp 10) (.seq (.reg [] [⟨(some 4), none, .mv (.const (.bool false))⟩])
 .ret) .skip))
 (.seq (.seq (.reg [0, 1] [⟨(some 5), none, .mv (.const (.int .i64 0))⟩])
 (.block 0 (.loop [0, 1, 5] [] sc_waymarkref1_SameInts_L0)))
 (.seq (.reg [] [⟨(some 4), none, .mv (.const (.bool true))⟩])
 .ret))))
theorem fn_waymarkref1_SameInts : FnOk Try.prog 25 Try.f25 sc_waymarkref1_SameInts [.tmp 4] 2 := ⟨Try.func25, by kernel_rfl, by kernel_rfl, by kernel_rfl, by kernel_rfl, by kernel_rfl, by kernel_rfl⟩

/- loop of waymark/graph.Out, wants [1, 2, 5, 13, 14] [(5, 30, 3, 1)] -/
def sc_graph_Out_L0 : SCode :=
 (.seq (.reg [1, 2, 5, 13, 14] [⟨(some 15), none, .bin .lss 3 (.tmp 14) (.tmp 13)⟩])
 (.seq (.cond (.tmp 15) .skip (.exit 0))
 (.seq (.block 1 (.seq (.reg [1, 2, 5, 13, 14] [⟨(some 16), none, .mv (.tmp 14)⟩, ⟨(some 6), none, .mv (.tmp 16)⟩])
 (.seq (.reg [1, 2, 5, 6, 13, 14] [⟨(some 18), none, .load 2 true (.tmp 2)⟩, ⟨(some 19), none, .mv (.tmp 6)⟩, ⟨(some 20), none, .call 22 [(.tmp 18), (.tmp 19)]⟩, ⟨(some 17), none, .mv (.tmp 20)⟩, ⟨(some 21), none, .ext (.tmp 17) 0⟩, ⟨(some 22), none, .ext (.tmp 17) 1⟩, ⟨(some 23), none, .ext (.tmp 17) 2⟩, ⟨(some 7), none, .mv (.tmp 21)⟩, ⟨(some 8), none, .mv (.tmp 22)⟩, ⟨(some 9), none, .mv (.tmp 23)⟩])
 (.seq (.reg [1, 2, 5, 6, 7, 13, 14] [⟨(some 24), none, .mv (.tmp 7)⟩, ⟨(some 25), none, .mv (.tmp 1)⟩, ⟨(some 26), none, .bin .eql 3 (.tmp 24) (.tmp 25)⟩])
 (.cond (.tmp 26) (.reg [1, 2, 5, 6, 13, 14] [⟨(some 27), none, .mv (.tmp 5)⟩, ⟨(some 28), none, .mv (.tmp 6)⟩, ⟨(some 29), none, .bsl 3 1 [(.int .i64 0)] 1 [(0, 1, (.tmp 28))]⟩, ⟨(some 30), none, .app 35 3 1 8 (.int .i64 0) (.tmp 27) (.tmp 29)⟩, ⟨(some 5), none, .mv (.tmp 30)⟩]) .skip)))))
 (.reg [1, 2, 5, 13, 14] [⟨(some 31), none, .bin .add 3 (.tmp 14) (.const (.int .i64 1))⟩, ⟨(some 14), none, .mv (.tmp 31)⟩]))))
/- 26 waymark/graph.Out: slots 0 g, 1 node, 2 g, 3 node, 5 out, 6 edge, 7 from, 8 _, 9 _ -/
def sc_graph_Out : SCode :=
 (.seq (.reg [0, 1] [⟨(some 2), none, .box 24 (.tmp 0)⟩, ⟨(some 4), none, .mv (.const (.slice none 0 0))⟩])
 (.seq (.reg [1, 2] [⟨(some 5), none, .mv (.const (.slice none 0 0))⟩])
 (.seq (.seq (.reg [1, 2, 5] [⟨(some 10), none, .fld 1 (.tmp 2)⟩, ⟨(some 11), none, .load 1 false (.tmp 10)⟩, ⟨(some 12), none, .len false (.tmp 11)⟩, ⟨(some 13), none, .bin .mul 3 (.const (.int .i64 2)) (.tmp 12)⟩, ⟨(some 14), none, .mv (.const (.int .i64 0))⟩])
 (.block 0 (.loop [1, 2, 5, 13, 14] [(5, 30, 3, 1)] sc_graph_Out_L0)))
 (.seq (.reg [5] [⟨(some 32), none, .mv (.tmp 5)⟩, ⟨(some 4), none, .mv (.tmp 32)⟩])
 .ret))))
theorem fn_graph_Out : FnOk Try.prog 26 Try.f26 sc_graph_Out [.tmp 4] 2 := ⟨Try.func26, by kernel_rfl, by kernel_rfl, by kernel_rfl, by kernel_rfl, by kernel_rfl, by kernel_rfl⟩

/- loop of waymark/waymarkref1.Out, wants [1, 2, 5, 6] [(5, 31, 3, 1)] -/
def sc_waymarkref1_Out_L0 : SCode :=
 (.seq (.seq (.reg [1, 2, 5, 6] [⟨(some 10), none, .mv (.tmp 6)⟩, ⟨(some 11), none, .fld 1 (.tmp 2)⟩, ⟨(some 12), none, .load 1 false (.tmp 11)⟩, ⟨(some 13), none, .len false (.tmp 12)⟩, ⟨(some 14), none, .bin .mul 3 (.const (.int .i64 2)) (.tmp 13)⟩, ⟨(some 15), none, .bin .lss 3 (.tmp 10) (.tmp 14)⟩])
 (.cond (.tmp 15) .skip (.exit 0)))
 (.seq (.block 1 (.seq (.reg [1, 2, 5, 6] [⟨(some 19), none, .load 2 true (.tmp 2)⟩, ⟨(some 20), none, .mv (.tmp 6)⟩, ⟨(some 21), none, .call 23 [(.tmp 19), (.tmp 20)]⟩, ⟨(some 18), none, .mv (.tmp 21)⟩, ⟨(some 22), none, .ext (.tmp 18) 0⟩, ⟨(some 23), none, .ext (.tmp 18) 1⟩, ⟨(some 24), none, .ext (.tmp 18) 2⟩, ⟨(some 7), none, .mv (.tmp 22)⟩, ⟨(some 8), none, .mv (.tmp 23)⟩, ⟨(some 9), none, .mv (.tmp 24)⟩])
 (.seq (.reg [1, 2, 5, 6, 7] [⟨(some 25), none, .mv (.tmp 7)⟩, ⟨(some 26), none, .mv (.tmp 1)⟩, ⟨(some 27), none, .bin .eql 3 (.tmp 25) (.tmp 26)⟩])
 (.cond (.tmp 27) (.reg [1, 2, 5, 6] [⟨(some 28), none, .mv (.tmp 5)⟩, ⟨(some 29), none, .mv (.tmp 6)⟩, ⟨(some 30), none, .bsl 3 1 [(.int .i64 0)] 1 [(0, 1, (.tmp 29))]⟩, ⟨(some 31), none, .app 35 3 1 8 (.int .i64 0) (.tmp 28) (.tmp 30)⟩, ⟨(some 5), none, .mv (.tmp 31)⟩]) .skip))))
 (.reg [1, 2, 5, 6] [⟨(some 16), none, .mv (.tmp 6)⟩, ⟨(some 17), none, .bin .add 3 (.tmp 16) (.const (.int .i64 1))⟩, ⟨(some 6), none, .mv (.tmp 17)⟩])))
/- 27 waymark/waymarkref1.Out: slots 0 g, 1 node, 2 g, 3 node, 5 out, 6 e, 7 a, 8 _, 9 _ -/
def sc_waymarkref1_Out : SCode :=
 (.seq (.reg [0, 1] [⟨(some 2), none, .box 24 (.tmp 0)⟩, ⟨(some 4), none, .mv (.const (.slice none 0 0))⟩])
 (.seq (.reg [1, 2] [⟨(some 5), none, .mv (.const (.slice none 0 0))⟩])
 (.seq (.seq (.reg [1, 2, 5] [⟨(some 6), none, .mv (.const (.int .i64 0))⟩])
 (.block 0 (.loop [1, 2, 5, 6] [(5, 31, 3, 1)] sc_waymarkref1_Out_L0)))
 (.seq (.reg [5] [⟨(some 32), none, .mv (.tmp 5)⟩, ⟨(some 4), none, .mv (.tmp 32)⟩])
 .ret))))
theorem fn_waymarkref1_Out : FnOk Try.prog 27 Try.f27 sc_waymarkref1_Out [.tmp 4] 2 := ⟨Try.func27, by kernel_rfl, by kernel_rfl, by kernel_rfl, by kernel_rfl, by kernel_rfl, by kernel_rfl⟩

/- 28 waymark/graph.Back: slots 0 edge, 1 edge -/
def sc_graph_Back : SCode :=
 (.seq (.reg [0] [⟨(some 2), none, .mv (.const (.int .i64 0))⟩])
 (.seq (.seq (.reg [0] [⟨(some 3), none, .mv (.tmp 0)⟩, ⟨(some 4), none, .bin .lss 3 (.tmp 3) (.const (.int .i64 0))⟩])
 (.cond (.tmp 4) (.seq (.reg [] [⟨(some 2), none, .mv (.const (.int .i64 (-1)))⟩])
 .ret) .skip))
 (.seq (.reg [0] [⟨(some 5), none, .mv (.tmp 0)⟩, ⟨(some 6), none, .bin .xor 3 (.tmp 5) (.const (.int .i64 1))⟩, ⟨(some 2), none, .mv (.tmp 6)⟩])
 .ret)))
theorem fn_graph_Back : FnOk Try.prog 28 Try.f28 sc_graph_Back [.tmp 2] 1 := ⟨Try.func28, by kernel_rfl, by kernel_rfl, by kernel_rfl, by kernel_rfl, by kernel_rfl, by kernel_rfl⟩

/- 29 waymark/waymarkref1.Back: slots 0 edge, 1 edge -/
def sc_waymarkref1_Back : SCode :=
 (.seq (.reg [0] [⟨(some 2), none, .mv (.const (.int .i64 0))⟩])
 (.seq (.block 0 (.seq (.reg [0] [⟨(some 4), none, .mv (.tmp 0)⟩, ⟨(some 5), none, .bin .lss 3 (.tmp 4) (.const (.int .i64 0))⟩, ⟨(some 3), none, .mv (.tmp 5)⟩])
 (.cond (.tmp 3) (.seq (.reg [] [⟨(some 2), none, .mv (.const (.int .i64 (-1)))⟩])
 .ret) (.seq (.reg [0] [⟨(some 7), none, .mv (.tmp 0)⟩, ⟨(some 8), none, .bin .rem 3 (.tmp 7) (.const (.int .i64 2))⟩, ⟨(some 9), none, .bin .eql 3 (.tmp 8) (.const (.int .i64 1))⟩, ⟨(some 6), none, .mv (.tmp 9)⟩])
 (.cond (.tmp 6) (.seq (.reg [0] [⟨(some 10), none, .mv (.tmp 0)⟩, ⟨(some 11), none, .bin .sub 3 (.tmp 10) (.const (.int .i64 1))⟩, ⟨(some 2), none, .mv (.tmp 11)⟩])
 .ret) .skip)))))
 (.seq (.reg [0] [⟨(some 12), none, .mv (.tmp 0)⟩, ⟨(some 13), none, .bin .add 3 (.tmp 12) (.const (.int .i64 1))⟩, ⟨(some 2), none, .mv (.tmp 13)⟩])
 .ret)))
theorem fn_waymarkref1_Back : FnOk Try.prog 29 Try.f29 sc_waymarkref1_Back [.tmp 2] 1 := ⟨Try.func29, by kernel_rfl, by kernel_rfl, by kernel_rfl, by kernel_rfl, by kernel_rfl, by kernel_rfl⟩

/- 30 waymark/waymarklaw12.alive: slots 1 l, 2 at, 3 e, 4 m, 5 _, 6 f -/
def sc_waymarklaw12_alive : SCode :=
 (.seq (.reg [] [⟨(some 0), none, .mv (.const (.bool false))⟩])
 (.seq (.reg [] [⟨(some 8), none, .call 32 [(.const (.string ⟨#[]⟩))]⟩, ⟨(some 7), none, .mv (.tmp 8)⟩, ⟨(some 9), none, .ext (.tmp 7) 0⟩, ⟨(some 10), none, .ext (.tmp 7) 1⟩, ⟨(some 11), none, .ext (.tmp 7) 2⟩, ⟨(some 1), none, .mv (.tmp 9)⟩, ⟨(some 2), none, .mv (.tmp 10)⟩, ⟨(some 3), none, .mv (.tmp 11)⟩])
 (.seq (.reg [1, 2, 3] [⟨(some 13), none, .call 32 [(.const (.string ⟨#[97, 98, 32, 51, 59]⟩))]⟩, ⟨(some 12), none, .mv (.tmp 13)⟩, ⟨(some 14), none, .ext (.tmp 12) 0⟩, ⟨(some 15), none, .ext (.tmp 12) 1⟩, ⟨(some 16), none, .ext (.tmp 12) 2⟩, ⟨(some 4), none, .mv (.tmp 14)⟩, ⟨(some 5), none, .mv (.tmp 15)⟩, ⟨(some 6), none, .mv (.tmp 16)⟩])
 (.seq (.reg [1, 2, 3, 4, 6] [⟨(some 17), none, .mv (.tmp 1)⟩, ⟨(some 18), none, .len false (.tmp 17)⟩, ⟨(some 19), none, .bin .eql 3 (.tmp 18) (.const (.int .i64 0))⟩, ⟨(some 20), none, .mv (.tmp 19)⟩, ⟨(some 21), (some (20, true)), .mv (.tmp 2)⟩, ⟨(some 22), (some (20, true)), .bin .eql 3 (.tmp 21) (.const (.int .i64 (-1)))⟩, ⟨(some 23), none, .pick (.tmp 20) (.tmp 22) (.const (.bool false))⟩, ⟨(some 24), none, .mv (.tmp 23)⟩, ⟨(some 25), (some (24, true)), .mv (.tmp 3)⟩, ⟨(some 26), (some (24, true)), .call 33 [(.tmp 25)]⟩, ⟨(some 27), (some (24, true)), .bin .eql 3 (.tmp 26) (.const (.int .i64 0))⟩, ⟨(some 28), none, .pick (.tmp 24) (.tmp 27) (.const (.bool false))⟩, ⟨(some 29), none, .mv (.tmp 28)⟩, ⟨(some 30), (some (29, true)), .mv (.tmp 6)⟩, ⟨(some 31), (some (29, true)), .call 33 [(.tmp 30)]⟩, ⟨(some 32), (some (29, true)), .bin .eql 3 (.tmp 31) (.const (.int .i64 0))⟩, ⟨(some 33), none, .pick (.tmp 29) (.tmp 32) (.const (.bool false))⟩, ⟨(some 34), none, .mv (.tmp 33)⟩, ⟨(some 35), (some (34, true)), .mv (.tmp 4)⟩, ⟨(some 36), (some (34, true)), .len false (.tmp 35)⟩, ⟨(some 37), (some (34, true)), .bin .eql 3 (.tmp 36) (.const (.int .i64 3))⟩, ⟨(some 38), none, .pick (.tmp 34) (.tmp 37) (.const (.bool false))⟩, ⟨(some 39), none, .mv (.tmp 38)⟩, ⟨(some 40), (some (39, true)), .mv (.tmp 4)⟩, ⟨(some 41), (some (39, true)), .ia none 3 (.tmp 40) (.const (.int .i64 0))⟩, ⟨(some 42), (some (39, true)), .fld 2 (.tmp 41)⟩, ⟨(some 43), (some (39, true)), .load 1 false (.tmp 42)⟩, ⟨(some 44), (some (39, true)), .bin .eql 9 (.tmp 43) (.const (.string ⟨#[97, 98]⟩))⟩, ⟨(some 45), none, .pick (.tmp 39) (.tmp 44) (.const (.bool false))⟩, ⟨(some 0), none, .mv (.tmp 45)⟩])
 .ret))))
theorem fn_waymarklaw12_alive : FnOk Try.prog 30 Try.f30 sc_waymarklaw12_alive [.tmp 0] 0 := ⟨Try.func30, by kernel_rfl, by kernel_rfl, by kernel_rfl, by kernel_rfl, by kernel_rfl, by kernel_rfl⟩

/- loop of waymark/waymarkref11.Split, wants [0, 5, 6, 8] [] -/
def sc_waymarkref11_Split_L0 : SCode :=
 (.seq (.seq (.reg [0, 5, 6, 8] [⟨(some 84), none, .mv (.tmp 6)⟩, ⟨(some 85), none, .mv (.tmp 0)⟩, ⟨(some 86), none, .len true (.tmp 85)⟩, ⟨(some 87), none, .bin .lss 3 (.tmp 84) (.tmp 86)⟩, ⟨(some 88), none, .mv (.tmp 87)⟩, ⟨(some 89), (some (88, true)), .mv (.tmp 0)⟩, ⟨(some 90), (some (88, true)), .mv (.tmp 6)⟩, ⟨(some 91), (some (88, true)), .ixs (.tmp 89) (.tmp 90)⟩, ⟨(some 92), (some (88, true)), .call 60 [(.tmp 91)]⟩, ⟨(some 93), (some (88, true)), .mv (.tmp 92)⟩, ⟨(some 94), (some (93, false)), .mv (.tmp 0)⟩, ⟨(some 95), (some (93, false)), .mv (.tmp 6)⟩, ⟨(some 96), (some (93, false)), .ixs (.tmp 94) (.tmp 95)⟩, ⟨(some 97), (some (93, false)), .bin .eql 5 (.tmp 96) (.const (.int .u8 46))⟩, ⟨(some 98), (some (88, true)), .pick (.tmp 93) (.const (.bool true)) (.tmp 97)⟩, ⟨(some 99), (some (88, true)), .mv (.tmp 98)⟩, ⟨(some 100), (some (99, false)), .mv (.tmp 0)⟩, ⟨(some 101), (some (99, false)), .mv (.tmp 6)⟩, ⟨(some 102), (some (99, false)), .ixs (.tmp 100) (.tmp 101)⟩, ⟨(some 103), (some (99, false)), .bin .eql 5 (.tmp 102) (.const (.int .u8 47))⟩, ⟨(some 104), (some (88, true)), .pick (.tmp 99) (.const (.bool true)) (.tmp 103)⟩, ⟨(some 105), none, .pick (.tmp 88) (.tmp 104) (.const (.bool false))⟩])
 (.cond (.tmp 105) .skip (.exit 7)))
 (.block 8 (.reg [0, 5, 6, 8] [⟨(some 106), none, .mv (.tmp 6)⟩, ⟨(some 107), none, .bin .add 3 (.tmp 106) (.const (.int .i64 1))⟩, ⟨(some 6), none, .mv (.tmp 107)⟩])))
/- loop of waymark/waymarkref11.Split, wants [0, 5, 6, 8] [] -/
def sc_waymarkref11_Split_L1 : SCode :=
 (.seq (.seq (.reg [0, 5, 6, 8] [⟨(some 48), none, .mv (.tmp 6)⟩, ⟨(some 49), none, .mv (.tmp 0)⟩, ⟨(some 50), none, .len true (.tmp 49)⟩, ⟨(some 51), none, .bin .lss 3 (.tmp 48) (.tmp 50)⟩, ⟨(some 52), none, .mv (.tmp 51)⟩, ⟨(some 53), (some (52, true)), .mv (.tmp 0)⟩, ⟨(some 54), (some (52, true)), .mv (.tmp 6)⟩, ⟨(some 55), (some (52, true)), .ixs (.tmp 53) (.tmp 54)⟩, ⟨(some 56), (some (52, true)), .call 59 [(.tmp 55)]⟩, ⟨(some 57), (some (52, true)), .mv (.tmp 56)⟩, ⟨(some 58), (some (57, false)), .mv (.tmp 0)⟩, ⟨(some 59), (some (57, false)), .mv (.tmp 6)⟩, ⟨(some 60), (some (57, false)), .ixs (.tmp 58) (.tmp 59)⟩, ⟨(some 61), (some (57, false)), .call 60 [(.tmp 60)]⟩, ⟨(some 62), (some (52, true)), .pick (.tmp 57) (.const (.bool true)) (.tmp 61)⟩, ⟨(some 63), (some (52, true)), .mv (.tmp 62)⟩, ⟨(some 64), (some (63, false)), .mv (.tmp 0)⟩, ⟨(some 65), (some (63, false)), .mv (.tmp 6)⟩, ⟨(some 66), (some (63, false)), .ixs (.tmp 64) (.tmp 65)⟩, ⟨(some 67), (some (63, false)), .bin .eql 5 (.tmp 66) (.const (.int .u8 45))⟩, ⟨(some 68), (some (52, true)), .pick (.tmp 63) (.const (.bool true)) (.tmp 67)⟩, ⟨(some 69), none, .pick (.tmp 52) (.tmp 68) (.const (.bool false))⟩])
 (.cond (.tmp 69) .skip (.exit 5)))
 (.block 6 (.reg [0, 5, 6, 8] [⟨(some 70), none, .mv (.tmp 6)⟩, ⟨(some 71), none, .bin .add 3 (.tmp 70) (.const (.int .i64 1))⟩, ⟨(some 6), none, .mv (.tmp 71)⟩])))
/- loop of waymark/waymarkref11.Split, wants [0, 5, 6] [] -/
def sc_waymarkref11_Split_L2 : SCode :=
 (.seq (.seq (.reg [0, 5, 6] [⟨(some 33), none, .mv (.tmp 6)⟩, ⟨(some 34), none, .mv (.tmp 0)⟩, ⟨(some 35), none, .len true (.tmp 34)⟩, ⟨(some 36), none, .bin .lss 3 (.tmp 33) (.tmp 35)⟩, ⟨(some 37), none, .mv (.tmp 36)⟩, ⟨(some 38), (some (37, true)), .mv (.tmp 0)⟩, ⟨(some 39), (some (37, true)), .mv (.tmp 6)⟩, ⟨(some 40), (some (37, true)), .ixs (.tmp 38) (.tmp 39)⟩, ⟨(some 41), (some (37, true)), .bin .neq 5 (.tmp 40) (.const (.int .u8 10))⟩, ⟨(some 42), none, .pick (.tmp 37) (.tmp 41) (.const (.bool false))⟩])
 (.cond (.tmp 42) .skip (.exit 3)))
 (.block 4 (.reg [0, 5, 6] [⟨(some 43), none, .mv (.tmp 6)⟩, ⟨(some 44), none, .bin .add 3 (.tmp 43) (.const (.int .i64 1))⟩, ⟨(some 6), none, .mv (.tmp 44)⟩])))
/- loop of waymark/waymarkref11.Split, wants [0, 5, 6] [(5, 80, 50, 3)] -/
def sc_waymarkref11_Split_L3 : SCode :=
 (.seq (.seq (.reg [0, 5, 6] [⟨(some 12), none, .mv (.tmp 6)⟩, ⟨(some 13), none, .mv (.tmp 0)⟩, ⟨(some 14), none, .len true (.tmp 13)⟩, ⟨(some 15), none, .bin .lss 3 (.tmp 12) (.tmp 14)⟩])
 (.cond (.tmp 15) .skip (.exit 0)))
 (.block 1 (.seq (.reg [0, 5, 6] [⟨(some 16), none, .mv (.tmp 0)⟩, ⟨(some 17), none, .mv (.tmp 6)⟩, ⟨(some 18), none, .ixs (.tmp 16) (.tmp 17)⟩, ⟨(some 7), none, .mv (.tmp 18)⟩])
 (.seq (.reg [0, 5, 6, 7] [⟨(some 19), none, .mv (.tmp 6)⟩, ⟨(some 8), none, .mv (.tmp 19)⟩])
 (.block 2 (.seq (.reg [0, 5, 6, 7, 8] [⟨(some 22), none, .mv (.tmp 7)⟩, ⟨(some 23), none, .bin .eql 5 (.tmp 22) (.const (.int .u8 32))⟩, ⟨(some 24), none, .mv (.tmp 23)⟩, ⟨(some 25), (some (24, false)), .mv (.tmp 7)⟩, ⟨(some 26), (some (24, false)), .bin .eql 5 (.tmp 25) (.const (.int .u8 10))⟩, ⟨(some 27), none, .pick (.tmp 24) (.const (.bool true)) (.tmp 26)⟩, ⟨(some 21), none, .mv (.tmp 27)⟩])
 (.cond (.tmp 21) (.reg [0, 5, 6] [⟨(some 28), none, .mv (.tmp 6)⟩, ⟨(some 29), none, .bin .add 3 (.tmp 28) (.const (.int .i64 1))⟩, ⟨(some 6), none, .mv (.tmp 29)⟩]) (.seq (.reg [0, 5, 6, 7, 8] [⟨(some 31), none, .mv (.tmp 7)⟩, ⟨(some 32), none, .bin .eql 5 (.tmp 31) (.const (.int .u8 35))⟩, ⟨(some 30), none, .mv (.tmp 32)⟩])
 (.cond (.tmp 30) (.block 3 (.loop [0, 5, 6] [] sc_waymarkref11_Split_L2)) (.seq (.reg [0, 5, 6, 7, 8] [⟨(some 46), none, .mv (.tmp 7)⟩, ⟨(some 47), none, .call 59 [(.tmp 46)]⟩, ⟨(some 45), none, .mv (.tmp 47)⟩])
 (.cond (.tmp 45) (.seq (.block 5 (.loop [0, 5, 6, 8] [] sc_waymarkref11_Split_L1))
 (.reg [0, 5, 6, 8] [⟨(some 72), none, .mv (.tmp 5)⟩, ⟨(some 73), none, .mv (.tmp 8)⟩, ⟨(some 74), none, .mv (.tmp 0)⟩, ⟨(some 75), none, .mv (.tmp 8)⟩, ⟨(some 76), none, .mv (.tmp 6)⟩, ⟨(some 77), none, .slc none (.tmp 74) (some (.tmp 75)) (some (.tmp 76)) none⟩, ⟨(some 78), none, .build [(.int .i64 0), (.int .i64 0), (.string ⟨#[]⟩)] [(0, 1, (.const (.int .i64 1))), (1, 1, (.tmp 73)), (2, 1, (.tmp 77))]⟩, ⟨(some 79), none, .bsl 50 3 [(.int .i64 0), (.int .i64 0), (.string ⟨#[]⟩)] 1 [(0, 3, (.tmp 78))]⟩, ⟨(some 80), none, .app 46 50 3 32 (.agg #[(.int .i64 0), (.int .i64 0), (.string ⟨#[]⟩)]) (.tmp 72) (.tmp 79)⟩, ⟨(some 5), none, .mv (.tmp 80)⟩])) (.seq (.reg [0, 5, 6, 7, 8] [⟨(some 82), none, .mv (.tmp 7)⟩, ⟨(some 83), none, .call 60 [(.tmp 82)]⟩, ⟨(some 81), none, .mv (.tmp 83)⟩])
 (.cond (.tmp 81) (.seq (.block 7 (.loop [0, 5, 6, 8] [] sc_waymarkref11_Split_L0))
 (.reg [0, 5, 6, 8] [⟨(some 108), none, .mv (.tmp 5)⟩, ⟨(some 109), none, .mv (.tmp 8)⟩, ⟨(some 110), none, .mv (.tmp 0)⟩, ⟨(some 111), none, .mv (.tmp 8)⟩, ⟨(some 112), none, .mv (.tmp 6)⟩, ⟨(some 113), none, .slc none (.tmp 110) (some (.tmp 111)) (some (.tmp 112)) none⟩, ⟨(some 114), none, .build [(.int .i64 0), (.int .i64 0), (.string ⟨#[]⟩)] [(0, 1, (.const (.int .i64 2))), (1, 1, (.tmp 109)), (2, 1, (.tmp 113))]⟩, ⟨(some 115), none, .bsl 50 3 [(.int .i64 0), (.int .i64 0), (.string ⟨#[]⟩)] 1 [(0, 3, (.tmp 114))]⟩, ⟨(some 116), none, .app 46 50 3 32 (.agg #[(.int .i64 0), (.int .i64 0), (.string ⟨#[]⟩)]) (.tmp 108) (.tmp 115)⟩, ⟨(some 5), none, .mv (.tmp 116)⟩])) (.seq (.reg [0, 5, 6, 7, 8] [⟨(some 118), none, .mv (.tmp 7)⟩, ⟨(some 119), none, .bin .eql 5 (.tmp 118) (.const (.int .u8 59))⟩, ⟨(some 117), none, .mv (.tmp 119)⟩])
 (.cond (.tmp 117) (.seq (.reg [0, 5, 6, 8] [⟨(some 120), none, .mv (.tmp 6)⟩, ⟨(some 121), none, .bin .add 3 (.tmp 120) (.const (.int .i64 1))⟩, ⟨(some 6), none, .mv (.tmp 121)⟩])
 (.reg [0, 5, 6, 8] [⟨(some 122), none, .mv (.tmp 5)⟩, ⟨(some 123), none, .mv (.tmp 8)⟩, ⟨(some 124), none, .build [(.int .i64 0), (.int .i64 0), (.string ⟨#[]⟩)] [(0, 1, (.const (.int .i64 3))), (1, 1, (.tmp 123)), (2, 1, (.const (.string ⟨#[59]⟩)))]⟩, ⟨(some 125), none, .bsl 50 3 [(.int .i64 0), (.int .i64 0), (.string ⟨#[]⟩)] 1 [(0, 3, (.tmp 124))]⟩, ⟨(some 126), none, .app 46 50 3 32 (.agg #[(.int .i64 0), (.int .i64 0), (.string ⟨#[]⟩)]) (.tmp 122) (.tmp 125)⟩, ⟨(some 5), none, .mv (.tmp 126)⟩])) (.seq (.reg [6] [⟨(some 20), none, .mv (.tmp 6)⟩, ⟨(some 2), none, .mv (.const (.slice none 0 0))⟩, ⟨(some 3), none, .mv (.tmp 20)⟩, ⟨(some 4), none, .mv (.const (.int .i64 3))⟩])
 .ret))))))))))))))))
/- 31 waymark/waymarkref11.Split: slots 0 s, 1 s, 5 l, 6 i, 7 c, 8 k -/
def sc_waymarkref11_Split : SCode :=
 (.seq (.reg [0] [⟨(some 2), none, .mv (.const (.slice none 0 0))⟩, ⟨(some 3), none, .mv (.const (.int .i64 0))⟩, ⟨(some 4), none, .mv (.const (.int .i64 0))⟩])
 (.seq (.seq (.reg [0] [⟨(some 9), none, .mv (.tmp 0)⟩, ⟨(some 10), none, .len true (.tmp 9)⟩, ⟨(some 11), none, .bin .gtr 3 (.tmp 10) (.const (.int .i64 10000))⟩])
 (.cond (.tmp 11) (.seq (.reg [] [⟨(some 2), none, .mv (.const (.slice none 0 0))⟩, ⟨(some 3), none, .mv (.const (.int .i64 0))⟩, ⟨(some 4), none, .mv (.const (.int .i64 6))⟩])
 .ret) .skip))
 (.seq (.reg [0] [⟨(some 5), none, .mv (.const (.slice none 0 0))⟩])
 (.seq (.reg [0, 5] [⟨(some 6), none, .mv (.const (.int .i64 0))⟩])
 (.seq (.block 0 (.loop [0, 5, 6] [(5, 80, 50, 3)] sc_waymarkref11_Split_L3))
 (.seq (.reg [5] [⟨(some 127), none, .mv (.tmp 5)⟩, ⟨(some 2), none, .mv (.tmp 127)⟩, ⟨(some 3), none, .mv (.const (.int .i64 (-1)))⟩, ⟨(some 4), none, .mv (.const (.int .i64 0))⟩])
 .ret))))))
theorem fn_waymarkref11_Split : FnOk Try.prog 31 Try.f31 sc_waymarkref11_Split [.tmp 2, .tmp 3, .tmp 4] 1 := ⟨Try.func31, by kernel_rfl, by kernel_rfl, by kernel_rfl, by kernel_rfl, by kernel_rfl, by kernel_rfl⟩

/- 32 waymark/words.Split: slots 0 s, 1 s, 5 out, 6 at, 7 from -/
def sc_words_Split : SCode :=
 (.seq (.reg [] [⟨(some 2), none, .mv (.const (.slice none 0 0))⟩, ⟨(some 3), none, .mv (.const (.int .i64 0))⟩, ⟨(some 4), none, .mv (.const (.int .i64 0))⟩])
 (.scope (.seq (.reg [] [⟨(some 5), none, .mv (.const (.slice none 0 0))⟩])
 (.seq (.reg [] [⟨(some 6), none, .mv (.const (.int .i64 0))⟩, ⟨(some 7), none, .mv (.const (.int .i64 0))⟩])
 (.seq (.seq (.reg [] [⟨(some 8), none, .mv (.tmp 0)⟩, ⟨(some 9), none, .len true (.tmp 8)⟩, ⟨(some 10), none, .bin .gtr 3 (.tmp 9) (.const (.int .i64 10000))⟩])
 (.cond (.tmp 10) (.seq (.reg [] [⟨(some 2), none, .mv (.const (.slice none 0 0))⟩, ⟨(some 3), none, .mv (.const (.int .i64 0))⟩, ⟨(some 4), none, .mv (.const (.int .i64 6))⟩])
 .ret) .skip))
 (.seq (.label 0)
 (.seq (.reg [] [⟨(some 11), none, .mv (.tmp 6)⟩, ⟨(some 7), none, .mv (.tmp 11)⟩])
 (.seq (.block 0 (.seq (.reg [] [⟨(some 13), none, .mv (.tmp 6)⟩, ⟨(some 14), none, .mv (.tmp 0)⟩, ⟨(some 15), none, .len true (.tmp 14)⟩, ⟨(some 16), none, .bin .eql 3 (.tmp 13) (.tmp 15)⟩, ⟨(some 12), none, .mv (.tmp 16)⟩])
 (.cond (.tmp 12) (.seq (.reg [] [⟨(some 17), none, .mv (.tmp 5)⟩, ⟨(some 2), none, .mv (.tmp 17)⟩, ⟨(some 3), none, .mv (.const (.int .i64 (-1)))⟩, ⟨(some 4), none, .mv (.const (.int .i64 0))⟩])
 .ret) (.seq (.reg [] [⟨(some 19), none, .mv (.tmp 0)⟩, ⟨(some 20), none, .mv (.tmp 6)⟩, ⟨(some 21), none, .ixs (.tmp 19) (.tmp 20)⟩, ⟨(some 22), none, .bin .eql 5 (.tmp 21) (.const (.int .u8 32))⟩, ⟨(some 23), none, .mv (.tmp 22)⟩, ⟨(some 24), (some (23, false)), .mv (.tmp 0)⟩, ⟨(some 25), (some (23, false)), .mv (.tmp 6)⟩, ⟨(some 26), (some (23, false)), .ixs (.tmp 24) (.tmp 25)⟩, ⟨(some 27), (some (23, false)), .bin .eql 5 (.tmp 26) (.const (.int .u8 10))⟩, ⟨(some 28), none, .pick (.tmp 23) (.const (.bool true)) (.tmp 27)⟩, ⟨(some 18), none, .mv (.tmp 28)⟩])
 (.cond (.tmp 18) (.seq (.reg [] [⟨(some 29), none, .mv (.tmp 6)⟩, ⟨(some 30), none, .bin .add 3 (.tmp 29) (.const (.int .i64 1))⟩, ⟨(some 6), none, .mv (.tmp 30)⟩])
 (.goto 0)) (.seq (.reg [] [⟨(some 32), none, .mv (.tmp 0)⟩, ⟨(some 33), none, .mv (.tmp 6)⟩, ⟨(some 34), none, .ixs (.tmp 32) (.tmp 33)⟩, ⟨(some 35), none, .bin .eql 5 (.tmp 34) (.const (.int .u8 35))⟩, ⟨(some 31), none, .mv (.tmp 35)⟩])
 (.cond (.tmp 31) (.goto 1) (.seq (.reg [] [⟨(some 37), none, .mv (.tmp 0)⟩, ⟨(some 38), none, .mv (.tmp 6)⟩, ⟨(some 39), none, .ixs (.tmp 37) (.tmp 38)⟩, ⟨(some 40), none, .call 61 [(.tmp 39)]⟩, ⟨(some 36), none, .mv (.tmp 40)⟩])
 (.cond (.tmp 36) (.goto 2) (.seq (.reg [] [⟨(some 42), none, .mv (.tmp 0)⟩, ⟨(some 43), none, .mv (.tmp 6)⟩, ⟨(some 44), none, .ixs (.tmp 42) (.tmp 43)⟩, ⟨(some 45), none, .call 62 [(.tmp 44)]⟩, ⟨(some 41), none, .mv (.tmp 45)⟩])
 (.cond (.tmp 41) (.goto 3) (.seq (.reg [] [⟨(some 47), none, .mv (.tmp 0)⟩, ⟨(some 48), none, .mv (.tmp 6)⟩, ⟨(some 49), none, .ixs (.tmp 47) (.tmp 48)⟩, ⟨(some 50), none, .bin .eql 5 (.tmp 49) (.const (.int .u8 59))⟩, ⟨(some 46), none, .mv (.tmp 50)⟩])
 (.cond (.tmp 46) (.seq (.reg [] [⟨(some 51), none, .mv (.tmp 6)⟩, ⟨(some 52), none, .bin .add 3 (.tmp 51) (.const (.int .i64 1))⟩, ⟨(some 6), none, .mv (.tmp 52)⟩])
 (.seq (.reg [] [⟨(some 53), none, .mv (.tmp 5)⟩, ⟨(some 54), none, .mv (.tmp 7)⟩, ⟨(some 55), none, .mv (.tmp 0)⟩, ⟨(some 56), none, .mv (.tmp 7)⟩, ⟨(some 57), none, .mv (.tmp 6)⟩, ⟨(some 58), none, .slc none (.tmp 55) (some (.tmp 56)) (some (.tmp 57)) none⟩, ⟨(some 59), none, .build [(.int .i64 0), (.int .i64 0), (.string ⟨#[]⟩)] [(0, 1, (.const (.int .i64 3))), (1, 1, (.tmp 54)), (2, 1, (.tmp 58))]⟩, ⟨(some 60), none, .bsl 50 3 [(.int .i64 0), (.int .i64 0), (.string ⟨#[]⟩)] 1 [(0, 3, (.tmp 59))]⟩, ⟨(some 61), none, .app 46 50 3 32 (.agg #[(.int .i64 0), (.int .i64 0), (.string ⟨#[]⟩)]) (.tmp 53) (.tmp 60)⟩, ⟨(some 5), none, .mv (.tmp 61)⟩])
 (.goto 0))) .skip)))))))))))))
 (.seq (.seq (.reg [] [⟨(some 62), none, .mv (.tmp 6)⟩, ⟨(some 2), none, .mv (.const (.slice none 0 0))⟩, ⟨(some 3), none, .mv (.tmp 62)⟩, ⟨(some 4), none, .mv (.const (.int .i64 3))⟩])
 .ret)
 (.seq (.label 1)
 (.seq (.seq (.reg [] [⟨(some 63), none, .mv (.tmp 6)⟩, ⟨(some 64), none, .mv (.tmp 0)⟩, ⟨(some 65), none, .len true (.tmp 64)⟩, ⟨(some 66), none, .bin .lss 3 (.tmp 63) (.tmp 65)⟩, ⟨(some 67), none, .mv (.tmp 66)⟩, ⟨(some 68), (some (67, true)), .mv (.tmp 0)⟩, ⟨(some 69), (some (67, true)), .mv (.tmp 6)⟩, ⟨(some 70), (some (67, true)), .ixs (.tmp 68) (.tmp 69)⟩, ⟨(some 71), (some (67, true)), .bin .neq 5 (.tmp 70) (.const (.int .u8 10))⟩, ⟨(some 72), none, .pick (.tmp 67) (.tmp 71) (.const (.bool false))⟩])
 (.cond (.tmp 72) (.seq (.reg [] [⟨(some 73), none, .mv (.tmp 6)⟩, ⟨(some 74), none, .bin .add 3 (.tmp 73) (.const (.int .i64 1))⟩, ⟨(some 6), none, .mv (.tmp 74)⟩])
 (.goto 1)) .skip))
 (.seq (.goto 0)
 (.seq (.label 2)
 (.seq (.seq (.reg [] [⟨(some 75), none, .mv (.tmp 6)⟩, ⟨(some 76), none, .mv (.tmp 0)⟩, ⟨(some 77), none, .len true (.tmp 76)⟩, ⟨(some 78), none, .bin .lss 3 (.tmp 75) (.tmp 77)⟩, ⟨(some 79), none, .mv (.tmp 78)⟩, ⟨(some 80), (some (79, true)), .mv (.tmp 0)⟩, ⟨(some 81), (some (79, true)), .mv (.tmp 6)⟩, ⟨(some 82), (some (79, true)), .ixs (.tmp 80) (.tmp 81)⟩, ⟨(some 83), (some (79, true)), .call 63 [(.tmp 82)]⟩, ⟨(some 84), none, .pick (.tmp 79) (.tmp 83) (.const (.bool false))⟩])
 (.cond (.tmp 84) (.seq (.reg [] [⟨(some 85), none, .mv (.tmp 6)⟩, ⟨(some 86), none, .bin .add 3 (.tmp 85) (.const (.int .i64 1))⟩, ⟨(some 6), none, .mv (.tmp 86)⟩])
 (.goto 2)) .skip))
 (.seq (.reg [] [⟨(some 87), none, .mv (.tmp 5)⟩, ⟨(some 88), none, .mv (.tmp 7)⟩, ⟨(some 89), none, .mv (.tmp 0)⟩, ⟨(some 90), none, .mv (.tmp 7)⟩, ⟨(some 91), none, .mv (.tmp 6)⟩, ⟨(some 92), none, .slc none (.tmp 89) (some (.tmp 90)) (some (.tmp 91)) none⟩, ⟨(some 93), none, .build [(.int .i64 0), (.int .i64 0), (.string ⟨#[]⟩)] [(0, 1, (.const (.int .i64 1))), (1, 1, (.tmp 88)), (2, 1, (.tmp 92))]⟩, ⟨(some 94), none, .bsl 50 3 [(.int .i64 0), (.int .i64 0), (.string ⟨#[]⟩)] 1 [(0, 3, (.tmp 93))]⟩, ⟨(some 95), none, .app 46 50 3 32 (.agg #[(.int .i64 0), (.int .i64 0), (.string ⟨#[]⟩)]) (.tmp 87) (.tmp 94)⟩, ⟨(some 5), none, .mv (.tmp 95)⟩])
 (.seq (.goto 0)
 (.seq (.label 3)
 (.seq (.seq (.reg [] [⟨(some 96), none, .mv (.tmp 6)⟩, ⟨(some 97), none, .mv (.tmp 0)⟩, ⟨(some 98), none, .len true (.tmp 97)⟩, ⟨(some 99), none, .bin .lss 3 (.tmp 96) (.tmp 98)⟩, ⟨(some 100), none, .mv (.tmp 99)⟩, ⟨(some 101), (some (100, true)), .mv (.tmp 0)⟩, ⟨(some 102), (some (100, true)), .mv (.tmp 6)⟩, ⟨(some 103), (some (100, true)), .ixs (.tmp 101) (.tmp 102)⟩, ⟨(some 104), (some (100, true)), .call 64 [(.tmp 103)]⟩, ⟨(some 105), none, .pick (.tmp 100) (.tmp 104) (.const (.bool false))⟩])
 (.cond (.tmp 105) (.seq (.reg [] [⟨(some 106), none, .mv (.tmp 6)⟩, ⟨(some 107), none, .bin .add 3 (.tmp 106) (.const (.int .i64 1))⟩, ⟨(some 6), none, .mv (.tmp 107)⟩])
 (.goto 3)) .skip))
 (.seq (.reg [] [⟨(some 108), none, .mv (.tmp 5)⟩, ⟨(some 109), none, .mv (.tmp 7)⟩, ⟨(some 110), none, .mv (.tmp 0)⟩, ⟨(some 111), none, .mv (.tmp 7)⟩, ⟨(some 112), none, .mv (.tmp 6)⟩, ⟨(some 113), none, .slc none (.tmp 110) (some (.tmp 111)) (some (.tmp 112)) none⟩, ⟨(some 114), none, .build [(.int .i64 0), (.int .i64 0), (.string ⟨#[]⟩)] [(0, 1, (.const (.int .i64 2))), (1, 1, (.tmp 109)), (2, 1, (.tmp 113))]⟩, ⟨(some 115), none, .bsl 50 3 [(.int .i64 0), (.int .i64 0), (.string ⟨#[]⟩)] 1 [(0, 3, (.tmp 114))]⟩, ⟨(some 116), none, .app 46 50 3 32 (.agg #[(.int .i64 0), (.int .i64 0), (.string ⟨#[]⟩)]) (.tmp 108) (.tmp 115)⟩, ⟨(some 5), none, .mv (.tmp 116)⟩])
 (.goto 0))))))))))))))))))))
theorem fn_words_Split : FnOk Try.prog 32 Try.f32 sc_words_Split [.tmp 2, .tmp 3, .tmp 4] 1 := ⟨Try.func32, by kernel_rfl, by kernel_rfl, by kernel_rfl, by kernel_rfl, by kernel_rfl, by kernel_rfl⟩

/- 33 waymark/waymarklaw12.num: slots 0 e, 1 e -/
def sc_waymarklaw12_num : SCode :=
 (.seq (.reg [0] [⟨(some 2), none, .mv (.const (.int .i64 0))⟩])
 (.seq (.reg [0] [⟨(some 3), none, .mv (.tmp 0)⟩, ⟨(some 2), none, .mv (.tmp 3)⟩])
 .ret))
theorem fn_waymarklaw12_num : FnOk Try.prog 33 Try.f33 sc_waymarklaw12_num [.tmp 2] 1 := ⟨Try.func33, by kernel_rfl, by kernel_rfl, by kernel_rfl, by kernel_rfl, by kernel_rfl, by kernel_rfl⟩

/- 34 waymark/waymarklaw8.alive: slots 1 g, 2 d -/
def sc_waymarklaw8_alive : SCode :=
 (.seq (.reg [] [⟨(some 0), none, .mv (.const (.bool false))⟩])
 (.seq (.reg [] [⟨(some 3), none, .build [(.int .i64 0), (.int .i64 0), (.int .i64 0), (.int .i64 0)] [(1, 1, (.const (.int .i64 1))), (2, 1, (.const (.int .i64 7))), (3, 1, (.const (.int .i64 3)))]⟩, ⟨(some 4), none, .bsl 41 4 [(.int .i64 0), (.int .i64 0), (.int .i64 0), (.int .i64 0)] 1 [(0, 4, (.tmp 3))]⟩, ⟨(some 5), none, .build [(.int .i64 0), (.slice none 0 0)] [(0, 1, (.const (.int .i64 2))), (1, 1, (.tmp 4))]⟩, ⟨(some 1), none, .alloc 24 [(.int .i64 0), (.slice none 0 0)]⟩, ⟨none, none, .store 2 (.tmp 1) (.tmp 5)⟩])
 (.seq (.reg [1] [⟨(some 6), none, .load 2 true (.tmp 1)⟩, ⟨(some 7), none, .bsl 3 1 [(.int .i64 0)] 1 [(0, 1, (.const (.int .i64 3)))]⟩, ⟨(some 8), none, .build [(.int .i64 0), (.int .i64 0), (.int .i64 0), (.slice none 0 0), (.slice none 0 0), (.slice none 0 0), (.slice none 0 0)] [(1, 1, (.const (.int .i64 1))), (6, 1, (.tmp 7))]⟩, ⟨(some 9), none, .call 40 [(.tmp 6), (.tmp 8), (.const (.slice none 0 0))]⟩, ⟨(some 2), none, .mv (.tmp 9)⟩])
 (.seq (.reg [1, 2] [⟨(some 10), none, .build [(.int .i64 0), (.slice none 0 0)] [(0, 1, (.const (.int .i64 1)))]⟩, ⟨(some 11), none, .build [(.int .i64 0), (.int .i64 0), (.int .i64 0), (.slice none 0 0), (.slice none 0 0), (.slice none 0 0), (.slice none 0 0)] []⟩, ⟨(some 12), none, .call 40 [(.tmp 10), (.tmp 11), (.const (.slice none 0 0))]⟩, ⟨(some 13), none, .len false (.tmp 12)⟩, ⟨(some 14), none, .bin .eql 3 (.tmp 13) (.const (.int .i64 0))⟩, ⟨(some 15), none, .mv (.tmp 14)⟩, ⟨(some 16), (some (15, true)), .mv (.tmp 2)⟩, ⟨(some 17), (some (15, true)), .len false (.tmp 16)⟩, ⟨(some 18), (some (15, true)), .bin .eql 3 (.tmp 17) (.const (.int .i64 1))⟩, ⟨(some 19), none, .pick (.tmp 15) (.tmp 18) (.const (.bool false))⟩, ⟨(some 20), none, .mv (.tmp 19)⟩, ⟨(some 21), (some (20, true)), .mv (.tmp 2)⟩, ⟨(some 22), (some (20, true)), .ia none 1 (.tmp 21) (.const (.int .i64 0))⟩, ⟨(some 23), (some (20, true)), .load 1 false (.tmp 22)⟩, ⟨(some 24), none, .pick (.tmp 20) (.tmp 23) (.const (.bool false))⟩, ⟨(some 25), none, .mv (.tmp 24)⟩, ⟨(some 26), (some (25, true)), .load 2 true (.tmp 1)⟩, ⟨(some 27), (some (25, true)), .build [(.int .i64 0), (.int .i64 0), (.int .i64 0), (.slice none 0 0), (.slice none 0 0), (.slice none 0 0), (.slice none 0 0)] [(1, 1, (.const (.int .i64 1)))]⟩, ⟨(some 28), (some (25, true)), .call 37 [(.tmp 26), (.tmp 27)]⟩, ⟨(some 29), (some (25, true)), .call 36 [(.tmp 28)]⟩, ⟨(some 30), (some (25, true)), .bin .eql 3 (.tmp 29) (.const (.int .i64 0))⟩, ⟨(some 31), none, .pick (.tmp 25) (.tmp 30) (.const (.bool false))⟩, ⟨(some 0), none, .mv (.tmp 31)⟩])
 .ret))))
theorem fn_waymarklaw8_alive : FnOk Try.prog 34 Try.f34 sc_waymarklaw8_alive [.tmp 0] 0 := ⟨Try.func34, by kernel_rfl, by kernel_rfl, by kernel_rfl, by kernel_rfl, by kernel_rfl, by kernel_rfl⟩

/- 35 waymark/waymarklaw8.Few: slots 0 w, 1 w -/
def sc_waymarklaw8_Few : SCode :=
 (.seq (.reg [0] [⟨(some 1), none, .box 57 (.tmp 0)⟩, ⟨(some 2), none, .mv (.const (.bool false))⟩])
 (.seq (.reg [1] [⟨(some 3), none, .fld 3 (.tmp 1)⟩, ⟨(some 4), none, .load 1 false (.tmp 3)⟩, ⟨(some 5), none, .len false (.tmp 4)⟩, ⟨(some 6), none, .bin .leq 3 (.tmp 5) (.const (.int .i64 20))⟩, ⟨(some 7), none, .mv (.tmp 6)⟩, ⟨(some 8), (some (7, true)), .fld 4 (.tmp 1)⟩, ⟨(some 9), (some (7, true)), .load 1 false (.tmp 8)⟩, ⟨(some 10), (some (7, true)), .len false (.tmp 9)⟩, ⟨(some 11), (some (7, true)), .bin .leq 3 (.tmp 10) (.const (.int .i64 60))⟩, ⟨(some 12), none, .pick (.tmp 7) (.tmp 11) (.const (.bool false))⟩, ⟨(some 13), none, .mv (.tmp 12)⟩, ⟨(some 14), (some (13, true)), .fld 5 (.tmp 1)⟩, ⟨(some 15), (some (13, true)), .load 1 false (.tmp 14)⟩, ⟨(some 16), (some (13, true)), .len false (.tmp 15)⟩, ⟨(some 17), (some (13, true)), .bin .leq 3 (.tmp 16) (.const (.int .i64 60))⟩, ⟨(some 18), none, .pick (.tmp 13) (.tmp 17) (.const (.bool false))⟩, ⟨(some 19), none, .mv (.tmp 18)⟩, ⟨(some 20), (some (19, true)), .fld 6 (.tmp 1)⟩, ⟨(some 21), (some (19, true)), .load 1 false (.tmp 20)⟩, ⟨(some 22), (some (19, true)), .len false (.tmp 21)⟩, ⟨(some 23), (some (19, true)), .bin .leq 3 (.tmp 22) (.const (.int .i64 60))⟩, ⟨(some 24), none, .pick (.tmp 19) (.tmp 23) (.const (.bool false))⟩, ⟨(some 2), none, .mv (.tmp 24)⟩])
 .ret))
theorem fn_waymarklaw8_Few : FnOk Try.prog 35 Try.f35 sc_waymarklaw8_Few [.tmp 2] 1 := ⟨Try.func35, by kernel_rfl, by kernel_rfl, by kernel_rfl, by kernel_rfl, by kernel_rfl, by kernel_rfl⟩

/- 36 waymark/waymarklaw8.num: slots 0 e, 1 e -/
def sc_waymarklaw8_num : SCode :=
 (.seq (.reg [0] [⟨(some 2), none, .mv (.const (.int .i64 0))⟩])
 (.seq (.reg [0] [⟨(some 3), none, .mv (.tmp 0)⟩, ⟨(some 2), none, .mv (.tmp 3)⟩])
 .ret))
theorem fn_waymarklaw8_num : FnOk Try.prog 36 Try.f36 sc_waymarklaw8_num [.tmp 2] 1 := ⟨Try.func36, by kernel_rfl, by kernel_rfl, by kernel_rfl, by kernel_rfl, by kernel_rfl, by kernel_rfl⟩

/- 37 waymark/prune.Right: slots 0 g, 1 w, 2 g, 3 w, 5 _, 6 e, 7 noNode, 8 noLink, 9 noColour -/
def sc_prune_Right : SCode :=
 (.seq (.reg [0, 1] [⟨(some 2), none, .box 24 (.tmp 0)⟩, ⟨(some 3), none, .box 57 (.tmp 1)⟩, ⟨(some 4), none, .mv (.const (.int .i64 0))⟩])
 (.seq (.seq (.reg [2, 3] [⟨(some 11), none, .load 2 true (.tmp 2)⟩, ⟨(some 12), none, .call 20 [(.tmp 11)]⟩, ⟨(some 10), none, .mv (.tmp 12)⟩, ⟨(some 13), none, .ext (.tmp 10) 0⟩, ⟨(some 14), none, .ext (.tmp 10) 1⟩, ⟨(some 5), none, .mv (.tmp 13)⟩, ⟨(some 6), none, .mv (.tmp 14)⟩])
 (.seq (.reg [2, 3, 6] [⟨(some 15), none, .mv (.tmp 6)⟩, ⟨(some 16), none, .bin .neq 26 (.tmp 15) (.const (.int .i64 0))⟩])
 (.cond (.tmp 16) (.seq (.reg [6] [⟨(some 17), none, .mv (.tmp 6)⟩, ⟨(some 4), none, .mv (.tmp 17)⟩])
 .ret) .skip)))
 (.seq (.reg [2, 3] [⟨(some 18), none, .mkfn (.func 65) [] [(.tmp 2)]⟩, ⟨(some 7), none, .mv (.tmp 18)⟩])
 (.seq (.reg [2, 3, 7] [⟨(some 19), none, .mkfn (.func 67) [] [(.tmp 2)]⟩, ⟨(some 8), none, .mv (.tmp 19)⟩])
 (.seq (.reg [3, 7, 8] [⟨(some 9), none, .mv (.func 68)⟩])
 (.seq (.block 0 (.seq (.reg [3, 7, 8, 9] [⟨(some 21), none, .mv (.tmp 7)⟩, ⟨(some 22), none, .fld 0 (.tmp 3)⟩, ⟨(some 23), none, .load 1 false (.tmp 22)⟩, ⟨(some 24), none, .cald (.tmp 21) [(.tmp 23)]⟩, ⟨(some 25), none, .mv (.tmp 24)⟩, ⟨(some 26), (some (25, false)), .mv (.tmp 7)⟩, ⟨(some 27), (some (25, false)), .fld 1 (.tmp 3)⟩, ⟨(some 28), (some (25, false)), .load 1 false (.tmp 27)⟩, ⟨(some 29), (some (25, false)), .cald (.tmp 26) [(.tmp 28)]⟩, ⟨(some 30), none, .pick (.tmp 25) (.const (.bool true)) (.tmp 29)⟩, ⟨(some 31), none, .mv (.tmp 30)⟩, ⟨(some 32), (some (31, false)), .fld 3 (.tmp 3)⟩, ⟨(some 33), (some (31, false)), .load 1 false (.tmp 32)⟩, ⟨(some 34), (some (31, false)), .mv (.tmp 7)⟩, ⟨(some 35), (some (31, false)), .call 69 [(.tmp 33), (.tmp 34)]⟩, ⟨(some 36), none, .pick (.tmp 31) (.const (.bool true)) (.tmp 35)⟩, ⟨(some 37), none, .mv (.tmp 36)⟩, ⟨(some 38), (some (37, false)), .fld 4 (.tmp 3)⟩, ⟨(some 39), (some (37, false)), .load 1 false (.tmp 38)⟩, ⟨(some 40), (some (37, false)), .mv (.tmp 7)⟩, ⟨(some 41), (some (37, false)), .call 69 [(.tmp 39), (.tmp 40)]⟩, ⟨(some 42), none, .pick (.tmp 37) (.const (.bool true)) (.tmp 41)⟩, ⟨(some 20), none, .mv (.tmp 42)⟩])
 (.cond (.tmp 20) (.seq (.reg [] [⟨(some 4), none, .mv (.const (.int .i64 4))⟩])
 .ret) (.seq (.reg [3, 8, 9] [⟨(some 44), none, .fld 5 (.tmp 3)⟩, ⟨(some 45), none, .load 1 false (.tmp 44)⟩, ⟨(some 46), none, .mv (.tmp 8)⟩, ⟨(some 47), none, .call 69 [(.tmp 45), (.tmp 46)]⟩, ⟨(some 43), none, .mv (.tmp 47)⟩])
 (.cond (.tmp 43) (.seq (.reg [] [⟨(some 4), none, .mv (.const (.int .i64 5))⟩])
 .ret) (.seq (.reg [3, 9] [⟨(some 49), none, .fld 6 (.tmp 3)⟩, ⟨(some 50), none, .load 1 false (.tmp 49)⟩, ⟨(some 51), none, .mv (.tmp 9)⟩, ⟨(some 52), none, .call 69 [(.tmp 50), (.tmp 51)]⟩, ⟨(some 53), none, .mv (.tmp 52)⟩, ⟨(some 54), (some (53, false)), .fld 2 (.tmp 3)⟩, ⟨(some 55), (some (53, false)), .load 1 false (.tmp 54)⟩, ⟨(some 56), (some (53, false)), .bin .lss 3 (.tmp 55) (.const (.int .i64 0))⟩, ⟨(some 57), none, .pick (.tmp 53) (.const (.bool true)) (.tmp 56)⟩, ⟨(some 48), none, .mv (.tmp 57)⟩])
 (.cond (.tmp 48) (.seq (.reg [] [⟨(some 4), none, .mv (.const (.int .i64 1))⟩])
 .ret) (.seq (.reg [3] [⟨(some 59), none, .fld 3 (.tmp 3)⟩, ⟨(some 60), none, .load 1 false (.tmp 59)⟩, ⟨(some 61), none, .len false (.tmp 60)⟩, ⟨(some 62), none, .bin .gtr 3 (.tmp 61) (.const (.int .i64 4))⟩, ⟨(some 58), none, .mv (.tmp 62)⟩])
 (.cond (.tmp 58) (.seq (.reg [] [⟨(some 4), none, .mv (.const (.int .i64 6))⟩])
 .ret) .skip)))))))))
 (.seq (.reg [] [⟨(some 4), none, .mv (.const (.int .i64 0))⟩])
 .ret)))))))
theorem fn_prune_Right : FnOk Try.prog 37 Try.f37 sc_prune_Right [.tmp 4] 2 := ⟨Try.func37, by kernel_rfl, by kernel_rfl, by kernel_rfl, by kernel_rfl, by kernel_rfl, by kernel_rfl⟩

/- loop of waymark/waymarkref1.RightWant, wants [3, 11] [] -/
def sc_waymarkref1_RightWant_L0 : SCode :=
 (.seq (.seq (.reg [3, 11] [⟨(some 93), none, .mv (.tmp 11)⟩, ⟨(some 94), none, .fld 6 (.tmp 3)⟩, ⟨(some 95), none, .load 1 false (.tmp 94)⟩, ⟨(some 96), none, .len false (.tmp 95)⟩, ⟨(some 97), none, .bin .lss 3 (.tmp 93) (.tmp 96)⟩])
 (.cond (.tmp 97) .skip (.exit 6)))
 (.seq (.block 7 (.seq (.reg [3, 11] [⟨(some 100), none, .fld 6 (.tmp 3)⟩, ⟨(some 101), none, .load 1 false (.tmp 100)⟩, ⟨(some 102), none, .mv (.tmp 11)⟩, ⟨(some 103), none, .ia none 1 (.tmp 101) (.tmp 102)⟩, ⟨(some 104), none, .load 1 false (.tmp 103)⟩, ⟨(some 105), none, .bin .lss 3 (.tmp 104) (.const (.int .i64 0))⟩, ⟨(some 106), none, .mv (.tmp 105)⟩, ⟨(some 107), (some (106, false)), .fld 6 (.tmp 3)⟩, ⟨(some 108), (some (106, false)), .load 1 false (.tmp 107)⟩, ⟨(some 109), (some (106, false)), .mv (.tmp 11)⟩, ⟨(some 110), (some (106, false)), .ia none 1 (.tmp 108) (.tmp 109)⟩, ⟨(some 111), (some (106, false)), .load 1 false (.tmp 110)⟩, ⟨(some 112), (some (106, false)), .bin .gtr 3 (.tmp 111) (.const (.int .i64 62))⟩, ⟨(some 113), none, .pick (.tmp 106) (.const (.bool true)) (.tmp 112)⟩])
 (.cond (.tmp 113) (.seq (.reg [] [⟨(some 4), none, .mv (.const (.int .i64 1))⟩])
 .ret) .skip)))
 (.reg [3, 11] [⟨(some 98), none, .mv (.tmp 11)⟩, ⟨(some 99), none, .bin .add 3 (.tmp 98) (.const (.int .i64 1))⟩, ⟨(some 11), none, .mv (.tmp 99)⟩])))
/- loop of waymark/waymarkref1.RightWant, wants [2, 3, 10] [] -/
def sc_waymarkref1_RightWant_L1 : SCode :=
 (.seq (.seq (.reg [2, 3, 10] [⟨(some 69), none, .mv (.tmp 10)⟩, ⟨(some 70), none, .fld 5 (.tmp 3)⟩, ⟨(some 71), none, .load 1 false (.tmp 70)⟩, ⟨(some 72), none, .len false (.tmp 71)⟩, ⟨(some 73), none, .bin .lss 3 (.tmp 69) (.tmp 72)⟩])
 (.cond (.tmp 73) .skip (.exit 4)))
 (.seq (.block 5 (.seq (.draw [2, 3, 10] [⟨(some 76), none, .fld 5 (.tmp 3)⟩, ⟨(some 77), none, .load 1 false (.tmp 76)⟩, ⟨(some 78), none, .mv (.tmp 10)⟩, ⟨(some 79), none, .ia none 1 (.tmp 77) (.tmp 78)⟩, ⟨(some 80), none, .load 1 false (.tmp 79)⟩, ⟨(some 81), none, .bin .lss 3 (.tmp 80) (.const (.int .i64 0))⟩, ⟨(some 82), none, .mv (.tmp 81)⟩, ⟨(some 83), (some (82, false)), .fld 5 (.tmp 3)⟩, ⟨(some 84), (some (82, false)), .load 1 false (.tmp 83)⟩, ⟨(some 85), (some (82, false)), .mv (.tmp 10)⟩, ⟨(some 86), (some (82, false)), .ia none 1 (.tmp 84) (.tmp 85)⟩, ⟨(some 87), (some (82, false)), .load 1 false (.tmp 86)⟩, ⟨(some 88), (some (82, false)), .fld 1 (.tmp 2)⟩, ⟨(some 89), (some (82, false)), .load 1 false (.tmp 88)⟩, ⟨(some 90), (some (82, false)), .len false (.tmp 89)⟩, ⟨(some 91), (some (82, false)), .bin .geq 3 (.tmp 87) (.tmp 90)⟩, ⟨(some 92), none, .pick (.tmp 82) (.const (.bool true)) (.tmp 91)⟩])
 (.cond (.tmp 92) (.seq (.reg [] [⟨(some 4), none, .mv (.const (.int .i64 5))⟩])
 .ret) .skip)))
 (.reg [2, 3, 10] [⟨(some 74), none, .mv (.tmp 10)⟩, ⟨(some 75), none, .bin .add 3 (.tmp 74) (.const (.int .i64 1))⟩, ⟨(some 10), none, .mv (.tmp 75)⟩])))
/- loop of waymark/waymarkref1.RightWant, wants [2, 3, 7, 9] [] -/
def sc_waymarkref1_RightWant_L2 : SCode :=
 (.seq (.seq (.reg [2, 3, 7, 9] [⟨(some 50), none, .mv (.tmp 9)⟩, ⟨(some 51), none, .fld 4 (.tmp 3)⟩, ⟨(some 52), none, .load 1 false (.tmp 51)⟩, ⟨(some 53), none, .len false (.tmp 52)⟩, ⟨(some 54), none, .bin .lss 3 (.tmp 50) (.tmp 53)⟩])
 (.cond (.tmp 54) .skip (.exit 2)))
 (.seq (.block 3 (.draw [2, 3, 7, 9] [⟨(some 57), none, .mv (.tmp 7)⟩, ⟨(some 58), none, .mv (.tmp 57)⟩, ⟨(some 59), (some (58, false)), .load 2 true (.tmp 2)⟩, ⟨(some 60), (some (58, false)), .fld 4 (.tmp 3)⟩, ⟨(some 61), (some (58, false)), .load 1 false (.tmp 60)⟩, ⟨(some 62), (some (58, false)), .mv (.tmp 9)⟩, ⟨(some 63), (some (58, false)), .ia none 1 (.tmp 61) (.tmp 62)⟩, ⟨(some 64), (some (58, false)), .load 1 false (.tmp 63)⟩, ⟨(some 65), (some (58, false)), .call 70 [(.tmp 59), (.tmp 64)]⟩, ⟨(some 66), (some (58, false)), .un .not (.tmp 65)⟩, ⟨(some 67), none, .pick (.tmp 58) (.const (.bool true)) (.tmp 66)⟩, ⟨(some 7), none, .mv (.tmp 67)⟩]))
 (.reg [2, 3, 7, 9] [⟨(some 55), none, .mv (.tmp 9)⟩, ⟨(some 56), none, .bin .add 3 (.tmp 55) (.const (.int .i64 1))⟩, ⟨(some 9), none, .mv (.tmp 56)⟩])))
/- loop of waymark/waymarkref1.RightWant, wants [2, 3, 7, 8] [] -/
def sc_waymarkref1_RightWant_L3 : SCode :=
 (.seq (.seq (.reg [2, 3, 7, 8] [⟨(some 32), none, .mv (.tmp 8)⟩, ⟨(some 33), none, .fld 3 (.tmp 3)⟩, ⟨(some 34), none, .load 1 false (.tmp 33)⟩, ⟨(some 35), none, .len false (.tmp 34)⟩, ⟨(some 36), none, .bin .lss 3 (.tmp 32) (.tmp 35)⟩])
 (.cond (.tmp 36) .skip (.exit 0)))
 (.seq (.block 1 (.draw [2, 3, 7, 8] [⟨(some 39), none, .mv (.tmp 7)⟩, ⟨(some 40), none, .mv (.tmp 39)⟩, ⟨(some 41), (some (40, false)), .load 2 true (.tmp 2)⟩, ⟨(some 42), (some (40, false)), .fld 3 (.tmp 3)⟩, ⟨(some 43), (some (40, false)), .load 1 false (.tmp 42)⟩, ⟨(some 44), (some (40, false)), .mv (.tmp 8)⟩, ⟨(some 45), (some (40, false)), .ia none 1 (.tmp 43) (.tmp 44)⟩, ⟨(some 46), (some (40, false)), .load 1 false (.tmp 45)⟩, ⟨(some 47), (some (40, false)), .call 70 [(.tmp 41), (.tmp 46)]⟩, ⟨(some 48), (some (40, false)), .un .not (.tmp 47)⟩, ⟨(some 49), none, .pick (.tmp 40) (.const (.bool true)) (.tmp 48)⟩, ⟨(some 7), none, .mv (.tmp 49)⟩]))
 (.reg [2, 3, 7, 8] [⟨(some 37), none, .mv (.tmp 8)⟩, ⟨(some 38), none, .bin .add 3 (.tmp 37) (.const (.int .i64 1))⟩, ⟨(some 8), none, .mv (.tmp 38)⟩])))
/- 38 waymark/waymarkref1.RightWant: slots 0 g, 1 w, 2 g, 3 w, 5 _, 6 e, 7 bad, 8 i, 9 i, 10 i, 11 i -/
def sc_waymarkref1_RightWant : SCode :=
 (.seq (.reg [0, 1] [⟨(some 2), none, .box 24 (.tmp 0)⟩, ⟨(some 3), none, .box 57 (.tmp 1)⟩, ⟨(some 4), none, .mv (.const (.int .i64 0))⟩])
 (.seq (.reg [2, 3] [⟨(some 13), none, .load 2 true (.tmp 2)⟩, ⟨(some 14), none, .call 21 [(.tmp 13)]⟩, ⟨(some 12), none, .mv (.tmp 14)⟩, ⟨(some 15), none, .ext (.tmp 12) 0⟩, ⟨(some 16), none, .ext (.tmp 12) 1⟩, ⟨(some 5), none, .mv (.tmp 15)⟩, ⟨(some 6), none, .mv (.tmp 16)⟩])
 (.seq (.seq (.reg [2, 3, 6] [⟨(some 17), none, .mv (.tmp 6)⟩, ⟨(some 18), none, .bin .neq 3 (.tmp 17) (.const (.int .i64 0))⟩])
 (.cond (.tmp 18) (.seq (.reg [6] [⟨(some 19), none, .mv (.tmp 6)⟩, ⟨(some 4), none, .mv (.tmp 19)⟩])
 .ret) .skip))
 (.seq (.reg [2, 3] [⟨(some 20), none, .load 2 true (.tmp 2)⟩, ⟨(some 21), none, .fld 0 (.tmp 3)⟩, ⟨(some 22), none, .load 1 false (.tmp 21)⟩, ⟨(some 23), none, .call 70 [(.tmp 20), (.tmp 22)]⟩, ⟨(some 24), none, .un .not (.tmp 23)⟩, ⟨(some 25), none, .mv (.tmp 24)⟩, ⟨(some 26), (some (25, false)), .load 2 true (.tmp 2)⟩, ⟨(some 27), (some (25, false)), .fld 1 (.tmp 3)⟩, ⟨(some 28), (some (25, false)), .load 1 false (.tmp 27)⟩, ⟨(some 29), (some (25, false)), .call 70 [(.tmp 26), (.tmp 28)]⟩, ⟨(some 30), (some (25, false)), .un .not (.tmp 29)⟩, ⟨(some 31), none, .pick (.tmp 25) (.const (.bool true)) (.tmp 30)⟩, ⟨(some 7), none, .mv (.tmp 31)⟩])
 (.seq (.seq (.reg [2, 3, 7] [⟨(some 8), none, .mv (.const (.int .i64 0))⟩])
 (.block 0 (.loop [2, 3, 7, 8] [] sc_waymarkref1_RightWant_L3)))
 (.seq (.seq (.reg [2, 3, 7] [⟨(some 9), none, .mv (.const (.int .i64 0))⟩])
 (.block 2 (.loop [2, 3, 7, 9] [] sc_waymarkref1_RightWant_L2)))
 (.seq (.seq (.reg [2, 3, 7] [⟨(some 68), none, .mv (.tmp 7)⟩])
 (.cond (.tmp 68) (.seq (.reg [] [⟨(some 4), none, .mv (.const (.int .i64 4))⟩])
 .ret) .skip))
 (.seq (.seq (.reg [2, 3] [⟨(some 10), none, .mv (.const (.int .i64 0))⟩])
 (.block 4 (.loop [2, 3, 10] [] sc_waymarkref1_RightWant_L1)))
 (.seq (.seq (.reg [3] [⟨(some 11), none, .mv (.const (.int .i64 0))⟩])
 (.block 6 (.loop [3, 11] [] sc_waymarkref1_RightWant_L0)))
 (.seq (.block 8 (.seq (.reg [3] [⟨(some 115), none, .fld 2 (.tmp 3)⟩, ⟨(some 116), none, .load 1 false (.tmp 115)⟩, ⟨(some 117), none, .bin .lss 3 (.tmp 116) (.const (.int .i64 0))⟩, ⟨(some 114), none, .mv (.tmp 117)⟩])
 (.cond (.tmp 114) (.seq (.reg [] [⟨(some 4), none, .mv (.const (.int .i64 1))⟩])
 .ret) (.seq (.reg [3] [⟨(some 119), none, .fld 3 (.tmp 3)⟩, ⟨(some 120), none, .load 1 false (.tmp 119)⟩, ⟨(some 121), none, .len false (.tmp 120)⟩, ⟨(some 122), none, .bin .gtr 3 (.tmp 121) (.const (.int .i64 4))⟩, ⟨(some 118), none, .mv (.tmp 122)⟩])
 (.cond (.tmp 118) (.seq (.reg [] [⟨(some 4), none, .mv (.const (.int .i64 6))⟩])
 .ret) .skip)))))
 (.seq (.reg [] [⟨(some 4), none, .mv (.const (.int .i64 0))⟩])
 .ret)))))))))))
theorem fn_waymarkref1_RightWant : FnOk Try.prog 38 Try.f38 sc_waymarkref1_RightWant [.tmp 4] 2 := ⟨Try.func38, by kernel_rfl, by kernel_rfl, by kernel_rfl, by kernel_rfl, by kernel_rfl, by kernel_rfl⟩

/- loop of waymark/waymarkref1.SameBools, wants [0, 1, 5] [] -/
def sc_waymarkref1_SameBools_L0 : SCode :=
 (.seq (.seq (.reg [0, 1, 5] [⟨(some 11), none, .mv (.tmp 5)⟩, ⟨(some 12), none, .mv (.tmp 0)⟩, ⟨(some 13), none, .len false (.tmp 12)⟩, ⟨(some 14), none, .bin .lss 3 (.tmp 11) (.tmp 13)⟩])
 (.cond (.tmp 14) .skip (.exit 0)))
 (.seq (.block 1 (.seq (.draw [0, 1, 5] [⟨(some 17), none, .mv (.tmp 0)⟩, ⟨(some 18), none, .mv (.tmp 5)⟩, ⟨(some 19), none, .ia none 1 (.tmp 17) (.tmp 18)⟩, ⟨(some 20), none, .load 1 false (.tmp 19)⟩, ⟨(some 21), none, .mv (.tmp 1)⟩, ⟨(some 22), none, .mv (.tmp 5)⟩, ⟨(some 23), none, .ia none 1 (.tmp 21) (.tmp 22)⟩, ⟨(some 24), none, .load 1 false (.tmp 23)⟩, ⟨(some 25), none, .beq true (.tmp 20) (.tmp 24)⟩])
 (.cond (.tmp 25) (.seq (.reg [] [⟨(some 4), none, .mv (.const (.bool false))⟩])
 .ret) .skip)))
 (.reg [0, 1, 5] [⟨(some 15), none, .mv (.tmp 5)⟩, ⟨(some 16), none, .bin .add 3 (.tmp 15) (.const (.int .i64 1))⟩, ⟨(some 5), none, .mv (.tmp 16)⟩])))
/- 39 waymark/waymarkref1.SameBools: slots 0 a, 1 b, 2 a, 3 b, 5 i -/
def sc_waymarkref1_SameBools : SCode :=
 (.seq (.reg [0, 1] [⟨(some 4), none, .mv (.const (.bool false))⟩])
 (.seq (.seq (.reg [0, 1] [⟨(some 6), none, .mv (.tmp 0)⟩, ⟨(some 7), none, .len false (.tmp 6)⟩, ⟨(some 8), none, .mv (.tmp 1)⟩, ⟨(some 9), none, .len false (.tmp 8)⟩, ⟨(some 10), none, .bin .neq 3 (.tmp 7) (.tmp 9)⟩])
 (.cond (.tmp 10) (.seq (.reg [] [⟨(some 4), none, .mv (.const (.bool false))⟩])
 .ret) .skip))
 (.seq (.seq (.reg [0, 1] [⟨(some 5), none, .mv (.const (.int .i64 0))⟩])
 (.block 0 (.loop [0, 1, 5] [] sc_waymarkref1_SameBools_L0)))
 (.seq (.reg [] [⟨(some 4), none, .mv (.const (.bool true))⟩])
 .ret))))
theorem fn_waymarkref1_SameBools : FnOk Try.prog 39 Try.f39 sc_waymarkref1_SameBools [.tmp 4] 2 := ⟨Try.func39, by kernel_rfl, by kernel_rfl, by kernel_rfl, by kernel_rfl, by kernel_rfl, by kernel_rfl⟩

/- loop of waymark/prune.Down, wants [2, 4, 7, 19, 20, 21] [] -/
def sc_prune_Down_L0 : SCode :=
 (.seq (.reg [2, 4, 7, 19, 20, 21] [⟨(some 22), none, .bin .lss 3 (.tmp 21) (.tmp 20)⟩])
 (.seq (.cond (.tmp 22) .skip (.exit 0))
 (.seq (.block 1 (.seq (.reg [2, 4, 7, 19, 20, 21] [⟨(some 23), none, .mv (.tmp 21)⟩, ⟨(some 24), none, .ia none 4 (.tmp 19) (.tmp 21)⟩, ⟨(some 25), none, .load 4 true (.tmp 24)⟩, ⟨(some 9), none, .alloc 41 [(.int .i64 0), (.int .i64 0), (.int .i64 0), (.int .i64 0)]⟩, ⟨(some 8), none, .mv (.tmp 23)⟩, ⟨none, none, .store 4 (.tmp 9) (.tmp 25)⟩])
 (.reg [2, 4, 7, 8, 9, 19, 20, 21] [⟨(some 26), none, .mv (.tmp 7)⟩, ⟨(some 27), none, .mv (.tmp 8)⟩, ⟨(some 28), none, .mv (.tmp 8)⟩, ⟨(some 29), none, .mv (.tmp 2)⟩, ⟨(some 30), none, .len false (.tmp 29)⟩, ⟨(some 31), none, .bin .lss 3 (.tmp 28) (.tmp 30)⟩, ⟨(some 32), none, .mv (.tmp 31)⟩, ⟨(some 33), (some (32, true)), .mv (.tmp 2)⟩, ⟨(some 34), (some (32, true)), .mv (.tmp 8)⟩, ⟨(some 35), (some (32, true)), .ia none 1 (.tmp 33) (.tmp 34)⟩, ⟨(some 36), (some (32, true)), .load 1 false (.tmp 35)⟩, ⟨(some 37), none, .pick (.tmp 32) (.tmp 36) (.const (.bool false))⟩, ⟨(some 38), none, .mv (.tmp 37)⟩, ⟨(some 39), (some (38, false)), .fld 5 (.tmp 4)⟩, ⟨(some 40), (some (38, false)), .load 1 false (.tmp 39)⟩, ⟨(some 41), (some (38, false)), .mv (.tmp 8)⟩, ⟨(some 42), (some (38, false)), .call 71 [(.tmp 40), (.tmp 41)]⟩, ⟨(some 43), none, .pick (.tmp 38) (.const (.bool true)) (.tmp 42)⟩, ⟨(some 44), none, .mv (.tmp 43)⟩, ⟨(some 45), (some (44, false)), .fld 6 (.tmp 4)⟩, ⟨(some 46), (some (44, false)), .load 1 false (.tmp 45)⟩, ⟨(some 47), (some (44, false)), .fld 3 (.tmp 9)⟩, ⟨(some 48), (some (44, false)), .load 1 false (.tmp 47)⟩, ⟨(some 49), (some (44, false)), .call 71 [(.tmp 46), (.tmp 48)]⟩, ⟨(some 50), none, .pick (.tmp 44) (.const (.bool true)) (.tmp 49)⟩, ⟨(some 51), none, .mv (.tmp 50)⟩, ⟨(some 52), (some (51, false)), .fld 4 (.tmp 4)⟩, ⟨(some 53), (some (51, false)), .load 1 false (.tmp 52)⟩, ⟨(some 54), (some (51, false)), .fld 0 (.tmp 9)⟩, ⟨(some 55), (some (51, false)), .load 1 false (.tmp 54)⟩, ⟨(some 56), (some (51, false)), .call 71 [(.tmp 53), (.tmp 55)]⟩, ⟨(some 57), none, .pick (.tmp 51) (.const (.bool true)) (.tmp 56)⟩, ⟨(some 58), none, .mv (.tmp 57)⟩, ⟨(some 59), (some (58, false)), .fld 4 (.tmp 4)⟩, ⟨(some 60), (some (58, false)), .load 1 false (.tmp 59)⟩, ⟨(some 61), (some (58, false)), .fld 1 (.tmp 9)⟩, ⟨(some 62), (some (58, false)), .load 1 false (.tmp 61)⟩, ⟨(some 63), (some (58, false)), .call 71 [(.tmp 60), (.tmp 62)]⟩, ⟨(some 64), none, .pick (.tmp 58) (.const (.bool true)) (.tmp 63)⟩, ⟨(some 65), none, .ia none 1 (.tmp 26) (.tmp 27)⟩, ⟨none, none, .store 1 (.tmp 65) (.tmp 64)⟩])))
 (.reg [2, 4, 7, 19, 20, 21] [⟨(some 66), none, .bin .add 3 (.tmp 21) (.const (.int .i64 1))⟩, ⟨(some 21), none, .mv (.tmp 66)⟩]))))
/- 40 waymark/prune.Down: slots 0 g, 1 w, 2 down, 3 g, 4 w, 5 down, 7 out, 8 i, 9 l -/
def sc_prune_Down : SCode :=
 (.seq (.reg [0, 1, 2] [⟨(some 3), none, .box 24 (.tmp 0)⟩, ⟨(some 4), none, .box 57 (.tmp 1)⟩, ⟨(some 6), none, .mv (.const (.slice none 0 0))⟩])
 (.seq (.seq (.reg [2, 3, 4] [⟨(some 10), none, .load 2 true (.tmp 3)⟩, ⟨(some 11), none, .load 7 true (.tmp 4)⟩, ⟨(some 12), none, .call 37 [(.tmp 10), (.tmp 11)]⟩, ⟨(some 13), none, .bin .neq 26 (.tmp 12) (.const (.int .i64 0))⟩])
 (.cond (.tmp 13) (.seq (.reg [] [⟨(some 6), none, .mv (.const (.slice none 0 0))⟩])
 .ret) .skip))
 (.seq (.reg [2, 3, 4] [⟨(some 14), none, .fld 1 (.tmp 3)⟩, ⟨(some 15), none, .load 1 false (.tmp 14)⟩, ⟨(some 16), none, .len false (.tmp 15)⟩, ⟨(some 17), none, .mksl 4 1 1 [(.bool false)] (.tmp 16) (.tmp 16)⟩, ⟨(some 7), none, .mv (.tmp 17)⟩])
 (.seq (.seq (.reg [2, 3, 4, 7] [⟨(some 18), none, .fld 1 (.tmp 3)⟩, ⟨(some 19), none, .load 1 false (.tmp 18)⟩, ⟨(some 20), none, .len false (.tmp 19)⟩, ⟨(some 21), none, .mv (.const (.int .i64 0))⟩])
 (.block 0 (.loop [2, 4, 7, 19, 20, 21] [] sc_prune_Down_L0)))
 (.seq (.reg [7] [⟨(some 67), none, .mv (.tmp 7)⟩, ⟨(some 6), none, .mv (.tmp 67)⟩])
 .ret)))))
theorem fn_prune_Down : FnOk Try.prog 40 Try.f40 sc_prune_Down [.tmp 6] 3 := ⟨Try.func40, by kernel_rfl, by kernel_rfl, by kernel_rfl, by kernel_rfl, by kernel_rfl, by kernel_rfl⟩

/- loop of waymark/waymarkref1.Pruned, wants [2, 3, 4, 7, 8] [] -/
def sc_waymarkref1_Pruned_L0 : SCode :=
 (.seq (.seq (.reg [2, 3, 4, 7, 8] [⟨(some 18), none, .mv (.tmp 8)⟩, ⟨(some 19), none, .fld 1 (.tmp 3)⟩, ⟨(some 20), none, .load 1 false (.tmp 19)⟩, ⟨(some 21), none, .len false (.tmp 20)⟩, ⟨(some 22), none, .bin .lss 3 (.tmp 18) (.tmp 21)⟩])
 (.cond (.tmp 22) .skip (.exit 0)))
 (.seq (.block 1 (.seq (.reg [2, 3, 4, 7, 8] [⟨(some 25), none, .fld 1 (.tmp 3)⟩, ⟨(some 26), none, .load 1 false (.tmp 25)⟩, ⟨(some 27), none, .mv (.tmp 8)⟩, ⟨(some 28), none, .ia none 4 (.tmp 26) (.tmp 27)⟩, ⟨(some 29), none, .load 4 true (.tmp 28)⟩, ⟨(some 9), none, .alloc 41 [(.int .i64 0), (.int .i64 0), (.int .i64 0), (.int .i64 0)]⟩, ⟨none, none, .store 4 (.tmp 9) (.tmp 29)⟩])
 (.reg [2, 3, 4, 7, 8, 9] [⟨(some 30), none, .mv (.tmp 7)⟩, ⟨(some 31), none, .mv (.tmp 8)⟩, ⟨(some 32), none, .mv (.tmp 2)⟩, ⟨(some 33), none, .mv (.tmp 8)⟩, ⟨(some 34), none, .call 44 [(.tmp 32), (.tmp 33)]⟩, ⟨(some 35), none, .mv (.tmp 34)⟩, ⟨(some 36), (some (35, false)), .fld 5 (.tmp 4)⟩, ⟨(some 37), (some (35, false)), .load 1 false (.tmp 36)⟩, ⟨(some 38), (some (35, false)), .mv (.tmp 8)⟩, ⟨(some 39), (some (35, false)), .call 72 [(.tmp 37), (.tmp 38)]⟩, ⟨(some 40), none, .pick (.tmp 35) (.const (.bool true)) (.tmp 39)⟩, ⟨(some 41), none, .mv (.tmp 40)⟩, ⟨(some 42), (some (41, false)), .fld 6 (.tmp 4)⟩, ⟨(some 43), (some (41, false)), .load 1 false (.tmp 42)⟩, ⟨(some 44), (some (41, false)), .fld 3 (.tmp 9)⟩, ⟨(some 45), (some (41, false)), .load 1 false (.tmp 44)⟩, ⟨(some 46), (some (41, false)), .call 72 [(.tmp 43), (.tmp 45)]⟩, ⟨(some 47), none, .pick (.tmp 41) (.const (.bool true)) (.tmp 46)⟩, ⟨(some 48), none, .mv (.tmp 47)⟩, ⟨(some 49), (some (48, false)), .fld 4 (.tmp 4)⟩, ⟨(some 50), (some (48, false)), .load 1 false (.tmp 49)⟩, ⟨(some 51), (some (48, false)), .fld 0 (.tmp 9)⟩, ⟨(some 52), (some (48, false)), .load 1 false (.tmp 51)⟩, ⟨(some 53), (some (48, false)), .call 72 [(.tmp 50), (.tmp 52)]⟩, ⟨(some 54), none, .pick (.tmp 48) (.const (.bool true)) (.tmp 53)⟩, ⟨(some 55), none, .mv (.tmp 54)⟩, ⟨(some 56), (some (55, false)), .fld 4 (.tmp 4)⟩, ⟨(some 57), (some (55, false)), .load 1 false (.tmp 56)⟩, ⟨(some 58), (some (55, false)), .fld 1 (.tmp 9)⟩, ⟨(some 59), (some (55, false)), .load 1 false (.tmp 58)⟩, ⟨(some 60), (some (55, false)), .call 72 [(.tmp 57), (.tmp 59)]⟩, ⟨(some 61), none, .pick (.tmp 55) (.const (.bool true)) (.tmp 60)⟩, ⟨(some 62), none, .ia none 1 (.tmp 30) (.tmp 31)⟩, ⟨none, none, .store 1 (.tmp 62) (.tmp 61)⟩])))
 (.reg [2, 3, 4, 7, 8] [⟨(some 23), none, .mv (.tmp 8)⟩, ⟨(some 24), none, .bin .add 3 (.tmp 23) (.const (.int .i64 1))⟩, ⟨(some 8), none, .mv (.tmp 24)⟩])))
/- 41 waymark/waymarkref1.Pruned: slots 0 g, 1 w, 2 down, 3 g, 4 w, 5 down, 7 out, 8 i, 9 l -/
def sc_waymarkref1_Pruned : SCode :=
 (.seq (.reg [0, 1, 2] [⟨(some 3), none, .box 24 (.tmp 0)⟩, ⟨(some 4), none, .box 57 (.tmp 1)⟩, ⟨(some 6), none, .mv (.const (.slice none 0 0))⟩])
 (.seq (.seq (.reg [2, 3, 4] [⟨(some 10), none, .load 2 true (.tmp 3)⟩, ⟨(some 11), none, .load 7 true (.tmp 4)⟩, ⟨(some 12), none, .call 38 [(.tmp 10), (.tmp 11)]⟩, ⟨(some 13), none, .bin .neq 3 (.tmp 12) (.const (.int .i64 0))⟩])
 (.cond (.tmp 13) (.seq (.reg [] [⟨(some 6), none, .mv (.const (.slice none 0 0))⟩])
 .ret) .skip))
 (.seq (.reg [2, 3, 4] [⟨(some 14), none, .fld 1 (.tmp 3)⟩, ⟨(some 15), none, .load 1 false (.tmp 14)⟩, ⟨(some 16), none, .len false (.tmp 15)⟩, ⟨(some 17), none, .mksl 4 1 1 [(.bool false)] (.tmp 16) (.tmp 16)⟩, ⟨(some 7), none, .mv (.tmp 17)⟩])
 (.seq (.seq (.reg [2, 3, 4, 7] [⟨(some 8), none, .mv (.const (.int .i64 0))⟩])
 (.block 0 (.loop [2, 3, 4, 7, 8] [] sc_waymarkref1_Pruned_L0)))
 (.seq (.reg [7] [⟨(some 63), none, .mv (.tmp 7)⟩, ⟨(some 6), none, .mv (.tmp 63)⟩])
 .ret)))))
theorem fn_waymarkref1_Pruned : FnOk Try.prog 41 Try.f41 sc_waymarkref1_Pruned [.tmp 6] 3 := ⟨Try.func41, by kernel_rfl, by kernel_rfl, by kernel_rfl, by kernel_rfl, by kernel_rfl, by kernel_rfl⟩

/- 42 waymark/waymarklaw7.alive: slots 1 d, 2 e -/
def sc_waymarklaw7_alive : SCode :=
 (.seq (.reg [] [⟨(some 0), none, .mv (.const (.bool false))⟩])
 (.seq (.reg [] [⟨(some 3), none, .build [(.int .i64 0), (.slice none 0 0)] [(0, 1, (.const (.int .i64 1)))]⟩, ⟨(some 4), none, .call 43 [(.tmp 3), (.const (.slice none 0 0)), (.const (.int .i64 0))]⟩, ⟨(some 1), none, .mv (.tmp 4)⟩])
 (.seq (.reg [1] [⟨(some 5), none, .build [(.int .i64 0), (.int .i64 0), (.int .i64 0), (.int .i64 0)] [(1, 1, (.const (.int .i64 1))), (2, 1, (.const (.int .i64 7)))]⟩, ⟨(some 6), none, .bsl 41 4 [(.int .i64 0), (.int .i64 0), (.int .i64 0), (.int .i64 0)] 1 [(0, 4, (.tmp 5))]⟩, ⟨(some 7), none, .build [(.int .i64 0), (.slice none 0 0)] [(0, 1, (.const (.int .i64 2))), (1, 1, (.tmp 6))]⟩, ⟨(some 8), none, .call 43 [(.tmp 7), (.const (.slice none 0 0)), (.const (.int .i64 0))]⟩, ⟨(some 2), none, .mv (.tmp 8)⟩])
 (.seq (.reg [1, 2] [⟨(some 9), none, .mv (.tmp 1)⟩, ⟨(some 10), none, .len false (.tmp 9)⟩, ⟨(some 11), none, .bin .eql 3 (.tmp 10) (.const (.int .i64 1))⟩, ⟨(some 12), none, .mv (.tmp 11)⟩, ⟨(some 13), (some (12, true)), .mv (.tmp 1)⟩, ⟨(some 14), (some (12, true)), .ia none 1 (.tmp 13) (.const (.int .i64 0))⟩, ⟨(some 15), (some (12, true)), .load 1 false (.tmp 14)⟩, ⟨(some 16), (some (12, true)), .bin .eql 3 (.tmp 15) (.const (.int .i64 0))⟩, ⟨(some 17), none, .pick (.tmp 12) (.tmp 16) (.const (.bool false))⟩, ⟨(some 18), none, .mv (.tmp 17)⟩, ⟨(some 19), (some (18, true)), .mv (.tmp 2)⟩, ⟨(some 20), (some (18, true)), .len false (.tmp 19)⟩, ⟨(some 21), (some (18, true)), .bin .eql 3 (.tmp 20) (.const (.int .i64 2))⟩, ⟨(some 22), none, .pick (.tmp 18) (.tmp 21) (.const (.bool false))⟩, ⟨(some 23), none, .mv (.tmp 22)⟩, ⟨(some 24), (some (23, true)), .mv (.tmp 2)⟩, ⟨(some 25), (some (23, true)), .ia none 1 (.tmp 24) (.const (.int .i64 1))⟩, ⟨(some 26), (some (23, true)), .load 1 false (.tmp 25)⟩, ⟨(some 27), (some (23, true)), .bin .eql 3 (.tmp 26) (.const (.int .i64 7))⟩, ⟨(some 28), none, .pick (.tmp 23) (.tmp 27) (.const (.bool false))⟩, ⟨(some 0), none, .mv (.tmp 28)⟩])
 .ret))))
theorem fn_waymarklaw7_alive : FnOk Try.prog 42 Try.f42 sc_waymarklaw7_alive [.tmp 0] 0 := ⟨Try.func42, by kernel_rfl, by kernel_rfl, by kernel_rfl, by kernel_rfl, by kernel_rfl, by kernel_rfl⟩

/- loop of waymark/spf.From, wants [1, 3, 7, 9, 10, 64, 65, 66] [] -/
def sc_spf_From_L0 : SCode :=
 (.seq (.reg [1, 3, 7, 9, 10, 64, 65, 66] [⟨(some 67), none, .bin .lss 3 (.tmp 66) (.tmp 65)⟩])
 (.seq (.cond (.tmp 67) .skip (.exit 4))
 (.seq (.block 5 (.seq (.reg [1, 3, 7, 9, 10, 64, 65, 66] [⟨(some 68), none, .ia none 1 (.tmp 64) (.tmp 66)⟩, ⟨(some 69), none, .load 1 false (.tmp 68)⟩, ⟨(some 14), none, .mv (.tmp 69)⟩])
 (.seq (.reg [1, 3, 7, 9, 10, 14, 64, 65, 66] [⟨(some 71), none, .load 2 true (.tmp 3)⟩, ⟨(some 72), none, .mv (.tmp 14)⟩, ⟨(some 73), none, .call 22 [(.tmp 71), (.tmp 72)]⟩, ⟨(some 70), none, .mv (.tmp 73)⟩, ⟨(some 74), none, .ext (.tmp 70) 0⟩, ⟨(some 75), none, .ext (.tmp 70) 1⟩, ⟨(some 76), none, .ext (.tmp 70) 2⟩, ⟨(some 15), none, .mv (.tmp 74)⟩, ⟨(some 16), none, .mv (.tmp 75)⟩, ⟨(some 17), none, .mv (.tmp 76)⟩])
 (.seq (.reg [1, 3, 7, 9, 10, 14, 16, 64, 65, 66] [⟨(some 77), none, .mv (.tmp 1)⟩, ⟨(some 78), none, .mv (.tmp 14)⟩, ⟨(some 79), none, .call 76 [(.tmp 77), (.tmp 78)]⟩, ⟨(some 80), none, .mv (.tmp 79)⟩, ⟨(some 81), (some (80, true)), .mv (.tmp 7)⟩, ⟨(some 82), (some (80, true)), .mv (.tmp 16)⟩, ⟨(some 83), (some (80, true)), .ia none 1 (.tmp 81) (.tmp 82)⟩, ⟨(some 84), (some (80, true)), .load 1 false (.tmp 83)⟩, ⟨(some 85), (some (80, true)), .bin .eql 3 (.tmp 84) (.const (.int .i64 (-1)))⟩, ⟨(some 86), none, .pick (.tmp 80) (.tmp 85) (.const (.bool false))⟩])
 (.cond (.tmp 86) (.reg [1, 3, 7, 9, 10, 14, 16, 64, 65, 66] [⟨(some 87), none, .mv (.tmp 9)⟩, ⟨(some 88), none, .mv (.tmp 10)⟩, ⟨(some 89), none, .fld 1 (.tmp 3)⟩, ⟨(some 90), none, .load 1 false (.tmp 89)⟩, ⟨(some 91), none, .mv (.tmp 14)⟩, ⟨(some 92), none, .bin .quo 3 (.tmp 91) (.const (.int .i64 2))⟩, ⟨(some 93), none, .ia none 4 (.tmp 90) (.tmp 92)⟩, ⟨(some 94), none, .fld 2 (.tmp 93)⟩, ⟨(some 95), none, .load 1 false (.tmp 94)⟩, ⟨(some 96), none, .bin .add 3 (.tmp 88) (.tmp 95)⟩, ⟨(some 97), none, .mv (.tmp 16)⟩, ⟨(some 98), none, .call 74 [(.tmp 87), (.tmp 96), (.tmp 97)]⟩]) .skip)))))
 (.reg [1, 3, 7, 9, 10, 64, 65, 66] [⟨(some 99), none, .bin .add 3 (.tmp 66) (.const (.int .i64 1))⟩, ⟨(some 66), none, .mv (.tmp 99)⟩]))))
/- loop of waymark/spf.From, wants [1, 3, 7, 9] [] -/
def sc_spf_From_L1 : SCode :=
 (.block 3 (.seq (.reg [1, 3, 7, 9] [⟨(some 45), none, .mv (.tmp 9)⟩, ⟨(some 46), none, .call 75 [(.tmp 45)]⟩, ⟨(some 44), none, .mv (.tmp 46)⟩, ⟨(some 47), none, .ext (.tmp 44) 0⟩, ⟨(some 48), none, .ext (.tmp 44) 1⟩, ⟨(some 49), none, .ext (.tmp 44) 2⟩, ⟨(some 10), none, .mv (.tmp 47)⟩, ⟨(some 11), none, .mv (.tmp 48)⟩, ⟨(some 12), none, .mv (.tmp 49)⟩])
 (.seq (.seq (.reg [1, 3, 7, 9, 10, 11, 12] [⟨(some 50), none, .mv (.tmp 12)⟩, ⟨(some 51), none, .un .not (.tmp 50)⟩])
 (.cond (.tmp 51) (.seq (.reg [7] [⟨(some 52), none, .mv (.tmp 7)⟩, ⟨(some 6), none, .mv (.tmp 52)⟩])
 .ret) .skip))
 (.seq (.seq (.reg [1, 3, 7, 9, 10, 11] [⟨(some 53), none, .mv (.tmp 7)⟩, ⟨(some 54), none, .mv (.tmp 11)⟩, ⟨(some 55), none, .ia none 1 (.tmp 53) (.tmp 54)⟩, ⟨(some 56), none, .load 1 false (.tmp 55)⟩, ⟨(some 57), none, .bin .neq 3 (.tmp 56) (.const (.int .i64 (-1)))⟩])
 (.cond (.tmp 57) (.exit 3) .skip))
 (.seq (.reg [1, 3, 7, 9, 10, 11] [⟨(some 58), none, .mv (.tmp 7)⟩, ⟨(some 59), none, .mv (.tmp 11)⟩, ⟨(some 60), none, .mv (.tmp 10)⟩, ⟨(some 61), none, .ia none 1 (.tmp 58) (.tmp 59)⟩, ⟨none, none, .store 1 (.tmp 61) (.tmp 60)⟩])
 (.seq (.reg [1, 3, 7, 9, 10, 11] [⟨(some 62), none, .load 2 true (.tmp 3)⟩, ⟨(some 63), none, .mv (.tmp 11)⟩, ⟨(some 64), none, .call 26 [(.tmp 62), (.tmp 63)]⟩, ⟨(some 65), none, .len false (.tmp 64)⟩, ⟨(some 66), none, .mv (.const (.int .i64 0))⟩])
 (.block 4 (.loop [1, 3, 7, 9, 10, 64, 65, 66] [] sc_spf_From_L0))))))))
/- loop of waymark/spf.From, wants [1, 2, 3, 7, 31, 32] [] -/
def sc_spf_From_L2 : SCode :=
 (.seq (.reg [1, 2, 3, 7, 31, 32] [⟨(some 33), none, .bin .lss 3 (.tmp 32) (.tmp 31)⟩])
 (.seq (.cond (.tmp 33) .skip (.exit 0))
 (.seq (.block 1 (.seq (.reg [1, 2, 3, 7, 31, 32] [⟨(some 34), none, .mv (.tmp 32)⟩, ⟨(some 8), none, .mv (.tmp 34)⟩])
 (.reg [1, 2, 3, 7, 8, 31, 32] [⟨(some 35), none, .mv (.tmp 7)⟩, ⟨(some 36), none, .mv (.tmp 8)⟩, ⟨(some 37), none, .ia none 1 (.tmp 35) (.tmp 36)⟩, ⟨none, none, .store 1 (.tmp 37) (.const (.int .i64 (-1)))⟩])))
 (.reg [1, 2, 3, 7, 31, 32] [⟨(some 38), none, .bin .add 3 (.tmp 32) (.const (.int .i64 1))⟩, ⟨(some 32), none, .mv (.tmp 38)⟩]))))
/- 43 waymark/spf.From: slots 0 g, 1 down, 2 node, 3 g, 4 down, 5 node, 7 out, 8 i, 9 h, 10 far, 11 at, 12 ok, 13 _, 14 edge, 15 _, 16 to, 17 _ -/
def sc_spf_From : SCode :=
 (.seq (.reg [0, 1, 2] [⟨(some 3), none, .box 24 (.tmp 0)⟩, ⟨(some 6), none, .mv (.const (.slice none 0 0))⟩])
 (.seq (.seq (.reg [1, 2, 3] [⟨(some 18), none, .load 2 true (.tmp 3)⟩, ⟨(some 19), none, .call 73 [(.tmp 18)]⟩, ⟨(some 20), none, .un .not (.tmp 19)⟩, ⟨(some 21), none, .mv (.tmp 20)⟩, ⟨(some 22), (some (21, false)), .load 2 true (.tmp 3)⟩, ⟨(some 23), (some (21, false)), .mv (.tmp 2)⟩, ⟨(some 24), (some (21, false)), .call 66 [(.tmp 22), (.tmp 23)]⟩, ⟨(some 25), (some (21, false)), .un .not (.tmp 24)⟩, ⟨(some 26), none, .pick (.tmp 21) (.const (.bool true)) (.tmp 25)⟩])
 (.cond (.tmp 26) (.seq (.reg [] [⟨(some 6), none, .mv (.const (.slice none 0 0))⟩])
 .ret) .skip))
 (.seq (.reg [1, 2, 3] [⟨(some 27), none, .fld 0 (.tmp 3)⟩, ⟨(some 28), none, .load 1 false (.tmp 27)⟩, ⟨(some 29), none, .mksl 3 1 8 [(.int .i64 0)] (.tmp 28) (.tmp 28)⟩, ⟨(some 7), none, .mv (.tmp 29)⟩])
 (.seq (.seq (.reg [1, 2, 3, 7] [⟨(some 30), none, .mv (.tmp 7)⟩, ⟨(some 31), none, .len false (.tmp 30)⟩, ⟨(some 32), none, .mv (.const (.int .i64 0))⟩])
 (.block 0 (.loop [1, 2, 3, 7, 31, 32] [] sc_spf_From_L2)))
 (.seq (.reg [1, 2, 3, 7] [⟨(some 39), none, .build [(.slice none 0 0)] []⟩, ⟨(some 40), none, .hp (.box 90 (.tmp 39))⟩, ⟨(some 9), none, .mv (.tmp 40)⟩])
 (.seq (.reg [1, 2, 3, 7, 9] [⟨(some 41), none, .mv (.tmp 9)⟩, ⟨(some 42), none, .mv (.tmp 2)⟩, ⟨(some 43), none, .call 74 [(.tmp 41), (.const (.int .i64 0)), (.tmp 42)]⟩])
 (.block 2 (.loop [1, 3, 7, 9] [] sc_spf_From_L1))))))))
theorem fn_spf_From : FnOk Try.prog 43 Try.f43 sc_spf_From [.tmp 6] 3 := ⟨Try.func43, by kernel_rfl, by kernel_rfl, by kernel_rfl, by kernel_rfl, by kernel_rfl, by kernel_rfl⟩

/- 44 waymark/waymarkref1.IsDown: slots 0 down, 1 i, 2 down, 3 i -/
def sc_waymarkref1_IsDown : SCode :=
 (.seq (.reg [0, 1] [⟨(some 4), none, .mv (.const (.bool false))⟩])
 (.seq (.reg [0, 1] [⟨(some 5), none, .mv (.tmp 1)⟩, ⟨(some 6), none, .bin .geq 3 (.tmp 5) (.const (.int .i64 0))⟩, ⟨(some 7), none, .mv (.tmp 6)⟩, ⟨(some 8), (some (7, true)), .mv (.tmp 1)⟩, ⟨(some 9), (some (7, true)), .mv (.tmp 0)⟩, ⟨(some 10), (some (7, true)), .len false (.tmp 9)⟩, ⟨(some 11), (some (7, true)), .bin .lss 3 (.tmp 8) (.tmp 10)⟩, ⟨(some 12), none, .pick (.tmp 7) (.tmp 11) (.const (.bool false))⟩, ⟨(some 13), none, .mv (.tmp 12)⟩, ⟨(some 14), (some (13, true)), .mv (.tmp 0)⟩, ⟨(some 15), (some (13, true)), .mv (.tmp 1)⟩, ⟨(some 16), (some (13, true)), .ia none 1 (.tmp 14) (.tmp 15)⟩, ⟨(some 17), (some (13, true)), .load 1 false (.tmp 16)⟩, ⟨(some 18), none, .pick (.tmp 13) (.tmp 17) (.const (.bool false))⟩, ⟨(some 4), none, .mv (.tmp 18)⟩])
 .ret))
theorem fn_waymarkref1_IsDown : FnOk Try.prog 44 Try.f44 sc_waymarkref1_IsDown [.tmp 4] 2 := ⟨Try.func44, by kernel_rfl, by kernel_rfl, by kernel_rfl, by kernel_rfl, by kernel_rfl, by kernel_rfl⟩

/- 45 waymark/spf.To: slots 0 g, 1 down, 2 node, 3 g, 4 down, 5 node -/
def sc_spf_To : SCode :=
 (.seq (.reg [0, 1, 2] [⟨(some 3), none, .box 24 (.tmp 0)⟩, ⟨(some 6), none, .mv (.const (.slice none 0 0))⟩])
 (.seq (.reg [1, 2, 3] [⟨(some 7), none, .load 2 true (.tmp 3)⟩, ⟨(some 8), none, .mv (.tmp 1)⟩, ⟨(some 9), none, .mv (.tmp 2)⟩, ⟨(some 10), none, .call 43 [(.tmp 7), (.tmp 8), (.tmp 9)]⟩, ⟨(some 6), none, .mv (.tmp 10)⟩])
 .ret))
theorem fn_spf_To : FnOk Try.prog 45 Try.f45 sc_spf_To [.tmp 6] 3 := ⟨Try.func45, by kernel_rfl, by kernel_rfl, by kernel_rfl, by kernel_rfl, by kernel_rfl, by kernel_rfl⟩

/- loop of waymark/spf.Next, wants [1, 2, 3, 4, 9, 40, 41, 42] [(9, 85, 3, 1)] -/
def sc_spf_Next_L0 : SCode :=
 (.seq (.reg [1, 2, 3, 4, 9, 40, 41, 42] [⟨(some 43), none, .bin .lss 3 (.tmp 42) (.tmp 41)⟩])
 (.seq (.cond (.tmp 43) .skip (.exit 0))
 (.seq (.block 1 (.seq (.reg [1, 2, 3, 4, 9, 40, 41, 42] [⟨(some 44), none, .ia none 1 (.tmp 40) (.tmp 42)⟩, ⟨(some 45), none, .load 1 false (.tmp 44)⟩, ⟨(some 11), none, .mv (.tmp 45)⟩])
 (.seq (.reg [1, 2, 3, 4, 9, 11, 40, 41, 42] [⟨(some 47), none, .load 2 true (.tmp 4)⟩, ⟨(some 48), none, .mv (.tmp 11)⟩, ⟨(some 49), none, .call 22 [(.tmp 47), (.tmp 48)]⟩, ⟨(some 46), none, .mv (.tmp 49)⟩, ⟨(some 50), none, .ext (.tmp 46) 0⟩, ⟨(some 51), none, .ext (.tmp 46) 1⟩, ⟨(some 52), none, .ext (.tmp 46) 2⟩, ⟨(some 12), none, .mv (.tmp 50)⟩, ⟨(some 13), none, .mv (.tmp 51)⟩, ⟨(some 14), none, .mv (.tmp 52)⟩])
 (.seq (.draw [1, 2, 3, 4, 9, 11, 13, 40, 41, 42] [⟨(some 53), none, .mv (.tmp 1)⟩, ⟨(some 54), none, .mv (.tmp 11)⟩, ⟨(some 55), none, .call 76 [(.tmp 53), (.tmp 54)]⟩, ⟨(some 56), none, .mv (.tmp 55)⟩, ⟨(some 57), (some (56, true)), .mv (.tmp 2)⟩, ⟨(some 58), (some (56, true)), .mv (.tmp 13)⟩, ⟨(some 59), (some (56, true)), .ia none 1 (.tmp 57) (.tmp 58)⟩, ⟨(some 60), (some (56, true)), .load 1 false (.tmp 59)⟩, ⟨(some 61), (some (56, true)), .bin .geq 3 (.tmp 60) (.const (.int .i64 0))⟩, ⟨(some 62), none, .pick (.tmp 56) (.tmp 61) (.const (.bool false))⟩, ⟨(some 63), none, .mv (.tmp 62)⟩, ⟨(some 64), (some (63, true)), .mv (.tmp 2)⟩, ⟨(some 65), (some (63, true)), .mv (.tmp 3)⟩, ⟨(some 66), (some (63, true)), .ia none 1 (.tmp 64) (.tmp 65)⟩, ⟨(some 67), (some (63, true)), .load 1 false (.tmp 66)⟩, ⟨(some 68), (some (63, true)), .fld 1 (.tmp 4)⟩, ⟨(some 69), (some (63, true)), .load 1 false (.tmp 68)⟩, ⟨(some 70), (some (63, true)), .mv (.tmp 11)⟩, ⟨(some 71), (some (63, true)), .bin .quo 3 (.tmp 70) (.const (.int .i64 2))⟩, ⟨(some 72), (some (63, true)), .ia none 4 (.tmp 69) (.tmp 71)⟩, ⟨(some 73), (some (63, true)), .fld 2 (.tmp 72)⟩, ⟨(some 74), (some (63, true)), .load 1 false (.tmp 73)⟩, ⟨(some 75), (some (63, true)), .bin .sub 3 (.tmp 67) (.tmp 74)⟩, ⟨(some 76), (some (63, true)), .mv (.tmp 2)⟩, ⟨(some 77), (some (63, true)), .mv (.tmp 13)⟩, ⟨(some 78), (some (63, true)), .ia none 1 (.tmp 76) (.tmp 77)⟩, ⟨(some 79), (some (63, true)), .load 1 false (.tmp 78)⟩, ⟨(some 80), (some (63, true)), .bin .eql 3 (.tmp 75) (.tmp 79)⟩, ⟨(some 81), none, .pick (.tmp 63) (.tmp 80) (.const (.bool false))⟩])
 (.cond (.tmp 81) (.reg [1, 2, 3, 4, 9, 11, 40, 41, 42] [⟨(some 82), none, .mv (.tmp 9)⟩, ⟨(some 83), none, .mv (.tmp 11)⟩, ⟨(some 84), none, .bsl 3 1 [(.int .i64 0)] 1 [(0, 1, (.tmp 83))]⟩, ⟨(some 85), none, .app 35 3 1 8 (.int .i64 0) (.tmp 82) (.tmp 84)⟩, ⟨(some 9), none, .mv (.tmp 85)⟩]) .skip)))))
 (.reg [1, 2, 3, 4, 9, 40, 41, 42] [⟨(some 86), none, .bin .add 3 (.tmp 42) (.const (.int .i64 1))⟩, ⟨(some 42), none, .mv (.tmp 86)⟩]))))
/- 46 waymark/spf.Next: slots 0 g, 1 down, 2 to, 3 node, 4 g, 5 down, 6 to, 7 node, 9 out, 10 _, 11 edge, 12 _, 13 end, 14 _ -/
def sc_spf_Next : SCode :=
 (.seq (.reg [0, 1, 2, 3] [⟨(some 4), none, .box 24 (.tmp 0)⟩, ⟨(some 8), none, .mv (.const (.slice none 0 0))⟩])
 (.seq (.seq (.reg [1, 2, 3, 4] [⟨(some 15), none, .load 2 true (.tmp 4)⟩, ⟨(some 16), none, .call 73 [(.tmp 15)]⟩, ⟨(some 17), none, .un .not (.tmp 16)⟩, ⟨(some 18), none, .mv (.tmp 17)⟩, ⟨(some 19), (some (18, false)), .mv (.tmp 2)⟩, ⟨(some 20), (some (18, false)), .len false (.tmp 19)⟩, ⟨(some 21), (some (18, false)), .fld 0 (.tmp 4)⟩, ⟨(some 22), (some (18, false)), .load 1 false (.tmp 21)⟩, ⟨(some 23), (some (18, false)), .bin .neq 3 (.tmp 20) (.tmp 22)⟩, ⟨(some 24), none, .pick (.tmp 18) (.const (.bool true)) (.tmp 23)⟩, ⟨(some 25), none, .mv (.tmp 24)⟩, ⟨(some 26), (some (25, false)), .load 2 true (.tmp 4)⟩, ⟨(some 27), (some (25, false)), .mv (.tmp 3)⟩, ⟨(some 28), (some (25, false)), .call 66 [(.tmp 26), (.tmp 27)]⟩, ⟨(some 29), (some (25, false)), .un .not (.tmp 28)⟩, ⟨(some 30), none, .pick (.tmp 25) (.const (.bool true)) (.tmp 29)⟩, ⟨(some 31), none, .mv (.tmp 30)⟩, ⟨(some 32), (some (31, false)), .mv (.tmp 2)⟩, ⟨(some 33), (some (31, false)), .mv (.tmp 3)⟩, ⟨(some 34), (some (31, false)), .ia none 1 (.tmp 32) (.tmp 33)⟩, ⟨(some 35), (some (31, false)), .load 1 false (.tmp 34)⟩, ⟨(some 36), (some (31, false)), .bin .leq 3 (.tmp 35) (.const (.int .i64 0))⟩, ⟨(some 37), none, .pick (.tmp 31) (.const (.bool true)) (.tmp 36)⟩])
 (.cond (.tmp 37) (.seq (.reg [] [⟨(some 8), none, .mv (.const (.slice none 0 0))⟩])
 .ret) .skip))
 (.seq (.reg [1, 2, 3, 4] [⟨(some 9), none, .mv (.const (.slice none 0 0))⟩])
 (.seq (.seq (.reg [1, 2, 3, 4, 9] [⟨(some 38), none, .load 2 true (.tmp 4)⟩, ⟨(some 39), none, .mv (.tmp 3)⟩, ⟨(some 40), none, .call 26 [(.tmp 38), (.tmp 39)]⟩, ⟨(some 41), none, .len false (.tmp 40)⟩, ⟨(some 42), none, .mv (.const (.int .i64 0))⟩])
 (.block 0 (.loop [1, 2, 3, 4, 9, 40, 41, 42] [(9, 85, 3, 1)] sc_spf_Next_L0)))
 (.seq (.reg [9] [⟨(some 87), none, .mv (.tmp 9)⟩, ⟨(some 8), none, .mv (.tmp 87)⟩])
 .ret)))))
theorem fn_spf_Next : FnOk Try.prog 46 Try.f46 sc_spf_Next [.tmp 8] 4 := ⟨Try.func46, by kernel_rfl, by kernel_rfl, by kernel_rfl, by kernel_rfl, by kernel_rfl, by kernel_rfl⟩

/- loop of waymark/waymarkref1.Next, wants [1, 2, 3, 4, 11, 12, 13] [(11, 106, 3, 1)] -/
def sc_waymarkref1_Next_L0 : SCode :=
 (.seq (.seq (.reg [1, 2, 3, 4, 11, 12, 13] [⟨(some 47), none, .mv (.tmp 13)⟩, ⟨(some 48), none, .mv (.tmp 12)⟩, ⟨(some 49), none, .len false (.tmp 48)⟩, ⟨(some 50), none, .bin .lss 3 (.tmp 47) (.tmp 49)⟩])
 (.cond (.tmp 50) .skip (.exit 0)))
 (.seq (.block 1 (.seq (.draw [1, 2, 3, 4, 11, 12, 13] [⟨(some 54), none, .load 2 true (.tmp 4)⟩, ⟨(some 55), none, .mv (.tmp 12)⟩, ⟨(some 56), none, .mv (.tmp 13)⟩, ⟨(some 57), none, .ia none 1 (.tmp 55) (.tmp 56)⟩, ⟨(some 58), none, .load 1 false (.tmp 57)⟩, ⟨(some 59), none, .call 23 [(.tmp 54), (.tmp 58)]⟩, ⟨(some 53), none, .mv (.tmp 59)⟩, ⟨(some 60), none, .ext (.tmp 53) 0⟩, ⟨(some 61), none, .ext (.tmp 53) 1⟩, ⟨(some 62), none, .ext (.tmp 53) 2⟩, ⟨(some 14), none, .mv (.tmp 60)⟩, ⟨(some 15), none, .mv (.tmp 61)⟩, ⟨(some 16), none, .mv (.tmp 62)⟩])
 (.seq (.draw [1, 2, 3, 4, 11, 12, 13, 15] [⟨(some 63), none, .mv (.tmp 1)⟩, ⟨(some 64), none, .mv (.tmp 12)⟩, ⟨(some 65), none, .mv (.tmp 13)⟩, ⟨(some 66), none, .ia none 1 (.tmp 64) (.tmp 65)⟩, ⟨(some 67), none, .load 1 false (.tmp 66)⟩, ⟨(some 68), none, .bin .quo 3 (.tmp 67) (.const (.int .i64 2))⟩, ⟨(some 69), none, .call 44 [(.tmp 63), (.tmp 68)]⟩, ⟨(some 70), none, .un .not (.tmp 69)⟩, ⟨(some 71), none, .mv (.tmp 70)⟩, ⟨(some 72), (some (71, true)), .mv (.tmp 2)⟩, ⟨(some 73), (some (71, true)), .mv (.tmp 15)⟩, ⟨(some 74), (some (71, true)), .ia none 1 (.tmp 72) (.tmp 73)⟩, ⟨(some 75), (some (71, true)), .load 1 false (.tmp 74)⟩, ⟨(some 76), (some (71, true)), .bin .geq 3 (.tmp 75) (.const (.int .i64 0))⟩, ⟨(some 77), none, .pick (.tmp 71) (.tmp 76) (.const (.bool false))⟩, ⟨(some 78), none, .mv (.tmp 77)⟩, ⟨(some 79), (some (78, true)), .mv (.tmp 2)⟩, ⟨(some 80), (some (78, true)), .mv (.tmp 3)⟩, ⟨(some 81), (some (78, true)), .ia none 1 (.tmp 79) (.tmp 80)⟩, ⟨(some 82), (some (78, true)), .load 1 false (.tmp 81)⟩, ⟨(some 83), (some (78, true)), .mv (.tmp 2)⟩, ⟨(some 84), (some (78, true)), .mv (.tmp 15)⟩, ⟨(some 85), (some (78, true)), .ia none 1 (.tmp 83) (.tmp 84)⟩, ⟨(some 86), (some (78, true)), .load 1 false (.tmp 85)⟩, ⟨(some 87), (some (78, true)), .bin .sub 3 (.tmp 82) (.tmp 86)⟩, ⟨(some 88), (some (78, true)), .fld 1 (.tmp 4)⟩, ⟨(some 89), (some (78, true)), .load 1 false (.tmp 88)⟩, ⟨(some 90), (some (78, true)), .mv (.tmp 12)⟩, ⟨(some 91), (some (78, true)), .mv (.tmp 13)⟩, ⟨(some 92), (some (78, true)), .ia none 1 (.tmp 90) (.tmp 91)⟩, ⟨(some 93), (some (78, true)), .load 1 false (.tmp 92)⟩, ⟨(some 94), (some (78, true)), .bin .quo 3 (.tmp 93) (.const (.int .i64 2))⟩, ⟨(some 95), (some (78, true)), .ia none 4 (.tmp 89) (.tmp 94)⟩, ⟨(some 96), (some (78, true)), .fld 2 (.tmp 95)⟩, ⟨(some 97), (some (78, true)), .load 1 false (.tmp 96)⟩, ⟨(some 98), (some (78, true)), .bin .eql 3 (.tmp 87) (.tmp 97)⟩, ⟨(some 99), none, .pick (.tmp 78) (.tmp 98) (.const (.bool false))⟩])
 (.cond (.tmp 99) (.reg [1, 2, 3, 4, 11, 12, 13] [⟨(some 100), none, .mv (.tmp 11)⟩, ⟨(some 101), none, .mv (.tmp 12)⟩, ⟨(some 102), none, .mv (.tmp 13)⟩, ⟨(some 103), none, .ia none 1 (.tmp 101) (.tmp 102)⟩, ⟨(some 104), none, .load 1 false (.tmp 103)⟩, ⟨(some 105), none, .bsl 3 1 [(.int .i64 0)] 1 [(0, 1, (.tmp 104))]⟩, ⟨(some 106), none, .app 35 3 1 8 (.int .i64 0) (.tmp 100) (.tmp 105)⟩, ⟨(some 11), none, .mv (.tmp 106)⟩]) .skip))))
 (.reg [1, 2, 3, 4, 11, 12, 13] [⟨(some 51), none, .mv (.tmp 13)⟩, ⟨(some 52), none, .bin .add 3 (.tmp 51) (.const (.int .i64 1))⟩, ⟨(some 13), none, .mv (.tmp 52)⟩])))
/- 47 waymark/waymarkref1.Next: slots 0 g, 1 down, 2 to, 3 node, 4 g, 5 down, 6 to, 7 node, 9 _, 10 e, 11 out, 12 l, 13 i, 14 _, 15 b, 16 _ -/
def sc_waymarkref1_Next : SCode :=
 (.seq (.reg [0, 1, 2, 3] [⟨(some 4), none, .box 24 (.tmp 0)⟩, ⟨(some 8), none, .mv (.const (.slice none 0 0))⟩])
 (.seq (.reg [1, 2, 3, 4] [⟨(some 18), none, .load 2 true (.tmp 4)⟩, ⟨(some 19), none, .call 21 [(.tmp 18)]⟩, ⟨(some 17), none, .mv (.tmp 19)⟩, ⟨(some 20), none, .ext (.tmp 17) 0⟩, ⟨(some 21), none, .ext (.tmp 17) 1⟩, ⟨(some 9), none, .mv (.tmp 20)⟩, ⟨(some 10), none, .mv (.tmp 21)⟩])
 (.seq (.seq (.reg [1, 2, 3, 4, 10] [⟨(some 22), none, .mv (.tmp 10)⟩, ⟨(some 23), none, .bin .neq 3 (.tmp 22) (.const (.int .i64 0))⟩, ⟨(some 24), none, .mv (.tmp 23)⟩, ⟨(some 25), (some (24, false)), .mv (.tmp 2)⟩, ⟨(some 26), (some (24, false)), .len false (.tmp 25)⟩, ⟨(some 27), (some (24, false)), .fld 0 (.tmp 4)⟩, ⟨(some 28), (some (24, false)), .load 1 false (.tmp 27)⟩, ⟨(some 29), (some (24, false)), .bin .neq 3 (.tmp 26) (.tmp 28)⟩, ⟨(some 30), none, .pick (.tmp 24) (.const (.bool true)) (.tmp 29)⟩, ⟨(some 31), none, .mv (.tmp 30)⟩, ⟨(some 32), (some (31, false)), .load 2 true (.tmp 4)⟩, ⟨(some 33), (some (31, false)), .mv (.tmp 3)⟩, ⟨(some 34), (some (31, false)), .call 70 [(.tmp 32), (.tmp 33)]⟩, ⟨(some 35), (some (31, false)), .un .not (.tmp 34)⟩, ⟨(some 36), none, .pick (.tmp 31) (.const (.bool true)) (.tmp 35)⟩, ⟨(some 37), none, .mv (.tmp 36)⟩, ⟨(some 38), (some (37, false)), .mv (.tmp 2)⟩, ⟨(some 39), (some (37, false)), .mv (.tmp 3)⟩, ⟨(some 40), (some (37, false)), .ia none 1 (.tmp 38) (.tmp 39)⟩, ⟨(some 41), (some (37, false)), .load 1 false (.tmp 40)⟩, ⟨(some 42), (some (37, false)), .bin .leq 3 (.tmp 41) (.const (.int .i64 0))⟩, ⟨(some 43), none, .pick (.tmp 37) (.const (.bool true)) (.tmp 42)⟩])
 (.cond (.tmp 43) (.seq (.reg [] [⟨(some 8), none, .mv (.const (.slice none 0 0))⟩])
 .ret) .skip))
 (.seq (.reg [1, 2, 3, 4] [⟨(some 11), none, .mv (.const (.slice none 0 0))⟩])
 (.seq (.reg [1, 2, 3, 4, 11] [⟨(some 44), none, .load 2 true (.tmp 4)⟩, ⟨(some 45), none, .mv (.tmp 3)⟩, ⟨(some 46), none, .call 27 [(.tmp 44), (.tmp 45)]⟩, ⟨(some 12), none, .mv (.tmp 46)⟩])
 (.seq (.seq (.reg [1, 2, 3, 4, 11, 12] [⟨(some 13), none, .mv (.const (.int .i64 0))⟩])
 (.block 0 (.loop [1, 2, 3, 4, 11, 12, 13] [(11, 106, 3, 1)] sc_waymarkref1_Next_L0)))
 (.seq (.reg [11] [⟨(some 107), none, .mv (.tmp 11)⟩, ⟨(some 8), none, .mv (.tmp 107)⟩])
 .ret)))))))
theorem fn_waymarkref1_Next : FnOk Try.prog 47 Try.f47 sc_waymarkref1_Next [.tmp 8] 4 := ⟨Try.func47, by kernel_rfl, by kernel_rfl, by kernel_rfl, by kernel_rfl, by kernel_rfl, by kernel_rfl⟩

/- loop of waymark/waymarkref1.From, wants [1, 3, 9, 11, 12] [] -/
def sc_waymarkref1_From_L0 : SCode :=
 (.seq (.seq (.reg [1, 3, 9, 11, 12] [⟨(some 46), none, .mv (.tmp 12)⟩, ⟨(some 47), none, .fld 1 (.tmp 3)⟩, ⟨(some 48), none, .load 1 false (.tmp 47)⟩, ⟨(some 49), none, .len false (.tmp 48)⟩, ⟨(some 50), none, .bin .mul 3 (.const (.int .i64 2)) (.tmp 49)⟩, ⟨(some 51), none, .bin .lss 3 (.tmp 46) (.tmp 50)⟩])
 (.cond (.tmp 51) .skip (.exit 4)))
 (.seq (.block 5 (.seq (.reg [1, 3, 9, 11, 12] [⟨(some 55), none, .load 2 true (.tmp 3)⟩, ⟨(some 56), none, .mv (.tmp 12)⟩, ⟨(some 57), none, .call 23 [(.tmp 55), (.tmp 56)]⟩, ⟨(some 54), none, .mv (.tmp 57)⟩, ⟨(some 58), none, .ext (.tmp 54) 0⟩, ⟨(some 59), none, .ext (.tmp 54) 1⟩, ⟨(some 60), none, .ext (.tmp 54) 2⟩, ⟨(some 13), none, .mv (.tmp 58)⟩, ⟨(some 14), none, .mv (.tmp 59)⟩, ⟨(some 15), none, .mv (.tmp 60)⟩])
 (.seq (.draw [1, 3, 9, 11, 12, 13, 14] [⟨(some 61), none, .mv (.tmp 9)⟩, ⟨(some 62), none, .mv (.tmp 13)⟩, ⟨(some 63), none, .ia none 1 (.tmp 61) (.tmp 62)⟩, ⟨(some 64), none, .load 1 false (.tmp 63)⟩, ⟨(some 65), none, .fld 1 (.tmp 3)⟩, ⟨(some 66), none, .load 1 false (.tmp 65)⟩, ⟨(some 67), none, .mv (.tmp 12)⟩, ⟨(some 68), none, .bin .quo 3 (.tmp 67) (.const (.int .i64 2))⟩, ⟨(some 69), none, .ia none 4 (.tmp 66) (.tmp 68)⟩, ⟨(some 70), none, .fld 2 (.tmp 69)⟩, ⟨(some 71), none, .load 1 false (.tmp 70)⟩, ⟨(some 72), none, .bin .add 3 (.tmp 64) (.tmp 71)⟩, ⟨(some 16), none, .mv (.tmp 72)⟩])
 (.seq (.reg [1, 3, 9, 11, 12, 13, 14, 16] [⟨(some 73), none, .mv (.tmp 9)⟩, ⟨(some 74), none, .mv (.tmp 13)⟩, ⟨(some 75), none, .ia none 1 (.tmp 73) (.tmp 74)⟩, ⟨(some 76), none, .load 1 false (.tmp 75)⟩, ⟨(some 77), none, .bin .geq 3 (.tmp 76) (.const (.int .i64 0))⟩, ⟨(some 78), none, .mv (.tmp 77)⟩, ⟨(some 79), (some (78, true)), .mv (.tmp 1)⟩, ⟨(some 80), (some (78, true)), .mv (.tmp 12)⟩, ⟨(some 81), (some (78, true)), .bin .quo 3 (.tmp 80) (.const (.int .i64 2))⟩, ⟨(some 82), (some (78, true)), .call 44 [(.tmp 79), (.tmp 81)]⟩, ⟨(some 83), (some (78, true)), .un .not (.tmp 82)⟩, ⟨(some 84), none, .pick (.tmp 78) (.tmp 83) (.const (.bool false))⟩, ⟨(some 85), none, .mv (.tmp 84)⟩, ⟨(some 86), (some (85, true)), .mv (.tmp 9)⟩, ⟨(some 87), (some (85, true)), .mv (.tmp 14)⟩, ⟨(some 88), (some (85, true)), .ia none 1 (.tmp 86) (.tmp 87)⟩, ⟨(some 89), (some (85, true)), .load 1 false (.tmp 88)⟩, ⟨(some 90), (some (85, true)), .bin .lss 3 (.tmp 89) (.const (.int .i64 0))⟩, ⟨(some 91), (some (85, true)), .mv (.tmp 90)⟩, ⟨(some 92), (some (91, false)), .mv (.tmp 16)⟩, ⟨(some 93), (some (91, false)), .mv (.tmp 9)⟩, ⟨(some 94), (some (91, false)), .mv (.tmp 14)⟩, ⟨(some 95), (some (91, false)), .ia none 1 (.tmp 93) (.tmp 94)⟩, ⟨(some 96), (some (91, false)), .load 1 false (.tmp 95)⟩, ⟨(some 97), (some (91, false)), .bin .lss 3 (.tmp 92) (.tmp 96)⟩, ⟨(some 98), (some (85, true)), .pick (.tmp 91) (.const (.bool true)) (.tmp 97)⟩, ⟨(some 99), none, .pick (.tmp 85) (.tmp 98) (.const (.bool false))⟩])
 (.cond (.tmp 99) (.seq (.reg [1, 3, 9, 12, 14, 16] [⟨(some 100), none, .mv (.tmp 9)⟩, ⟨(some 101), none, .mv (.tmp 14)⟩, ⟨(some 102), none, .mv (.tmp 16)⟩, ⟨(some 103), none, .ia none 1 (.tmp 100) (.tmp 101)⟩, ⟨none, none, .store 1 (.tmp 103) (.tmp 102)⟩])
 (.reg [1, 3, 9, 12] [⟨(some 11), none, .mv (.const (.bool true))⟩])) .skip)))))
 (.reg [1, 3, 9, 11, 12] [⟨(some 52), none, .mv (.tmp 12)⟩, ⟨(some 53), none, .bin .add 3 (.tmp 52) (.const (.int .i64 1))⟩, ⟨(some 12), none, .mv (.tmp 53)⟩])))
/- loop of waymark/waymarkref1.From, wants [1, 3, 9, 11] [] -/
def sc_waymarkref1_From_L1 : SCode :=
 (.seq (.seq (.reg [1, 3, 9, 11] [⟨(some 45), none, .mv (.tmp 11)⟩])
 (.cond (.tmp 45) .skip (.exit 2)))
 (.block 3 (.seq (.reg [1, 3, 9] [⟨(some 11), none, .mv (.const (.bool false))⟩])
 (.seq (.reg [1, 3, 9, 11] [⟨(some 12), none, .mv (.const (.int .i64 0))⟩])
 (.block 4 (.loop [1, 3, 9, 11, 12] [] sc_waymarkref1_From_L0))))))
/- loop of waymark/waymarkref1.From, wants [1, 2, 3, 9, 10] [] -/
def sc_waymarkref1_From_L2 : SCode :=
 (.seq (.seq (.reg [1, 2, 3, 9, 10] [⟨(some 33), none, .mv (.tmp 10)⟩, ⟨(some 34), none, .fld 0 (.tmp 3)⟩, ⟨(some 35), none, .load 1 false (.tmp 34)⟩, ⟨(some 36), none, .bin .lss 3 (.tmp 33) (.tmp 35)⟩])
 (.cond (.tmp 36) .skip (.exit 0)))
 (.seq (.block 1 (.reg [1, 2, 3, 9, 10] [⟨(some 39), none, .mv (.tmp 9)⟩, ⟨(some 40), none, .mv (.tmp 10)⟩, ⟨(some 41), none, .ia none 1 (.tmp 39) (.tmp 40)⟩, ⟨none, none, .store 1 (.tmp 41) (.const (.int .i64 (-1)))⟩]))
 (.reg [1, 2, 3, 9, 10] [⟨(some 37), none, .mv (.tmp 10)⟩, ⟨(some 38), none, .bin .add 3 (.tmp 37) (.const (.int .i64 1))⟩, ⟨(some 10), none, .mv (.tmp 38)⟩])))
/- 48 waymark/waymarkref1.From: slots 0 g, 1 down, 2 node, 3 g, 4 down, 5 node, 7 _, 8 e, 9 d, 10 i, 11 more, 12 k, 13 a, 14 b, 15 _, 16 n -/
def sc_waymarkref1_From : SCode :=
 (.seq (.reg [0, 1, 2] [⟨(some 3), none, .box 24 (.tmp 0)⟩, ⟨(some 6), none, .mv (.const (.slice none 0 0))⟩])
 (.seq (.reg [1, 2, 3] [⟨(some 18), none, .load 2 true (.tmp 3)⟩, ⟨(some 19), none, .call 21 [(.tmp 18)]⟩, ⟨(some 17), none, .mv (.tmp 19)⟩, ⟨(some 20), none, .ext (.tmp 17) 0⟩, ⟨(some 21), none, .ext (.tmp 17) 1⟩, ⟨(some 7), none, .mv (.tmp 20)⟩, ⟨(some 8), none, .mv (.tmp 21)⟩])
 (.seq (.seq (.reg [1, 2, 3, 8] [⟨(some 22), none, .mv (.tmp 8)⟩, ⟨(some 23), none, .bin .neq 3 (.tmp 22) (.const (.int .i64 0))⟩, ⟨(some 24), none, .mv (.tmp 23)⟩, ⟨(some 25), (some (24, false)), .load 2 true (.tmp 3)⟩, ⟨(some 26), (some (24, false)), .mv (.tmp 2)⟩, ⟨(some 27), (some (24, false)), .call 70 [(.tmp 25), (.tmp 26)]⟩, ⟨(some 28), (some (24, false)), .un .not (.tmp 27)⟩, ⟨(some 29), none, .pick (.tmp 24) (.const (.bool true)) (.tmp 28)⟩])
 (.cond (.tmp 29) (.seq (.reg [] [⟨(some 6), none, .mv (.const (.slice none 0 0))⟩])
 .ret) .skip))
 (.seq (.reg [1, 2, 3] [⟨(some 30), none, .fld 0 (.tmp 3)⟩, ⟨(some 31), none, .load 1 false (.tmp 30)⟩, ⟨(some 32), none, .mksl 3 1 8 [(.int .i64 0)] (.tmp 31) (.tmp 31)⟩, ⟨(some 9), none, .mv (.tmp 32)⟩])
 (.seq (.seq (.reg [1, 2, 3, 9] [⟨(some 10), none, .mv (.const (.int .i64 0))⟩])
 (.block 0 (.loop [1, 2, 3, 9, 10] [] sc_waymarkref1_From_L2)))
 (.seq (.reg [1, 2, 3, 9] [⟨(some 42), none, .mv (.tmp 9)⟩, ⟨(some 43), none, .mv (.tmp 2)⟩, ⟨(some 44), none, .ia none 1 (.tmp 42) (.tmp 43)⟩, ⟨none, none, .store 1 (.tmp 44) (.const (.int .i64 0))⟩])
 (.seq (.seq (.reg [1, 3, 9] [⟨(some 11), none, .mv (.const (.bool true))⟩])
 (.block 2 (.loop [1, 3, 9, 11] [] sc_waymarkref1_From_L1)))
 (.seq (.reg [9] [⟨(some 104), none, .mv (.tmp 9)⟩, ⟨(some 6), none, .mv (.tmp 104)⟩])
 .ret))))))))
theorem fn_waymarkref1_From : FnOk Try.prog 48 Try.f48 sc_waymarkref1_From [.tmp 6] 3 := ⟨Try.func48, by kernel_rfl, by kernel_rfl, by kernel_rfl, by kernel_rfl, by kernel_rfl, by kernel_rfl⟩

/- 49 waymark/waymarklaw9.alive: slots 1 t, 2 e -/
def sc_waymarklaw9_alive : SCode :=
 (.seq (.reg [] [⟨(some 0), none, .mv (.const (.bool false))⟩])
 (.seq (.reg [] [⟨(some 4), none, .build [(.int .i64 0), (.int .i64 0), (.int .i64 0), (.int .i64 0)] [(1, 1, (.const (.int .i64 1))), (2, 1, (.const (.int .i64 7)))]⟩, ⟨(some 5), none, .bsl 41 4 [(.int .i64 0), (.int .i64 0), (.int .i64 0), (.int .i64 0)] 1 [(0, 4, (.tmp 4))]⟩, ⟨(some 6), none, .build [(.int .i64 0), (.slice none 0 0)] [(0, 1, (.const (.int .i64 2))), (1, 1, (.tmp 5))]⟩, ⟨(some 7), none, .call 50 [(.tmp 6)]⟩, ⟨(some 3), none, .mv (.tmp 7)⟩, ⟨(some 8), none, .ext (.tmp 3) 0⟩, ⟨(some 9), none, .ext (.tmp 3) 1⟩, ⟨(some 1), none, .mv (.tmp 8)⟩, ⟨(some 2), none, .mv (.tmp 9)⟩])
 (.seq (.reg [1, 2] [⟨(some 10), none, .mv (.tmp 2)⟩, ⟨(some 11), none, .call 51 [(.tmp 10)]⟩, ⟨(some 12), none, .bin .eql 3 (.tmp 11) (.const (.int .i64 0))⟩, ⟨(some 13), none, .mv (.tmp 12)⟩, ⟨(some 14), (some (13, true)), .mv (.tmp 1)⟩, ⟨(some 15), (some (13, true)), .isnil .p true (.tmp 14)⟩, ⟨(some 16), none, .pick (.tmp 13) (.tmp 15) (.const (.bool false))⟩, ⟨(some 17), none, .mv (.tmp 16)⟩, ⟨(some 18), (some (17, true)), .mv (.tmp 1)⟩, ⟨(some 19), (some (17, true)), .call 52 [(.tmp 18), (.const (.int .i64 0)), (.const (.int .i64 0))]⟩, ⟨(some 20), (some (17, true)), .bin .eql 3 (.tmp 19) (.const (.int .i64 0))⟩, ⟨(some 21), none, .pick (.tmp 17) (.tmp 20) (.const (.bool false))⟩, ⟨(some 22), none, .mv (.tmp 21)⟩, ⟨(some 23), (some (22, true)), .mv (.tmp 1)⟩, ⟨(some 24), (some (22, true)), .call 52 [(.tmp 23), (.const (.int .i64 0)), (.const (.int .i64 1))]⟩, ⟨(some 25), (some (22, true)), .bin .eql 3 (.tmp 24) (.const (.int .i64 7))⟩, ⟨(some 26), none, .pick (.tmp 22) (.tmp 25) (.const (.bool false))⟩, ⟨(some 27), none, .mv (.tmp 26)⟩, ⟨(some 28), (some (27, true)), .mv (.tmp 1)⟩, ⟨(some 29), (some (27, true)), .call 53 [(.tmp 28), (.const (.int .i64 0)), (.const (.int .i64 1))]⟩, ⟨(some 30), (some (27, true)), .len false (.tmp 29)⟩, ⟨(some 31), (some (27, true)), .bin .eql 3 (.tmp 30) (.const (.int .i64 1))⟩, ⟨(some 32), none, .pick (.tmp 27) (.tmp 31) (.const (.bool false))⟩, ⟨(some 0), none, .mv (.tmp 32)⟩])
 .ret)))
theorem fn_waymarklaw9_alive : FnOk Try.prog 49 Try.f49 sc_waymarklaw9_alive [.tmp 0] 0 := ⟨Try.func49, by kernel_rfl, by kernel_rfl, by kernel_rfl, by kernel_rfl, by kernel_rfl, by kernel_rfl⟩

/- loop of waymark/tables.New, wants [1, 6, 8, 9, 28, 29, 39, 40] [(9, 52, 35, 1)] -/
def sc_tables_New_L0 : SCode :=
 (.seq (.reg [1, 6, 8, 9, 28, 29, 39, 40] [⟨(some 41), none, .bin .lss 3 (.tmp 40) (.tmp 39)⟩])
 (.seq (.cond (.tmp 41) .skip (.exit 2))
 (.seq (.block 3 (.seq (.reg [1, 6, 8, 9, 28, 29, 39, 40] [⟨(some 42), none, .mv (.tmp 40)⟩, ⟨(some 10), none, .mv (.tmp 42)⟩])
 (.reg [1, 6, 8, 9, 10, 28, 29, 39, 40] [⟨(some 43), none, .mv (.tmp 9)⟩, ⟨(some 44), none, .mv (.tmp 6)⟩, ⟨(some 45), none, .nilc (.tmp 44)⟩, ⟨(some 46), none, .fld 0 (.tmp 45)⟩, ⟨(some 47), none, .load 2 true (.tmp 46)⟩, ⟨(some 48), none, .mv (.tmp 8)⟩, ⟨(some 49), none, .mv (.tmp 10)⟩, ⟨(some 50), none, .call 46 [(.tmp 47), (.const (.slice none 0 0)), (.tmp 48), (.tmp 49)]⟩, ⟨(some 51), none, .bsl 35 1 [(.slice none 0 0)] 1 [(0, 1, (.tmp 50))]⟩, ⟨(some 52), none, .app 94 35 1 24 (.slice none 0 0) (.tmp 43) (.tmp 51)⟩, ⟨(some 9), none, .mv (.tmp 52)⟩])))
 (.reg [1, 6, 8, 9, 28, 29, 39, 40] [⟨(some 53), none, .bin .add 3 (.tmp 40) (.const (.int .i64 1))⟩, ⟨(some 40), none, .mv (.tmp 53)⟩]))))
/- loop of waymark/tables.New, wants [1, 6, 28, 29] [] -/
def sc_tables_New_L1 : SCode :=
 (.seq (.reg [1, 6, 28, 29] [⟨(some 30), none, .bin .lss 3 (.tmp 29) (.tmp 28)⟩])
 (.seq (.cond (.tmp 30) .skip (.exit 0))
 (.seq (.block 1 (.seq (.reg [1, 6, 28, 29] [⟨(some 31), none, .mv (.tmp 29)⟩, ⟨(some 7), none, .mv (.tmp 31)⟩])
 (.seq (.reg [1, 6, 7, 28, 29] [⟨(some 32), none, .mv (.tmp 6)⟩, ⟨(some 33), none, .nilc (.tmp 32)⟩, ⟨(some 34), none, .fld 0 (.tmp 33)⟩, ⟨(some 35), none, .load 2 true (.tmp 34)⟩, ⟨(some 36), none, .mv (.tmp 7)⟩, ⟨(some 37), none, .call 45 [(.tmp 35), (.const (.slice none 0 0)), (.tmp 36)]⟩, ⟨(some 8), none, .mv (.tmp 37)⟩])
 (.seq (.reg [1, 6, 8, 28, 29] [⟨(some 9), none, .mv (.const (.slice none 0 0))⟩])
 (.seq (.seq (.reg [1, 6, 8, 9, 28, 29] [⟨(some 38), none, .fld 0 (.tmp 1)⟩, ⟨(some 39), none, .load 1 false (.tmp 38)⟩, ⟨(some 40), none, .mv (.const (.int .i64 0))⟩])
 (.block 2 (.loop [1, 6, 8, 9, 28, 29, 39, 40] [(9, 52, 35, 1)] sc_tables_New_L0)))
 (.draw [1, 6, 8, 9, 28, 29] [⟨(some 54), none, .mv (.tmp 6)⟩, ⟨(some 55), none, .mv (.tmp 6)⟩, ⟨(some 56), none, .mv (.tmp 6)⟩, ⟨(some 57), none, .nilc (.tmp 56)⟩, ⟨(some 58), none, .fld 2 (.tmp 57)⟩, ⟨(some 59), none, .load 1 false (.tmp 58)⟩, ⟨(some 60), none, .mv (.tmp 8)⟩, ⟨(some 61), none, .bsl 35 1 [(.slice none 0 0)] 1 [(0, 1, (.tmp 60))]⟩, ⟨(some 62), none, .app 94 35 1 24 (.slice none 0 0) (.tmp 59) (.tmp 61)⟩, ⟨(some 63), none, .mv (.tmp 6)⟩, ⟨(some 64), none, .nilc (.tmp 63)⟩, ⟨(some 65), none, .fld 3 (.tmp 64)⟩, ⟨(some 66), none, .load 1 false (.tmp 65)⟩, ⟨(some 67), none, .mv (.tmp 9)⟩, ⟨(some 68), none, .bsl 94 1 [(.slice none 0 0)] 1 [(0, 1, (.tmp 67))]⟩, ⟨(some 69), none, .app 95 94 1 24 (.slice none 0 0) (.tmp 66) (.tmp 68)⟩, ⟨(some 70), none, .nilc (.tmp 54)⟩, ⟨(some 71), none, .fld 2 (.tmp 70)⟩, ⟨none, none, .store 1 (.tmp 71) (.tmp 62)⟩, ⟨(some 72), none, .nilc (.tmp 55)⟩, ⟨(some 73), none, .fld 3 (.tmp 72)⟩, ⟨none, none, .store 1 (.tmp 73) (.tmp 69)⟩]))))))
 (.reg [1, 6, 28, 29] [⟨(some 74), none, .bin .add 3 (.tmp 29) (.const (.int .i64 1))⟩, ⟨(some 29), none, .mv (.tmp 74)⟩]))))
/- 50 waymark/tables.New: slots 0 g, 1 g, 4 _, 5 e, 6 t, 7 n, 8 to, 9 next, 10 from -/
def sc_tables_New : SCode :=
 (.seq (.reg [0] [⟨(some 1), none, .box 24 (.tmp 0)⟩, ⟨(some 2), none, .mv (.const (.pointer none))⟩, ⟨(some 3), none, .mv (.const (.int .i64 0))⟩])
 (.seq (.seq (.reg [1] [⟨(some 12), none, .load 2 true (.tmp 1)⟩, ⟨(some 13), none, .call 20 [(.tmp 12)]⟩, ⟨(some 11), none, .mv (.tmp 13)⟩, ⟨(some 14), none, .ext (.tmp 11) 0⟩, ⟨(some 15), none, .ext (.tmp 11) 1⟩, ⟨(some 4), none, .mv (.tmp 14)⟩, ⟨(some 5), none, .mv (.tmp 15)⟩])
 (.seq (.reg [1, 5] [⟨(some 16), none, .mv (.tmp 5)⟩, ⟨(some 17), none, .bin .neq 26 (.tmp 16) (.const (.int .i64 0))⟩])
 (.cond (.tmp 17) (.seq (.reg [5] [⟨(some 18), none, .mv (.tmp 5)⟩, ⟨(some 2), none, .mv (.const (.pointer none))⟩, ⟨(some 3), none, .mv (.tmp 18)⟩])
 .ret) .skip)))
 (.seq (.draw [1] [⟨(some 19), none, .fld 0 (.tmp 1)⟩, ⟨(some 20), none, .load 1 false (.tmp 19)⟩, ⟨(some 21), none, .fld 1 (.tmp 1)⟩, ⟨(some 22), none, .load 1 false (.tmp 21)⟩, ⟨(some 23), none, .call 77 [(.tmp 22)]⟩, ⟨(some 24), none, .build [(.int .i64 0), (.slice none 0 0)] [(0, 1, (.tmp 20)), (1, 1, (.tmp 23))]⟩, ⟨(some 25), none, .build [(.int .i64 0), (.slice none 0 0), (.slice none 0 0), (.slice none 0 0)] [(0, 2, (.tmp 24))]⟩, ⟨(some 26), none, .box 97 (.tmp 25)⟩, ⟨(some 6), none, .mv (.tmp 26)⟩])
 (.seq (.seq (.reg [1, 6] [⟨(some 27), none, .fld 0 (.tmp 1)⟩, ⟨(some 28), none, .load 1 false (.tmp 27)⟩, ⟨(some 29), none, .mv (.const (.int .i64 0))⟩])
 (.block 0 (.loop [1, 6, 28, 29] [] sc_tables_New_L1)))
 (.seq (.reg [6] [⟨(some 75), none, .mv (.tmp 6)⟩, ⟨(some 2), none, .mv (.tmp 75)⟩, ⟨(some 3), none, .mv (.const (.int .i64 0))⟩])
 .ret)))))
theorem fn_tables_New : FnOk Try.prog 50 Try.f50 sc_tables_New [.tmp 2, .tmp 3] 1 := ⟨Try.func50, by kernel_rfl, by kernel_rfl, by kernel_rfl, by kernel_rfl, by kernel_rfl, by kernel_rfl⟩

/- 51 waymark/waymarklaw9.num: slots 0 e, 1 e -/
def sc_waymarklaw9_num : SCode :=
 (.seq (.reg [0] [⟨(some 2), none, .mv (.const (.int .i64 0))⟩])
 (.seq (.reg [0] [⟨(some 3), none, .mv (.tmp 0)⟩, ⟨(some 2), none, .mv (.tmp 3)⟩])
 .ret))
theorem fn_waymarklaw9_num : FnOk Try.prog 51 Try.f51 sc_waymarklaw9_num [.tmp 2] 1 := ⟨Try.func51, by kernel_rfl, by kernel_rfl, by kernel_rfl, by kernel_rfl, by kernel_rfl, by kernel_rfl⟩

/- 52 (*waymark/tables.Tables).Dist: slots 0 t, 1 from, 2 to, 3 t, 4 from, 5 to -/
def sc_tables_Tables_Dist : SCode :=
 (.seq (.reg [0, 1, 2] [⟨(some 6), none, .mv (.const (.int .i64 0))⟩])
 (.seq (.seq (.reg [0, 1, 2] [⟨(some 7), none, .mv (.tmp 0)⟩, ⟨(some 8), none, .mv (.tmp 1)⟩, ⟨(some 9), none, .call 78 [(.tmp 7), (.tmp 8)]⟩, ⟨(some 10), none, .un .not (.tmp 9)⟩, ⟨(some 11), none, .mv (.tmp 10)⟩, ⟨(some 12), (some (11, false)), .mv (.tmp 0)⟩, ⟨(some 13), (some (11, false)), .mv (.tmp 2)⟩, ⟨(some 14), (some (11, false)), .call 78 [(.tmp 12), (.tmp 13)]⟩, ⟨(some 15), (some (11, false)), .un .not (.tmp 14)⟩, ⟨(some 16), none, .pick (.tmp 11) (.const (.bool true)) (.tmp 15)⟩])
 (.cond (.tmp 16) (.seq (.reg [] [⟨(some 6), none, .mv (.const (.int .i64 (-1)))⟩])
 .ret) .skip))
 (.seq (.reg [0, 1, 2] [⟨(some 17), none, .mv (.tmp 0)⟩, ⟨(some 18), none, .nilc (.tmp 17)⟩, ⟨(some 19), none, .fld 2 (.tmp 18)⟩, ⟨(some 20), none, .load 1 false (.tmp 19)⟩, ⟨(some 21), none, .mv (.tmp 2)⟩, ⟨(some 22), none, .ia none 1 (.tmp 20) (.tmp 21)⟩, ⟨(some 23), none, .load 1 false (.tmp 22)⟩, ⟨(some 24), none, .mv (.tmp 1)⟩, ⟨(some 25), none, .ia none 1 (.tmp 23) (.tmp 24)⟩, ⟨(some 26), none, .load 1 false (.tmp 25)⟩, ⟨(some 6), none, .mv (.tmp 26)⟩])
 .ret)))
theorem fn_tables_Tables_Dist : FnOk Try.prog 52 Try.f52 sc_tables_Tables_Dist [.tmp 6] 3 := ⟨Try.func52, by kernel_rfl, by kernel_rfl, by kernel_rfl, by kernel_rfl, by kernel_rfl, by kernel_rfl⟩

/- 53 (*waymark/tables.Tables).Next: slots 0 t, 1 from, 2 to, 3 t, 4 from, 5 to -/
def sc_tables_Tables_Next : SCode :=
 (.seq (.reg [0, 1, 2] [⟨(some 6), none, .mv (.const (.slice none 0 0))⟩])
 (.seq (.seq (.reg [0, 1, 2] [⟨(some 7), none, .mv (.tmp 0)⟩, ⟨(some 8), none, .mv (.tmp 1)⟩, ⟨(some 9), none, .call 78 [(.tmp 7), (.tmp 8)]⟩, ⟨(some 10), none, .un .not (.tmp 9)⟩, ⟨(some 11), none, .mv (.tmp 10)⟩, ⟨(some 12), (some (11, false)), .mv (.tmp 0)⟩, ⟨(some 13), (some (11, false)), .mv (.tmp 2)⟩, ⟨(some 14), (some (11, false)), .call 78 [(.tmp 12), (.tmp 13)]⟩, ⟨(some 15), (some (11, false)), .un .not (.tmp 14)⟩, ⟨(some 16), none, .pick (.tmp 11) (.const (.bool true)) (.tmp 15)⟩])
 (.cond (.tmp 16) (.seq (.reg [] [⟨(some 6), none, .mv (.const (.slice none 0 0))⟩])
 .ret) .skip))
 (.seq (.reg [0, 1, 2] [⟨(some 17), none, .mv (.tmp 0)⟩, ⟨(some 18), none, .nilc (.tmp 17)⟩, ⟨(some 19), none, .fld 3 (.tmp 18)⟩, ⟨(some 20), none, .load 1 false (.tmp 19)⟩, ⟨(some 21), none, .mv (.tmp 2)⟩, ⟨(some 22), none, .ia none 1 (.tmp 20) (.tmp 21)⟩, ⟨(some 23), none, .load 1 false (.tmp 22)⟩, ⟨(some 24), none, .mv (.tmp 1)⟩, ⟨(some 25), none, .ia none 1 (.tmp 23) (.tmp 24)⟩, ⟨(some 26), none, .load 1 false (.tmp 25)⟩, ⟨(some 27), none, .call 79 [(.tmp 26)]⟩, ⟨(some 6), none, .mv (.tmp 27)⟩])
 .ret)))
theorem fn_tables_Tables_Next : FnOk Try.prog 53 Try.f53 sc_tables_Tables_Next [.tmp 6] 3 := ⟨Try.func53, by kernel_rfl, by kernel_rfl, by kernel_rfl, by kernel_rfl, by kernel_rfl, by kernel_rfl⟩

/- loop of waymark/waymarkref1.NewTables, wants [1, 6, 7] [] -/
def sc_waymarkref1_NewTables_L0 : SCode :=
 (.seq (.seq (.reg [1, 6, 7] [⟨(some 20), none, .mv (.tmp 7)⟩, ⟨(some 21), none, .fld 0 (.tmp 1)⟩, ⟨(some 22), none, .load 1 false (.tmp 21)⟩, ⟨(some 23), none, .bin .lss 3 (.tmp 20) (.tmp 22)⟩])
 (.cond (.tmp 23) .skip (.exit 0)))
 (.seq (.block 1 (.draw [1, 6, 7] [⟨(some 26), none, .mv (.tmp 6)⟩, ⟨(some 27), none, .mv (.tmp 6)⟩, ⟨(some 28), none, .nilc (.tmp 27)⟩, ⟨(some 29), none, .fld 2 (.tmp 28)⟩, ⟨(some 30), none, .load 1 false (.tmp 29)⟩, ⟨(some 31), none, .load 2 true (.tmp 1)⟩, ⟨(some 32), none, .mv (.tmp 7)⟩, ⟨(some 33), none, .call 48 [(.tmp 31), (.const (.slice none 0 0)), (.tmp 32)]⟩, ⟨(some 34), none, .bsl 35 1 [(.slice none 0 0)] 1 [(0, 1, (.tmp 33))]⟩, ⟨(some 35), none, .app 94 35 1 24 (.slice none 0 0) (.tmp 30) (.tmp 34)⟩, ⟨(some 36), none, .nilc (.tmp 26)⟩, ⟨(some 37), none, .fld 2 (.tmp 36)⟩, ⟨none, none, .store 1 (.tmp 37) (.tmp 35)⟩]))
 (.reg [1, 6, 7] [⟨(some 24), none, .mv (.tmp 7)⟩, ⟨(some 25), none, .bin .add 3 (.tmp 24) (.const (.int .i64 1))⟩, ⟨(some 7), none, .mv (.tmp 25)⟩])))
/- 54 waymark/waymarkref1.NewTables: slots 0 g, 1 g, 4 _, 5 e, 6 t, 7 i -/
def sc_waymarkref1_NewTables : SCode :=
 (.seq (.reg [0] [⟨(some 1), none, .box 24 (.tmp 0)⟩, ⟨(some 2), none, .mv (.const (.pointer none))⟩, ⟨(some 3), none, .mv (.const (.int .i64 0))⟩])
 (.seq (.reg [1] [⟨(some 9), none, .load 2 true (.tmp 1)⟩, ⟨(some 10), none, .call 21 [(.tmp 9)]⟩, ⟨(some 8), none, .mv (.tmp 10)⟩, ⟨(some 11), none, .ext (.tmp 8) 0⟩, ⟨(some 12), none, .ext (.tmp 8) 1⟩, ⟨(some 4), none, .mv (.tmp 11)⟩, ⟨(some 5), none, .mv (.tmp 12)⟩])
 (.seq (.seq (.reg [1, 5] [⟨(some 13), none, .mv (.tmp 5)⟩, ⟨(some 14), none, .bin .neq 3 (.tmp 13) (.const (.int .i64 0))⟩])
 (.cond (.tmp 14) (.seq (.reg [5] [⟨(some 15), none, .mv (.tmp 5)⟩, ⟨(some 2), none, .mv (.const (.pointer none))⟩, ⟨(some 3), none, .mv (.tmp 15)⟩])
 .ret) .skip))
 (.seq (.reg [1] [⟨(some 16), none, .load 2 true (.tmp 1)⟩, ⟨(some 17), none, .call 80 [(.tmp 16)]⟩, ⟨(some 18), none, .build [(.int .i64 0), (.slice none 0 0), (.slice none 0 0)] [(0, 2, (.tmp 17))]⟩, ⟨(some 19), none, .box 101 (.tmp 18)⟩, ⟨(some 6), none, .mv (.tmp 19)⟩])
 (.seq (.seq (.reg [1, 6] [⟨(some 7), none, .mv (.const (.int .i64 0))⟩])
 (.block 0 (.loop [1, 6, 7] [] sc_waymarkref1_NewTables_L0)))
 (.seq (.reg [6] [⟨(some 38), none, .mv (.tmp 6)⟩, ⟨(some 2), none, .mv (.tmp 38)⟩, ⟨(some 3), none, .mv (.const (.int .i64 0))⟩])
 .ret))))))
theorem fn_waymarkref1_NewTables : FnOk Try.prog 54 Try.f54 sc_waymarkref1_NewTables [.tmp 2, .tmp 3] 1 := ⟨Try.func54, by kernel_rfl, by kernel_rfl, by kernel_rfl, by kernel_rfl, by kernel_rfl, by kernel_rfl⟩

/- 55 (*waymark/tables.Tables).Graph: slots 0 t, 1 t -/
def sc_tables_Tables_Graph : SCode :=
 (.seq (.reg [0] [⟨(some 2), none, .alloc 24 [(.int .i64 0), (.slice none 0 0)]⟩])
 (.seq (.seq (.reg [0, 2] [⟨(some 3), none, .mv (.tmp 0)⟩, ⟨(some 4), none, .isnil .p false (.tmp 3)⟩])
 (.cond (.tmp 4) (.seq (.reg [2] [⟨(some 5), none, .build [(.int .i64 0), (.slice none 0 0)] []⟩, ⟨none, none, .store 2 (.tmp 2) (.tmp 5)⟩])
 .ret) .skip))
 (.seq (.draw [0, 2] [⟨(some 6), none, .mv (.tmp 0)⟩, ⟨(some 7), none, .nilc (.tmp 6)⟩, ⟨(some 8), none, .fld 0 (.tmp 7)⟩, ⟨(some 9), none, .fld 0 (.tmp 8)⟩, ⟨(some 10), none, .load 1 false (.tmp 9)⟩, ⟨(some 11), none, .mv (.tmp 0)⟩, ⟨(some 12), none, .nilc (.tmp 11)⟩, ⟨(some 13), none, .fld 0 (.tmp 12)⟩, ⟨(some 14), none, .fld 1 (.tmp 13)⟩, ⟨(some 15), none, .load 1 false (.tmp 14)⟩, ⟨(some 16), none, .call 77 [(.tmp 15)]⟩, ⟨(some 17), none, .build [(.int .i64 0), (.slice none 0 0)] [(0, 1, (.tmp 10)), (1, 1, (.tmp 16))]⟩, ⟨none, none, .store 2 (.tmp 2) (.tmp 17)⟩])
 .ret)))
theorem fn_tables_Tables_Graph : FnOk Try.prog 55 Try.f55 sc_tables_Tables_Graph [.cell 2 2 true] 1 := ⟨Try.func55, by kernel_rfl, by kernel_rfl, by kernel_rfl, by kernel_rfl, by kernel_rfl, by kernel_rfl⟩

/- 56 (*waymark/waymarkref1.Tables).Dist: slots 0 t, 1 from, 2 to, 3 t, 4 from, 5 to -/
def sc_waymarkref1_Tables_Dist : SCode :=
 (.seq (.reg [0, 1, 2] [⟨(some 6), none, .mv (.const (.int .i64 0))⟩])
 (.seq (.seq (.reg [0, 1, 2] [⟨(some 7), none, .mv (.tmp 0)⟩, ⟨(some 8), none, .nilc (.tmp 7)⟩, ⟨(some 9), none, .fld 0 (.tmp 8)⟩, ⟨(some 10), none, .load 2 true (.tmp 9)⟩, ⟨(some 11), none, .mv (.tmp 1)⟩, ⟨(some 12), none, .call 70 [(.tmp 10), (.tmp 11)]⟩, ⟨(some 13), none, .un .not (.tmp 12)⟩, ⟨(some 14), none, .mv (.tmp 13)⟩, ⟨(some 15), (some (14, false)), .mv (.tmp 0)⟩, ⟨(some 16), (some (14, false)), .nilc (.tmp 15)⟩, ⟨(some 17), (some (14, false)), .fld 0 (.tmp 16)⟩, ⟨(some 18), (some (14, false)), .load 2 true (.tmp 17)⟩, ⟨(some 19), (some (14, false)), .mv (.tmp 2)⟩, ⟨(some 20), (some (14, false)), .call 70 [(.tmp 18), (.tmp 19)]⟩, ⟨(some 21), (some (14, false)), .un .not (.tmp 20)⟩, ⟨(some 22), none, .pick (.tmp 14) (.const (.bool true)) (.tmp 21)⟩])
 (.cond (.tmp 22) (.seq (.reg [] [⟨(some 6), none, .mv (.const (.int .i64 (-1)))⟩])
 .ret) .skip))
 (.seq (.reg [0, 1, 2] [⟨(some 23), none, .mv (.tmp 0)⟩, ⟨(some 24), none, .nilc (.tmp 23)⟩, ⟨(some 25), none, .fld 2 (.tmp 24)⟩, ⟨(some 26), none, .load 1 false (.tmp 25)⟩, ⟨(some 27), none, .mv (.tmp 1)⟩, ⟨(some 28), none, .ia none 1 (.tmp 26) (.tmp 27)⟩, ⟨(some 29), none, .load 1 false (.tmp 28)⟩, ⟨(some 30), none, .mv (.tmp 2)⟩, ⟨(some 31), none, .ia none 1 (.tmp 29) (.tmp 30)⟩, ⟨(some 32), none, .load 1 false (.tmp 31)⟩, ⟨(some 6), none, .mv (.tmp 32)⟩])
 .ret)))
theorem fn_waymarkref1_Tables_Dist : FnOk Try.prog 56 Try.f56 sc_waymarkref1_Tables_Dist [.tmp 6] 3 := ⟨Try.func56, by kernel_rfl, by kernel_rfl, by kernel_rfl, by kernel_rfl, by kernel_rfl, by kernel_rfl⟩

/- 57 (*waymark/waymarkref1.Tables).Next: slots 0 t, 1 from, 2 to, 3 t, 4 from, 5 to -/
def sc_waymarkref1_Tables_Next : SCode :=
 (.seq (.reg [0, 1, 2] [⟨(some 6), none, .mv (.const (.slice none 0 0))⟩])
 (.seq (.seq (.reg [0, 1, 2] [⟨(some 7), none, .mv (.tmp 0)⟩, ⟨(some 8), none, .nilc (.tmp 7)⟩, ⟨(some 9), none, .fld 0 (.tmp 8)⟩, ⟨(some 10), none, .load 2 true (.tmp 9)⟩, ⟨(some 11), none, .mv (.tmp 1)⟩, ⟨(some 12), none, .call 70 [(.tmp 10), (.tmp 11)]⟩, ⟨(some 13), none, .un .not (.tmp 12)⟩, ⟨(some 14), none, .mv (.tmp 13)⟩, ⟨(some 15), (some (14, false)), .mv (.tmp 0)⟩, ⟨(some 16), (some (14, false)), .nilc (.tmp 15)⟩, ⟨(some 17), (some (14, false)), .fld 0 (.tmp 16)⟩, ⟨(some 18), (some (14, false)), .load 2 true (.tmp 17)⟩, ⟨(some 19), (some (14, false)), .mv (.tmp 2)⟩, ⟨(some 20), (some (14, false)), .call 70 [(.tmp 18), (.tmp 19)]⟩, ⟨(some 21), (some (14, false)), .un .not (.tmp 20)⟩, ⟨(some 22), none, .pick (.tmp 14) (.const (.bool true)) (.tmp 21)⟩])
 (.cond (.tmp 22) (.seq (.reg [] [⟨(some 6), none, .mv (.const (.slice none 0 0))⟩])
 .ret) .skip))
 (.seq (.draw [0, 1, 2] [⟨(some 23), none, .mv (.tmp 0)⟩, ⟨(some 24), none, .nilc (.tmp 23)⟩, ⟨(some 25), none, .fld 0 (.tmp 24)⟩, ⟨(some 26), none, .load 2 true (.tmp 25)⟩, ⟨(some 27), none, .mv (.tmp 0)⟩, ⟨(some 28), none, .nilc (.tmp 27)⟩, ⟨(some 29), none, .fld 2 (.tmp 28)⟩, ⟨(some 30), none, .load 1 false (.tmp 29)⟩, ⟨(some 31), none, .mv (.tmp 2)⟩, ⟨(some 32), none, .ia none 1 (.tmp 30) (.tmp 31)⟩, ⟨(some 33), none, .load 1 false (.tmp 32)⟩, ⟨(some 34), none, .mv (.tmp 1)⟩, ⟨(some 35), none, .call 47 [(.tmp 26), (.const (.slice none 0 0)), (.tmp 33), (.tmp 34)]⟩, ⟨(some 6), none, .mv (.tmp 35)⟩])
 .ret)))
theorem fn_waymarkref1_Tables_Next : FnOk Try.prog 57 Try.f57 sc_waymarkref1_Tables_Next [.tmp 6] 3 := ⟨Try.func57, by kernel_rfl, by kernel_rfl, by kernel_rfl, by kernel_rfl, by kernel_rfl, by kernel_rfl⟩

/- 58 waymark/graph.link: slots 0 g, 1 l, 2 g, 3 l -/
def sc_graph_link : SCode :=
 (.seq (.reg [0, 1] [⟨(some 2), none, .box 24 (.tmp 0)⟩, ⟨(some 3), none, .box 41 (.tmp 1)⟩, ⟨(some 4), none, .mv (.const (.int .i64 0))⟩])
 (.seq (.block 0 (.seq (.reg [2, 3] [⟨(some 6), none, .load 2 true (.tmp 2)⟩, ⟨(some 7), none, .fld 0 (.tmp 3)⟩, ⟨(some 8), none, .load 1 false (.tmp 7)⟩, ⟨(some 9), none, .call 66 [(.tmp 6), (.tmp 8)]⟩, ⟨(some 10), none, .un .not (.tmp 9)⟩, ⟨(some 11), none, .mv (.tmp 10)⟩, ⟨(some 12), (some (11, false)), .load 2 true (.tmp 2)⟩, ⟨(some 13), (some (11, false)), .fld 1 (.tmp 3)⟩, ⟨(some 14), (some (11, false)), .load 1 false (.tmp 13)⟩, ⟨(some 15), (some (11, false)), .call 66 [(.tmp 12), (.tmp 14)]⟩, ⟨(some 16), (some (11, false)), .un .not (.tmp 15)⟩, ⟨(some 17), none, .pick (.tmp 11) (.const (.bool true)) (.tmp 16)⟩, ⟨(some 18), none, .mv (.tmp 17)⟩, ⟨(some 19), (some (18, false)), .fld 0 (.tmp 3)⟩, ⟨(some 20), (some (18, false)), .load 1 false (.tmp 19)⟩, ⟨(some 21), (some (18, false)), .fld 1 (.tmp 3)⟩, ⟨(some 22), (some (18, false)), .load 1 false (.tmp 21)⟩, ⟨(some 23), (some (18, false)), .bin .eql 3 (.tmp 20) (.tmp 22)⟩, ⟨(some 24), none, .pick (.tmp 18) (.const (.bool true)) (.tmp 23)⟩, ⟨(some 5), none, .mv (.tmp 24)⟩])
 (.cond (.tmp 5) (.seq (.reg [] [⟨(some 4), none, .mv (.const (.int .i64 4))⟩])
 .ret) (.seq (.reg [3] [⟨(some 26), none, .fld 2 (.tmp 3)⟩, ⟨(some 27), none, .load 1 false (.tmp 26)⟩, ⟨(some 28), none, .bin .lss 3 (.tmp 27) (.const (.int .i64 1))⟩, ⟨(some 29), none, .mv (.tmp 28)⟩, ⟨(some 30), (some (29, false)), .fld 2 (.tmp 3)⟩, ⟨(some 31), (some (29, false)), .load 1 false (.tmp 30)⟩, ⟨(some 32), (some (29, false)), .bin .gtr 3 (.tmp 31) (.const (.int .i64 16777216))⟩, ⟨(some 33), none, .pick (.tmp 29) (.const (.bool true)) (.tmp 32)⟩, ⟨(some 34), none, .mv (.tmp 33)⟩, ⟨(some 35), (some (34, false)), .fld 3 (.tmp 3)⟩, ⟨(some 36), (some (34, false)), .load 1 false (.tmp 35)⟩, ⟨(some 37), (some (34, false)), .bin .lss 3 (.tmp 36) (.const (.int .i64 0))⟩, ⟨(some 38), none, .pick (.tmp 34) (.const (.bool true)) (.tmp 37)⟩, ⟨(some 39), none, .mv (.tmp 38)⟩, ⟨(some 40), (some (39, false)), .fld 3 (.tmp 3)⟩, ⟨(some 41), (some (39, false)), .load 1 false (.tmp 40)⟩, ⟨(some 42), (some (39, false)), .bin .gtr 3 (.tmp 41) (.const (.int .i64 62))⟩, ⟨(some 43), none, .pick (.tmp 39) (.const (.bool true)) (.tmp 42)⟩, ⟨(some 25), none, .mv (.tmp 43)⟩])
 (.cond (.tmp 25) (.seq (.reg [] [⟨(some 4), none, .mv (.const (.int .i64 1))⟩])
 .ret) .skip)))))
 (.seq (.reg [] [⟨(some 4), none, .mv (.const (.int .i64 0))⟩])
 .ret)))
theorem fn_graph_link : FnOk Try.prog 58 Try.f58 sc_graph_link [.tmp 4] 2 := ⟨Try.func58, by kernel_rfl, by kernel_rfl, by kernel_rfl, by kernel_rfl, by kernel_rfl, by kernel_rfl⟩

/- 59 waymark/waymarkref11.letter: slots 0 c, 1 c -/
def sc_waymarkref11_letter : SCode :=
 (.seq (.reg [0] [⟨(some 2), none, .mv (.const (.bool false))⟩])
 (.seq (.reg [0] [⟨(some 3), none, .mv (.tmp 0)⟩, ⟨(some 4), none, .bin .geq 5 (.tmp 3) (.const (.int .u8 97))⟩, ⟨(some 5), none, .mv (.tmp 4)⟩, ⟨(some 6), (some (5, true)), .mv (.tmp 0)⟩, ⟨(some 7), (some (5, true)), .bin .leq 5 (.tmp 6) (.const (.int .u8 122))⟩, ⟨(some 8), none, .pick (.tmp 5) (.tmp 7) (.const (.bool false))⟩, ⟨(some 2), none, .mv (.tmp 8)⟩])
 .ret))
theorem fn_waymarkref11_letter : FnOk Try.prog 59 Try.f59 sc_waymarkref11_letter [.tmp 2] 1 := ⟨Try.func59, by kernel_rfl, by kernel_rfl, by kernel_rfl, by kernel_rfl, by kernel_rfl, by kernel_rfl⟩

/- 60 waymark/waymarkref11.digit: slots 0 c, 1 c -/
def sc_waymarkref11_digit : SCode :=
 (.seq (.reg [0] [⟨(some 2), none, .mv (.const (.bool false))⟩])
 (.seq (.reg [0] [⟨(some 3), none, .mv (.tmp 0)⟩, ⟨(some 4), none, .bin .geq 5 (.tmp 3) (.const (.int .u8 48))⟩, ⟨(some 5), none, .mv (.tmp 4)⟩, ⟨(some 6), (some (5, true)), .mv (.tmp 0)⟩, ⟨(some 7), (some (5, true)), .bin .leq 5 (.tmp 6) (.const (.int .u8 57))⟩, ⟨(some 8), none, .pick (.tmp 5) (.tmp 7) (.const (.bool false))⟩, ⟨(some 2), none, .mv (.tmp 8)⟩])
 .ret))
theorem fn_waymarkref11_digit : FnOk Try.prog 60 Try.f60 sc_waymarkref11_digit [.tmp 2] 1 := ⟨Try.func60, by kernel_rfl, by kernel_rfl, by kernel_rfl, by kernel_rfl, by kernel_rfl, by kernel_rfl⟩

/- 61 waymark/words.letter: slots 0 c, 1 c -/
def sc_words_letter : SCode :=
 (.seq (.reg [0] [⟨(some 2), none, .mv (.const (.bool false))⟩])
 (.seq (.reg [0] [⟨(some 3), none, .mv (.tmp 0)⟩, ⟨(some 4), none, .bin .geq 5 (.tmp 3) (.const (.int .u8 97))⟩, ⟨(some 5), none, .mv (.tmp 4)⟩, ⟨(some 6), (some (5, true)), .mv (.tmp 0)⟩, ⟨(some 7), (some (5, true)), .bin .leq 5 (.tmp 6) (.const (.int .u8 122))⟩, ⟨(some 8), none, .pick (.tmp 5) (.tmp 7) (.const (.bool false))⟩, ⟨(some 2), none, .mv (.tmp 8)⟩])
 .ret))
theorem fn_words_letter : FnOk Try.prog 61 Try.f61 sc_words_letter [.tmp 2] 1 := ⟨Try.func61, by kernel_rfl, by kernel_rfl, by kernel_rfl, by kernel_rfl, by kernel_rfl, by kernel_rfl⟩

/- 62 waymark/words.digit: slots 0 c, 1 c -/
def sc_words_digit : SCode :=
 (.seq (.reg [0] [⟨(some 2), none, .mv (.const (.bool false))⟩])
 (.seq (.reg [0] [⟨(some 3), none, .mv (.tmp 0)⟩, ⟨(some 4), none, .bin .geq 5 (.tmp 3) (.const (.int .u8 48))⟩, ⟨(some 5), none, .mv (.tmp 4)⟩, ⟨(some 6), (some (5, true)), .mv (.tmp 0)⟩, ⟨(some 7), (some (5, true)), .bin .leq 5 (.tmp 6) (.const (.int .u8 57))⟩, ⟨(some 8), none, .pick (.tmp 5) (.tmp 7) (.const (.bool false))⟩, ⟨(some 2), none, .mv (.tmp 8)⟩])
 .ret))
theorem fn_words_digit : FnOk Try.prog 62 Try.f62 sc_words_digit [.tmp 2] 1 := ⟨Try.func62, by kernel_rfl, by kernel_rfl, by kernel_rfl, by kernel_rfl, by kernel_rfl, by kernel_rfl⟩

/- 63 waymark/words.inWord: slots 0 c, 1 c -/
def sc_words_inWord : SCode :=
 (.seq (.reg [0] [⟨(some 2), none, .mv (.const (.bool false))⟩])
 (.seq (.reg [0] [⟨(some 3), none, .mv (.tmp 0)⟩, ⟨(some 4), none, .call 61 [(.tmp 3)]⟩, ⟨(some 5), none, .mv (.tmp 4)⟩, ⟨(some 6), (some (5, false)), .mv (.tmp 0)⟩, ⟨(some 7), (some (5, false)), .call 62 [(.tmp 6)]⟩, ⟨(some 8), none, .pick (.tmp 5) (.const (.bool true)) (.tmp 7)⟩, ⟨(some 9), none, .mv (.tmp 8)⟩, ⟨(some 10), (some (9, false)), .mv (.tmp 0)⟩, ⟨(some 11), (some (9, false)), .bin .eql 5 (.tmp 10) (.const (.int .u8 45))⟩, ⟨(some 12), none, .pick (.tmp 9) (.const (.bool true)) (.tmp 11)⟩, ⟨(some 2), none, .mv (.tmp 12)⟩])
 .ret))
theorem fn_words_inWord : FnOk Try.prog 63 Try.f63 sc_words_inWord [.tmp 2] 1 := ⟨Try.func63, by kernel_rfl, by kernel_rfl, by kernel_rfl, by kernel_rfl, by kernel_rfl, by kernel_rfl⟩

/- 64 waymark/words.inNumber: slots 0 c, 1 c -/
def sc_words_inNumber : SCode :=
 (.seq (.reg [0] [⟨(some 2), none, .mv (.const (.bool false))⟩])
 (.seq (.reg [0] [⟨(some 3), none, .mv (.tmp 0)⟩, ⟨(some 4), none, .call 62 [(.tmp 3)]⟩, ⟨(some 5), none, .mv (.tmp 4)⟩, ⟨(some 6), (some (5, false)), .mv (.tmp 0)⟩, ⟨(some 7), (some (5, false)), .bin .eql 5 (.tmp 6) (.const (.int .u8 46))⟩, ⟨(some 8), none, .pick (.tmp 5) (.const (.bool true)) (.tmp 7)⟩, ⟨(some 9), none, .mv (.tmp 8)⟩, ⟨(some 10), (some (9, false)), .mv (.tmp 0)⟩, ⟨(some 11), (some (9, false)), .bin .eql 5 (.tmp 10) (.const (.int .u8 47))⟩, ⟨(some 12), none, .pick (.tmp 9) (.const (.bool true)) (.tmp 11)⟩, ⟨(some 2), none, .mv (.tmp 12)⟩])
 .ret))
theorem fn_words_inNumber : FnOk Try.prog 64 Try.f64 sc_words_inNumber [.tmp 2] 1 := ⟨Try.func64, by kernel_rfl, by kernel_rfl, by kernel_rfl, by kernel_rfl, by kernel_rfl, by kernel_rfl⟩

/- 65 waymark/prune.Right$1: slots 0 n, 2 n -/
def sc_prune_Right_d1 : SCode :=
 (.seq (.reg [0, 1] [⟨(some 3), none, .mv (.const (.bool false))⟩])
 (.seq (.reg [0, 1] [⟨(some 4), none, .load 2 true (.tmp 1)⟩, ⟨(some 5), none, .mv (.tmp 0)⟩, ⟨(some 6), none, .call 66 [(.tmp 4), (.tmp 5)]⟩, ⟨(some 7), none, .un .not (.tmp 6)⟩, ⟨(some 3), none, .mv (.tmp 7)⟩])
 .ret))
theorem fn_prune_Right_d1 : FnOk Try.prog 65 Try.f65 sc_prune_Right_d1 [.tmp 3] 2 := ⟨Try.func65, by kernel_rfl, by kernel_rfl, by kernel_rfl, by kernel_rfl, by kernel_rfl, by kernel_rfl⟩

/- 66 waymark/graph.Is: slots 0 g, 1 node, 2 g, 3 node -/
def sc_graph_Is : SCode :=
 (.seq (.reg [0, 1] [⟨(some 2), none, .box 24 (.tmp 0)⟩, ⟨(some 4), none, .mv (.const (.bool false))⟩])
 (.seq (.reg [1, 2] [⟨(some 5), none, .mv (.tmp 1)⟩, ⟨(some 6), none, .bin .geq 3 (.tmp 5) (.const (.int .i64 0))⟩, ⟨(some 7), none, .mv (.tmp 6)⟩, ⟨(some 8), (some (7, true)), .mv (.tmp 1)⟩, ⟨(some 9), (some (7, true)), .fld 0 (.tmp 2)⟩, ⟨(some 10), (some (7, true)), .load 1 false (.tmp 9)⟩, ⟨(some 11), (some (7, true)), .bin .lss 3 (.tmp 8) (.tmp 10)⟩, ⟨(some 12), none, .pick (.tmp 7) (.tmp 11) (.const (.bool false))⟩, ⟨(some 4), none, .mv (.tmp 12)⟩])
 .ret))
theorem fn_graph_Is : FnOk Try.prog 66 Try.f66 sc_graph_Is [.tmp 4] 2 := ⟨Try.func66, by kernel_rfl, by kernel_rfl, by kernel_rfl, by kernel_rfl, by kernel_rfl, by kernel_rfl⟩

/- 67 waymark/prune.Right$2: slots 0 n, 2 n -/
def sc_prune_Right_d2 : SCode :=
 (.seq (.reg [0, 1] [⟨(some 3), none, .mv (.const (.bool false))⟩])
 (.seq (.reg [0, 1] [⟨(some 4), none, .mv (.tmp 0)⟩, ⟨(some 5), none, .bin .lss 3 (.tmp 4) (.const (.int .i64 0))⟩, ⟨(some 6), none, .mv (.tmp 5)⟩, ⟨(some 7), (some (6, false)), .mv (.tmp 0)⟩, ⟨(some 8), (some (6, false)), .fld 1 (.tmp 1)⟩, ⟨(some 9), (some (6, false)), .load 1 false (.tmp 8)⟩, ⟨(some 10), (some (6, false)), .len false (.tmp 9)⟩, ⟨(some 11), (some (6, false)), .bin .geq 3 (.tmp 7) (.tmp 10)⟩, ⟨(some 12), none, .pick (.tmp 6) (.const (.bool true)) (.tmp 11)⟩, ⟨(some 3), none, .mv (.tmp 12)⟩])
 .ret))
theorem fn_prune_Right_d2 : FnOk Try.prog 67 Try.f67 sc_prune_Right_d2 [.tmp 3] 2 := ⟨Try.func67, by kernel_rfl, by kernel_rfl, by kernel_rfl, by kernel_rfl, by kernel_rfl, by kernel_rfl⟩

/- 68 waymark/prune.Right$3: slots 0 n, 1 n -/
def sc_prune_Right_d3 : SCode :=
 (.seq (.reg [0] [⟨(some 2), none, .mv (.const (.bool false))⟩])
 (.seq (.reg [0] [⟨(some 3), none, .mv (.tmp 0)⟩, ⟨(some 4), none, .bin .lss 3 (.tmp 3) (.const (.int .i64 0))⟩, ⟨(some 5), none, .mv (.tmp 4)⟩, ⟨(some 6), (some (5, false)), .mv (.tmp 0)⟩, ⟨(some 7), (some (5, false)), .bin .gtr 3 (.tmp 6) (.const (.int .i64 62))⟩, ⟨(some 8), none, .pick (.tmp 5) (.const (.bool true)) (.tmp 7)⟩, ⟨(some 2), none, .mv (.tmp 8)⟩])
 .ret))
theorem fn_prune_Right_d3 : FnOk Try.prog 68 Try.f68 sc_prune_Right_d3 [.tmp 2] 1 := ⟨Try.func68, by kernel_rfl, by kernel_rfl, by kernel_rfl, by kernel_rfl, by kernel_rfl, by kernel_rfl⟩

/- 69 slices.ContainsFunc[[]int,int]: slots 0 s, 1 f, 2 s, 3 f -/
def sc_slices_ContainsFunc_int_int : SCode :=
 (.seq (.reg [0, 1] [⟨(some 4), none, .mv (.const (.bool false))⟩])
 (.seq (.reg [0, 1] [⟨(some 5), none, .mv (.tmp 0)⟩, ⟨(some 6), none, .mv (.tmp 1)⟩, ⟨(some 7), none, .call 81 [(.tmp 5), (.tmp 6)]⟩, ⟨(some 8), none, .bin .geq 3 (.tmp 7) (.const (.int .i64 0))⟩, ⟨(some 4), none, .mv (.tmp 8)⟩])
 .ret))
theorem fn_slices_ContainsFunc_int_int : FnOk Try.prog 69 Try.f69 sc_slices_ContainsFunc_int_int [.tmp 4] 2 := ⟨Try.func69, by kernel_rfl, by kernel_rfl, by kernel_rfl, by kernel_rfl, by kernel_rfl, by kernel_rfl⟩

/- 70 waymark/waymarkref1.Node: slots 0 g, 1 n, 2 g, 3 n -/
def sc_waymarkref1_Node : SCode :=
 (.seq (.reg [0, 1] [⟨(some 2), none, .box 24 (.tmp 0)⟩, ⟨(some 4), none, .mv (.const (.bool false))⟩])
 (.seq (.reg [1, 2] [⟨(some 5), none, .mv (.tmp 1)⟩, ⟨(some 6), none, .bin .geq 3 (.tmp 5) (.const (.int .i64 0))⟩, ⟨(some 7), none, .mv (.tmp 6)⟩, ⟨(some 8), (some (7, true)), .mv (.tmp 1)⟩, ⟨(some 9), (some (7, true)), .fld 0 (.tmp 2)⟩, ⟨(some 10), (some (7, true)), .load 1 false (.tmp 9)⟩, ⟨(some 11), (some (7, true)), .bin .lss 3 (.tmp 8) (.tmp 10)⟩, ⟨(some 12), none, .pick (.tmp 7) (.tmp 11) (.const (.bool false))⟩, ⟨(some 4), none, .mv (.tmp 12)⟩])
 .ret))
theorem fn_waymarkref1_Node : FnOk Try.prog 70 Try.f70 sc_waymarkref1_Node [.tmp 4] 2 := ⟨Try.func70, by kernel_rfl, by kernel_rfl, by kernel_rfl, by kernel_rfl, by kernel_rfl, by kernel_rfl⟩

/- 71 slices.Contains[[]int,int]: slots 0 s, 1 v, 2 s, 3 v -/
def sc_slices_Contains_int_int : SCode :=
 (.seq (.reg [0, 1] [⟨(some 4), none, .mv (.const (.bool false))⟩])
 (.seq (.reg [0, 1] [⟨(some 5), none, .mv (.tmp 0)⟩, ⟨(some 6), none, .mv (.tmp 1)⟩, ⟨(some 7), none, .call 82 [(.tmp 5), (.tmp 6)]⟩, ⟨(some 8), none, .bin .geq 3 (.tmp 7) (.const (.int .i64 0))⟩, ⟨(some 4), none, .mv (.tmp 8)⟩])
 .ret))
theorem fn_slices_Contains_int_int : FnOk Try.prog 71 Try.f71 sc_slices_Contains_int_int [.tmp 4] 2 := ⟨Try.func71, by kernel_rfl, by kernel_rfl, by kernel_rfl, by kernel_rfl, by kernel_rfl, by kernel_rfl⟩

/- loop of waymark/waymarkref1.has, wants [0, 1, 5] [] -/
def sc_waymarkref1_has_L0 : SCode :=
 (.seq (.seq (.reg [0, 1, 5] [⟨(some 6), none, .mv (.tmp 5)⟩, ⟨(some 7), none, .mv (.tmp 0)⟩, ⟨(some 8), none, .len false (.tmp 7)⟩, ⟨(some 9), none, .bin .lss 3 (.tmp 6) (.tmp 8)⟩])
 (.cond (.tmp 9) .skip (.exit 0)))
 (.seq (.block 1 (.seq (.reg [0, 1, 5] [⟨(some 12), none, .mv (.tmp 0)⟩, ⟨(some 13), none, .mv (.tmp 5)⟩, ⟨(some 14), none, .ia none 1 (.tmp 12) (.tmp 13)⟩, ⟨(some 15), none, .load 1 false (.tmp 14)⟩, ⟨(some 16), none, .mv (.tmp 1)⟩, ⟨(some 17), none, .bin .eql 3 (.tmp 15) (.tmp 16)⟩])
 (.cond (.tmp 17) (.seq (.reg [] [⟨(some 4), none, .mv (.const (.bool true))⟩])
 .ret) .skip)))
 (.reg [0, 1, 5] [⟨(some 10), none, .mv (.tmp 5)⟩, ⟨(some 11), none, .bin .add 3 (.tmp 10) (.const (.int .i64 1))⟩, ⟨(some 5), none, .mv (.tmp 11)⟩])))
/- 72 waymark/waymarkref1.has: slots 0 l, 1 n, 2 l, 3 n, 5 i -/
def sc_waymarkref1_has : SCode :=
 (.seq (.reg [0, 1] [⟨(some 4), none, .mv (.const (.bool false))⟩])
 (.seq (.seq (.reg [0, 1] [⟨(some 5), none, .mv (.const (.int .i64 0))⟩])
 (.block 0 (.loop [0, 1, 5] [] sc_waymarkref1_has_L0)))
 (.seq (.reg [] [⟨(some 4), none, .mv (.const (.bool false))⟩])
 .ret)))
theorem fn_waymarkref1_has : FnOk Try.prog 72 Try.f72 sc_waymarkref1_has [.tmp 4] 2 := ⟨Try.func72, by kernel_rfl, by kernel_rfl, by kernel_rfl, by kernel_rfl, by kernel_rfl, by kernel_rfl⟩

end Go.Proofs.Ytkephdahbplhfaa
