import Derived.Test.YtkephdahbplhfaaProg
import Derived.Test.YtkephdahbplhfaaAbsG
set_option maxRecDepth 100000
namespace Go.Proofs.Ytkephdahbplhfaa
open Go Abs

/- 69 slices.ContainsFunc[[]int,int]: slots 0 s, 1 f, 2 s, 3 f -/
def sc_slices_ContainsFunc_int_int : SCode :=
 (.seq (.reg [0, 1] [⟨(some 4), none, .mv (.const (.bool false))⟩])
 (.seq (.reg [0, 1] [⟨(some 5), none, .mv (.tmp 0)⟩, ⟨(some 6), none, .mv (.tmp 1)⟩, ⟨(some 7), none, .call 81 [(.tmp 5), (.tmp 6)]⟩, ⟨(some 8), none, .bin .geq 3 (.tmp 7) (.const (.int .i64 0))⟩, ⟨(some 4), none, .mv (.tmp 8)⟩])
 .ret))
theorem fn_slices_ContainsFunc_int_int : FnOk Try.prog 69 Try.f69 sc_slices_ContainsFunc_int_int [.tmp 4] 2 := ⟨Try.func69, by kernel_rfl, by kernel_rfl, by kernel_rfl, by kernel_rfl, by kernel_rfl, by kernel_rfl⟩

/- 71 slices.Contains[[]int,int]: slots 0 s, 1 v, 2 s, 3 v -/
def sc_slices_Contains_int_int : SCode :=
 (.seq (.reg [0, 1] [⟨(some 4), none, .mv (.const (.bool false))⟩])
 (.seq (.reg [0, 1] [⟨(some 5), none, .mv (.tmp 0)⟩, ⟨(some 6), none, .mv (.tmp 1)⟩, ⟨(some 7), none, .call 82 [(.tmp 5), (.tmp 6)]⟩, ⟨(some 8), none, .bin .geq 3 (.tmp 7) (.const (.int .i64 0))⟩, ⟨(some 4), none, .mv (.tmp 8)⟩])
 .ret))
theorem fn_slices_Contains_int_int : FnOk Try.prog 71 Try.f71 sc_slices_Contains_int_int [.tmp 4] 2 := ⟨Try.func71, by kernel_rfl, by kernel_rfl, by kernel_rfl, by kernel_rfl, by kernel_rfl, by kernel_rfl⟩

/- 77 slices.Clone[[]waymark/api.Link,waymark/api.Link]: slots 0 s, 1 s -/
def sc_slices_Clone_api_Link_api_Link : SCode :=
 (.seq (.reg [0] [⟨(some 2), none, .mv (.const (.slice none 0 0))⟩])
 (.seq (.seq (.reg [0] [⟨(some 3), none, .mv (.tmp 0)⟩, ⟨(some 4), none, .isnil .s false (.tmp 3)⟩])
 (.cond (.tmp 4) (.seq (.reg [] [⟨(some 2), none, .mv (.const (.slice none 0 0))⟩])
 .ret) .skip))
 (.seq (.reg [0] [⟨(some 5), none, .hp (.bsl 41 4 [(.int .i64 0), (.int .i64 0), (.int .i64 0), (.int .i64 0)] 0 [])⟩, ⟨(some 6), none, .mv (.tmp 0)⟩, ⟨(some 7), none, .hp (.app 22 41 4 32 (.agg #[(.int .i64 0), (.int .i64 0), (.int .i64 0), (.int .i64 0)]) (.tmp 5) (.tmp 6))⟩, ⟨(some 2), none, .mv (.tmp 7)⟩])
 .ret)))
theorem fn_slices_Clone_api_Link_api_Link : FnOk Try.prog 77 Try.f77 sc_slices_Clone_api_Link_api_Link [.tmp 2] 1 := ⟨Try.func77, by kernel_rfl, by kernel_rfl, by kernel_rfl, by kernel_rfl, by kernel_rfl, by kernel_rfl⟩

/- 79 slices.Clone[[]int,int]: slots 0 s, 1 s -/
def sc_slices_Clone_int_int : SCode :=
 (.seq (.reg [0] [⟨(some 2), none, .mv (.const (.slice none 0 0))⟩])
 (.seq (.seq (.reg [0] [⟨(some 3), none, .mv (.tmp 0)⟩, ⟨(some 4), none, .isnil .s false (.tmp 3)⟩])
 (.cond (.tmp 4) (.seq (.reg [] [⟨(some 2), none, .mv (.const (.slice none 0 0))⟩])
 .ret) .skip))
 (.seq (.reg [0] [⟨(some 5), none, .hp (.bsl 3 1 [(.int .i64 0)] 0 [])⟩, ⟨(some 6), none, .mv (.tmp 0)⟩, ⟨(some 7), none, .hp (.app 35 3 1 8 (.int .i64 0) (.tmp 5) (.tmp 6))⟩, ⟨(some 2), none, .mv (.tmp 7)⟩])
 .ret)))
theorem fn_slices_Clone_int_int : FnOk Try.prog 79 Try.f79 sc_slices_Clone_int_int [.tmp 2] 1 := ⟨Try.func79, by kernel_rfl, by kernel_rfl, by kernel_rfl, by kernel_rfl, by kernel_rfl, by kernel_rfl⟩

/- loop of slices.IndexFunc[[]int,int], wants [0, 1, 7, 8] [] -/
def sc_slices_IndexFunc_int_int_L0 : SCode :=
 (.seq (.reg [0, 1, 7, 8] [⟨(some 9), none, .bin .lss 3 (.tmp 8) (.tmp 7)⟩])
 (.seq (.cond (.tmp 9) .skip (.exit 0))
 (.seq (.block 1 (.seq (.reg [0, 1, 7, 8] [⟨(some 10), none, .mv (.tmp 8)⟩, ⟨(some 5), none, .mv (.tmp 10)⟩])
 (.seq (.reg [0, 1, 5, 7, 8] [⟨(some 11), none, .mv (.tmp 1)⟩, ⟨(some 12), none, .mv (.tmp 0)⟩, ⟨(some 13), none, .mv (.tmp 5)⟩, ⟨(some 14), none, .ia none 1 (.tmp 12) (.tmp 13)⟩, ⟨(some 15), none, .load 1 false (.tmp 14)⟩, ⟨(some 16), none, .cald (.tmp 11) [(.tmp 15)]⟩])
 (.cond (.tmp 16) (.seq (.reg [5] [⟨(some 17), none, .mv (.tmp 5)⟩, ⟨(some 4), none, .mv (.tmp 17)⟩])
 .ret) .skip))))
 (.reg [0, 1, 7, 8] [⟨(some 18), none, .bin .add 3 (.tmp 8) (.const (.int .i64 1))⟩, ⟨(some 8), none, .mv (.tmp 18)⟩]))))
/- 81 slices.IndexFunc[[]int,int]: slots 0 s, 1 f, 2 s, 3 f, 5 i -/
def sc_slices_IndexFunc_int_int : SCode :=
 (.seq (.reg [0, 1] [⟨(some 4), none, .mv (.const (.int .i64 0))⟩])
 (.seq (.seq (.reg [0, 1] [⟨(some 6), none, .mv (.tmp 0)⟩, ⟨(some 7), none, .len false (.tmp 6)⟩, ⟨(some 8), none, .mv (.const (.int .i64 0))⟩])
 (.block 0 (.loop [0, 1, 7, 8] [] sc_slices_IndexFunc_int_int_L0)))
 (.seq (.reg [] [⟨(some 4), none, .mv (.const (.int .i64 (-1)))⟩])
 .ret)))
theorem fn_slices_IndexFunc_int_int : FnOk Try.prog 81 Try.f81 sc_slices_IndexFunc_int_int [.tmp 4] 2 := ⟨Try.func81, by kernel_rfl, by kernel_rfl, by kernel_rfl, by kernel_rfl, by kernel_rfl, by kernel_rfl⟩

/- loop of slices.Index[[]int,int], wants [0, 1, 7, 8] [] -/
def sc_slices_Index_int_int_L0 : SCode :=
 (.seq (.reg [0, 1, 7, 8] [⟨(some 9), none, .bin .lss 3 (.tmp 8) (.tmp 7)⟩])
 (.seq (.cond (.tmp 9) .skip (.exit 0))
 (.seq (.block 1 (.seq (.reg [0, 1, 7, 8] [⟨(some 10), none, .mv (.tmp 8)⟩, ⟨(some 5), none, .mv (.tmp 10)⟩])
 (.seq (.reg [0, 1, 5, 7, 8] [⟨(some 11), none, .mv (.tmp 1)⟩, ⟨(some 12), none, .mv (.tmp 0)⟩, ⟨(some 13), none, .mv (.tmp 5)⟩, ⟨(some 14), none, .ia none 1 (.tmp 12) (.tmp 13)⟩, ⟨(some 15), none, .load 1 false (.tmp 14)⟩, ⟨(some 16), none, .bin .eql 3 (.tmp 11) (.tmp 15)⟩])
 (.cond (.tmp 16) (.seq (.reg [5] [⟨(some 17), none, .mv (.tmp 5)⟩, ⟨(some 4), none, .mv (.tmp 17)⟩])
 .ret) .skip))))
 (.reg [0, 1, 7, 8] [⟨(some 18), none, .bin .add 3 (.tmp 8) (.const (.int .i64 1))⟩, ⟨(some 8), none, .mv (.tmp 18)⟩]))))
/- 82 slices.Index[[]int,int]: slots 0 s, 1 v, 2 s, 3 v, 5 i -/
def sc_slices_Index_int_int : SCode :=
 (.seq (.reg [0, 1] [⟨(some 4), none, .mv (.const (.int .i64 0))⟩])
 (.seq (.seq (.reg [0, 1] [⟨(some 6), none, .mv (.tmp 0)⟩, ⟨(some 7), none, .len false (.tmp 6)⟩, ⟨(some 8), none, .mv (.const (.int .i64 0))⟩])
 (.block 0 (.loop [0, 1, 7, 8] [] sc_slices_Index_int_int_L0)))
 (.seq (.reg [] [⟨(some 4), none, .mv (.const (.int .i64 (-1)))⟩])
 .ret)))
theorem fn_slices_Index_int_int : FnOk Try.prog 82 Try.f82 sc_slices_Index_int_int [.tmp 4] 2 := ⟨Try.func82, by kernel_rfl, by kernel_rfl, by kernel_rfl, by kernel_rfl, by kernel_rfl, by kernel_rfl⟩

end Go.Proofs.Ytkephdahbplhfaa
