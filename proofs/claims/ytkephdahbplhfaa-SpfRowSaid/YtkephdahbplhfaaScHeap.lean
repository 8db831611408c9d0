import Derived.Test.YtkephdahbplhfaaProg
import Derived.Test.YtkephdahbplhfaaAbsG
set_option maxRecDepth 100000
namespace Go.Proofs.Ytkephdahbplhfaa
open Go Abs

/- loop of (*waymark/heap.Heap).Push, wants [0, 6] [] -/
def sc_heap_Heap_Push_L0 : SCode :=
 (.seq (.seq (.reg [0, 6] [⟨(some 28), none, .mv (.tmp 6)⟩, ⟨(some 29), none, .bin .gtr 3 (.tmp 28) (.const (.int .i64 0))⟩])
 (.cond (.tmp 29) .skip (.exit 0)))
 (.block 1 (.seq (.reg [0, 6] [⟨(some 30), none, .mv (.tmp 6)⟩, ⟨(some 31), none, .bin .sub 3 (.tmp 30) (.const (.int .i64 1))⟩, ⟨(some 32), none, .bin .quo 3 (.tmp 31) (.const (.int .i64 2))⟩, ⟨(some 7), none, .mv (.tmp 32)⟩])
 (.seq (.seq (.draw [0, 6, 7] [⟨(some 33), none, .mv (.tmp 0)⟩, ⟨(some 34), none, .nilc (.tmp 33)⟩, ⟨(some 35), none, .fld 0 (.tmp 34)⟩, ⟨(some 36), none, .load 1 false (.tmp 35)⟩, ⟨(some 37), none, .mv (.tmp 6)⟩, ⟨(some 38), none, .ia none 2 (.tmp 36) (.tmp 37)⟩, ⟨(some 39), none, .load 2 true (.tmp 38)⟩, ⟨(some 40), none, .mv (.tmp 0)⟩, ⟨(some 41), none, .nilc (.tmp 40)⟩, ⟨(some 42), none, .fld 0 (.tmp 41)⟩, ⟨(some 43), none, .load 1 false (.tmp 42)⟩, ⟨(some 44), none, .mv (.tmp 7)⟩, ⟨(some 45), none, .ia none 2 (.tmp 43) (.tmp 44)⟩, ⟨(some 46), none, .load 2 true (.tmp 45)⟩, ⟨(some 47), none, .call 83 [(.tmp 39), (.tmp 46)]⟩, ⟨(some 48), none, .un .not (.tmp 47)⟩])
 (.cond (.tmp 48) .ret .skip))
 (.seq (.draw [0, 6, 7] [⟨(some 49), none, .mv (.tmp 0)⟩, ⟨(some 50), none, .nilc (.tmp 49)⟩, ⟨(some 51), none, .fld 0 (.tmp 50)⟩, ⟨(some 52), none, .load 1 false (.tmp 51)⟩, ⟨(some 53), none, .mv (.tmp 6)⟩, ⟨(some 54), none, .mv (.tmp 0)⟩, ⟨(some 55), none, .nilc (.tmp 54)⟩, ⟨(some 56), none, .fld 0 (.tmp 55)⟩, ⟨(some 57), none, .load 1 false (.tmp 56)⟩, ⟨(some 58), none, .mv (.tmp 7)⟩, ⟨(some 59), none, .mv (.tmp 0)⟩, ⟨(some 60), none, .nilc (.tmp 59)⟩, ⟨(some 61), none, .fld 0 (.tmp 60)⟩, ⟨(some 62), none, .load 1 false (.tmp 61)⟩, ⟨(some 63), none, .mv (.tmp 7)⟩, ⟨(some 64), none, .ia none 2 (.tmp 62) (.tmp 63)⟩, ⟨(some 65), none, .load 2 true (.tmp 64)⟩, ⟨(some 66), none, .mv (.tmp 0)⟩, ⟨(some 67), none, .nilc (.tmp 66)⟩, ⟨(some 68), none, .fld 0 (.tmp 67)⟩, ⟨(some 69), none, .load 1 false (.tmp 68)⟩, ⟨(some 70), none, .mv (.tmp 6)⟩, ⟨(some 71), none, .ia none 2 (.tmp 69) (.tmp 70)⟩, ⟨(some 72), none, .load 2 true (.tmp 71)⟩, ⟨(some 73), none, .ia none 2 (.tmp 52) (.tmp 53)⟩, ⟨none, none, .store 2 (.tmp 73) (.tmp 65)⟩, ⟨(some 74), none, .ia none 2 (.tmp 57) (.tmp 58)⟩, ⟨none, none, .store 2 (.tmp 74) (.tmp 72)⟩])
 (.reg [0, 7] [⟨(some 75), none, .mv (.tmp 7)⟩, ⟨(some 6), none, .mv (.tmp 75)⟩]))))))
/- 74 (*waymark/heap.Heap).Push: slots 0 h, 1 key, 2 value, 3 h, 4 key, 5 value, 6 i, 7 up -/
def sc_heap_Heap_Push : SCode :=
 (.seq (.seq (.reg [0, 1, 2] [⟨(some 8), none, .mv (.tmp 0)⟩, ⟨(some 9), none, .isnil .p false (.tmp 8)⟩])
 (.cond (.tmp 9) .ret .skip))
 (.seq (.reg [0, 1, 2] [⟨(some 10), none, .mv (.tmp 0)⟩, ⟨(some 11), none, .mv (.tmp 0)⟩, ⟨(some 12), none, .nilc (.tmp 11)⟩, ⟨(some 13), none, .fld 0 (.tmp 12)⟩, ⟨(some 14), none, .load 1 false (.tmp 13)⟩, ⟨(some 15), none, .mv (.tmp 1)⟩, ⟨(some 16), none, .mv (.tmp 2)⟩, ⟨(some 17), none, .build [(.int .i64 0), (.int .i64 0)] [(0, 1, (.tmp 15)), (1, 1, (.tmp 16))]⟩, ⟨(some 18), none, .bsl 105 2 [(.int .i64 0), (.int .i64 0)] 1 [(0, 2, (.tmp 17))]⟩, ⟨(some 19), none, .hp (.app 88 105 2 16 (.agg #[(.int .i64 0), (.int .i64 0)]) (.tmp 14) (.tmp 18))⟩, ⟨(some 20), none, .nilc (.tmp 10)⟩, ⟨(some 21), none, .fld 0 (.tmp 20)⟩, ⟨none, none, .store 1 (.tmp 21) (.tmp 19)⟩])
 (.seq (.reg [0] [⟨(some 22), none, .mv (.tmp 0)⟩, ⟨(some 23), none, .nilc (.tmp 22)⟩, ⟨(some 24), none, .fld 0 (.tmp 23)⟩, ⟨(some 25), none, .load 1 false (.tmp 24)⟩, ⟨(some 26), none, .len false (.tmp 25)⟩, ⟨(some 27), none, .bin .sub 3 (.tmp 26) (.const (.int .i64 1))⟩, ⟨(some 6), none, .mv (.tmp 27)⟩])
 (.block 0 (.loop [0, 6] [] sc_heap_Heap_Push_L0)))))
theorem fn_heap_Heap_Push : FnOk Try.prog 74 Try.f74 sc_heap_Heap_Push [] 3 := ⟨Try.func74, by kernel_rfl, by kernel_rfl, by kernel_rfl, by kernel_rfl, by kernel_rfl, by kernel_rfl⟩

/- loop of (*waymark/heap.Heap).Pop, wants [0, 5, 7] [] -/
def sc_heap_Heap_Pop_L0 : SCode :=
 (.block 1 (.seq (.reg [0, 5, 7] [⟨(some 45), none, .mv (.tmp 0)⟩, ⟨(some 46), none, .mv (.tmp 7)⟩, ⟨(some 47), none, .call 85 [(.tmp 45), (.tmp 46)]⟩, ⟨(some 8), none, .mv (.tmp 47)⟩])
 (.seq (.seq (.reg [0, 5, 7, 8] [⟨(some 48), none, .mv (.tmp 8)⟩, ⟨(some 49), none, .mv (.tmp 7)⟩, ⟨(some 50), none, .bin .eql 3 (.tmp 48) (.tmp 49)⟩])
 (.cond (.tmp 50) (.seq (.draw [5] [⟨(some 51), none, .fld 0 (.tmp 5)⟩, ⟨(some 52), none, .load 1 false (.tmp 51)⟩, ⟨(some 53), none, .fld 1 (.tmp 5)⟩, ⟨(some 54), none, .load 1 false (.tmp 53)⟩, ⟨(some 2), none, .mv (.tmp 52)⟩, ⟨(some 3), none, .mv (.tmp 54)⟩, ⟨(some 4), none, .mv (.const (.bool true))⟩])
 .ret) .skip))
 (.seq (.draw [0, 5, 7, 8] [⟨(some 55), none, .mv (.tmp 0)⟩, ⟨(some 56), none, .nilc (.tmp 55)⟩, ⟨(some 57), none, .fld 0 (.tmp 56)⟩, ⟨(some 58), none, .load 1 false (.tmp 57)⟩, ⟨(some 59), none, .mv (.tmp 7)⟩, ⟨(some 60), none, .mv (.tmp 0)⟩, ⟨(some 61), none, .nilc (.tmp 60)⟩, ⟨(some 62), none, .fld 0 (.tmp 61)⟩, ⟨(some 63), none, .load 1 false (.tmp 62)⟩, ⟨(some 64), none, .mv (.tmp 8)⟩, ⟨(some 65), none, .mv (.tmp 0)⟩, ⟨(some 66), none, .nilc (.tmp 65)⟩, ⟨(some 67), none, .fld 0 (.tmp 66)⟩, ⟨(some 68), none, .load 1 false (.tmp 67)⟩, ⟨(some 69), none, .mv (.tmp 8)⟩, ⟨(some 70), none, .ia none 2 (.tmp 68) (.tmp 69)⟩, ⟨(some 71), none, .load 2 true (.tmp 70)⟩, ⟨(some 72), none, .mv (.tmp 0)⟩, ⟨(some 73), none, .nilc (.tmp 72)⟩, ⟨(some 74), none, .fld 0 (.tmp 73)⟩, ⟨(some 75), none, .load 1 false (.tmp 74)⟩, ⟨(some 76), none, .mv (.tmp 7)⟩, ⟨(some 77), none, .ia none 2 (.tmp 75) (.tmp 76)⟩, ⟨(some 78), none, .load 2 true (.tmp 77)⟩, ⟨(some 79), none, .ia none 2 (.tmp 58) (.tmp 59)⟩, ⟨none, none, .store 2 (.tmp 79) (.tmp 71)⟩, ⟨(some 80), none, .ia none 2 (.tmp 63) (.tmp 64)⟩, ⟨none, none, .store 2 (.tmp 80) (.tmp 78)⟩])
 (.reg [0, 5, 8] [⟨(some 81), none, .mv (.tmp 8)⟩, ⟨(some 7), none, .mv (.tmp 81)⟩])))))
/- 75 (*waymark/heap.Heap).Pop: slots 0 h, 1 h, 5 first, 6 last, 7 i, 8 k -/
def sc_heap_Heap_Pop : SCode :=
 (.seq (.reg [0] [⟨(some 2), none, .mv (.const (.int .i64 0))⟩, ⟨(some 3), none, .mv (.const (.int .i64 0))⟩, ⟨(some 4), none, .mv (.const (.bool false))⟩])
 (.seq (.seq (.reg [0] [⟨(some 9), none, .mv (.tmp 0)⟩, ⟨(some 10), none, .call 84 [(.tmp 9)]⟩, ⟨(some 11), none, .bin .eql 3 (.tmp 10) (.const (.int .i64 0))⟩])
 (.cond (.tmp 11) (.seq (.reg [] [⟨(some 2), none, .mv (.const (.int .i64 0))⟩, ⟨(some 3), none, .mv (.const (.int .i64 0))⟩, ⟨(some 4), none, .mv (.const (.bool false))⟩])
 .ret) .skip))
 (.seq (.reg [0] [⟨(some 12), none, .mv (.tmp 0)⟩, ⟨(some 13), none, .nilc (.tmp 12)⟩, ⟨(some 14), none, .fld 0 (.tmp 13)⟩, ⟨(some 15), none, .load 1 false (.tmp 14)⟩, ⟨(some 16), none, .ia none 2 (.tmp 15) (.const (.int .i64 0))⟩, ⟨(some 17), none, .load 2 true (.tmp 16)⟩, ⟨(some 5), none, .alloc 105 [(.int .i64 0), (.int .i64 0)]⟩, ⟨none, none, .store 2 (.tmp 5) (.tmp 17)⟩])
 (.seq (.reg [0, 5] [⟨(some 18), none, .mv (.tmp 0)⟩, ⟨(some 19), none, .nilc (.tmp 18)⟩, ⟨(some 20), none, .fld 0 (.tmp 19)⟩, ⟨(some 21), none, .load 1 false (.tmp 20)⟩, ⟨(some 22), none, .len false (.tmp 21)⟩, ⟨(some 23), none, .bin .sub 3 (.tmp 22) (.const (.int .i64 1))⟩, ⟨(some 6), none, .mv (.tmp 23)⟩])
 (.seq (.draw [0, 5, 6] [⟨(some 24), none, .mv (.tmp 0)⟩, ⟨(some 25), none, .nilc (.tmp 24)⟩, ⟨(some 26), none, .fld 0 (.tmp 25)⟩, ⟨(some 27), none, .load 1 false (.tmp 26)⟩, ⟨(some 28), none, .mv (.tmp 0)⟩, ⟨(some 29), none, .nilc (.tmp 28)⟩, ⟨(some 30), none, .fld 0 (.tmp 29)⟩, ⟨(some 31), none, .load 1 false (.tmp 30)⟩, ⟨(some 32), none, .mv (.tmp 6)⟩, ⟨(some 33), none, .ia none 2 (.tmp 31) (.tmp 32)⟩, ⟨(some 34), none, .load 2 true (.tmp 33)⟩, ⟨(some 35), none, .ia none 2 (.tmp 27) (.const (.int .i64 0))⟩, ⟨none, none, .store 2 (.tmp 35) (.tmp 34)⟩])
 (.seq (.reg [0, 5, 6] [⟨(some 36), none, .mv (.tmp 0)⟩, ⟨(some 37), none, .mv (.tmp 0)⟩, ⟨(some 38), none, .nilc (.tmp 37)⟩, ⟨(some 39), none, .fld 0 (.tmp 38)⟩, ⟨(some 40), none, .load 1 false (.tmp 39)⟩, ⟨(some 41), none, .mv (.tmp 6)⟩, ⟨(some 42), none, .slc (some 2) (.tmp 40) none (some (.tmp 41)) none⟩, ⟨(some 43), none, .nilc (.tmp 36)⟩, ⟨(some 44), none, .fld 0 (.tmp 43)⟩, ⟨none, none, .store 1 (.tmp 44) (.tmp 42)⟩])
 (.seq (.reg [0, 5] [⟨(some 7), none, .mv (.const (.int .i64 0))⟩])
 (.block 0 (.loop [0, 5, 7] [] sc_heap_Heap_Pop_L0)))))))))
theorem fn_heap_Heap_Pop : FnOk Try.prog 75 Try.f75 sc_heap_Heap_Pop [.tmp 2, .tmp 3, .tmp 4] 1 := ⟨Try.func75, by kernel_rfl, by kernel_rfl, by kernel_rfl, by kernel_rfl, by kernel_rfl, by kernel_rfl⟩

/- 83 (waymark/heap.pair).ahead: slots 0 p, 1 q, 2 p, 3 q -/
def sc_heap_pair_ahead : SCode :=
 (.seq (.reg [0, 1] [⟨(some 2), none, .box 105 (.tmp 0)⟩, ⟨(some 3), none, .box 105 (.tmp 1)⟩, ⟨(some 4), none, .mv (.const (.bool false))⟩])
 (.seq (.reg [2, 3] [⟨(some 5), none, .fld 0 (.tmp 2)⟩, ⟨(some 6), none, .load 1 false (.tmp 5)⟩, ⟨(some 7), none, .fld 0 (.tmp 3)⟩, ⟨(some 8), none, .load 1 false (.tmp 7)⟩, ⟨(some 9), none, .bin .lss 3 (.tmp 6) (.tmp 8)⟩, ⟨(some 10), none, .mv (.tmp 9)⟩, ⟨(some 11), (some (10, false)), .fld 0 (.tmp 2)⟩, ⟨(some 12), (some (10, false)), .load 1 false (.tmp 11)⟩, ⟨(some 13), (some (10, false)), .fld 0 (.tmp 3)⟩, ⟨(some 14), (some (10, false)), .load 1 false (.tmp 13)⟩, ⟨(some 15), (some (10, false)), .bin .eql 3 (.tmp 12) (.tmp 14)⟩, ⟨(some 16), (some (10, false)), .mv (.tmp 15)⟩, ⟨(some 17), (some (16, true)), .fld 1 (.tmp 2)⟩, ⟨(some 18), (some (16, true)), .load 1 false (.tmp 17)⟩, ⟨(some 19), (some (16, true)), .fld 1 (.tmp 3)⟩, ⟨(some 20), (some (16, true)), .load 1 false (.tmp 19)⟩, ⟨(some 21), (some (16, true)), .bin .lss 3 (.tmp 18) (.tmp 20)⟩, ⟨(some 22), (some (10, false)), .pick (.tmp 16) (.tmp 21) (.const (.bool false))⟩, ⟨(some 23), none, .pick (.tmp 10) (.const (.bool true)) (.tmp 22)⟩, ⟨(some 4), none, .mv (.tmp 23)⟩])
 .ret))
theorem fn_heap_pair_ahead : FnOk Try.prog 83 Try.f83 sc_heap_pair_ahead [.tmp 4] 2 := ⟨Try.func83, by kernel_rfl, by kernel_rfl, by kernel_rfl, by kernel_rfl, by kernel_rfl, by kernel_rfl⟩

/- 84 (*waymark/heap.Heap).Len: slots 0 h, 1 h -/
def sc_heap_Heap_Len : SCode :=
 (.seq (.reg [0] [⟨(some 2), none, .mv (.const (.int .i64 0))⟩])
 (.seq (.seq (.reg [0] [⟨(some 3), none, .mv (.tmp 0)⟩, ⟨(some 4), none, .isnil .p false (.tmp 3)⟩])
 (.cond (.tmp 4) (.seq (.reg [] [⟨(some 2), none, .mv (.const (.int .i64 0))⟩])
 .ret) .skip))
 (.seq (.reg [0] [⟨(some 5), none, .mv (.tmp 0)⟩, ⟨(some 6), none, .nilc (.tmp 5)⟩, ⟨(some 7), none, .fld 0 (.tmp 6)⟩, ⟨(some 8), none, .load 1 false (.tmp 7)⟩, ⟨(some 9), none, .len false (.tmp 8)⟩, ⟨(some 2), none, .mv (.tmp 9)⟩])
 .ret)))
theorem fn_heap_Heap_Len : FnOk Try.prog 84 Try.f84 sc_heap_Heap_Len [.tmp 2] 1 := ⟨Try.func84, by kernel_rfl, by kernel_rfl, by kernel_rfl, by kernel_rfl, by kernel_rfl, by kernel_rfl⟩

/- loop of (*waymark/heap.Heap).least, wants [0, 1, 5, 6] [] -/
def sc_heap_Heap_least_L0 : SCode :=
 (.seq (.seq (.reg [0, 1, 5, 6] [⟨(some 11), none, .mv (.tmp 6)⟩, ⟨(some 12), none, .mv (.tmp 1)⟩, ⟨(some 13), none, .bin .mul 3 (.const (.int .i64 2)) (.tmp 12)⟩, ⟨(some 14), none, .bin .add 3 (.tmp 13) (.const (.int .i64 2))⟩, ⟨(some 15), none, .bin .leq 3 (.tmp 11) (.tmp 14)⟩, ⟨(some 16), none, .mv (.tmp 15)⟩, ⟨(some 17), (some (16, true)), .mv (.tmp 6)⟩, ⟨(some 18), (some (16, true)), .mv (.tmp 0)⟩, ⟨(some 19), (some (16, true)), .nilc (.tmp 18)⟩, ⟨(some 20), (some (16, true)), .fld 0 (.tmp 19)⟩, ⟨(some 21), (some (16, true)), .load 1 false (.tmp 20)⟩, ⟨(some 22), (some (16, true)), .len false (.tmp 21)⟩, ⟨(some 23), (some (16, true)), .bin .lss 3 (.tmp 17) (.tmp 22)⟩, ⟨(some 24), none, .pick (.tmp 16) (.tmp 23) (.const (.bool false))⟩])
 (.cond (.tmp 24) .skip (.exit 0)))
 (.seq (.block 1 (.seq (.draw [0, 1, 5, 6] [⟨(some 27), none, .mv (.tmp 0)⟩, ⟨(some 28), none, .nilc (.tmp 27)⟩, ⟨(some 29), none, .fld 0 (.tmp 28)⟩, ⟨(some 30), none, .load 1 false (.tmp 29)⟩, ⟨(some 31), none, .mv (.tmp 6)⟩, ⟨(some 32), none, .ia none 2 (.tmp 30) (.tmp 31)⟩, ⟨(some 33), none, .load 2 true (.tmp 32)⟩, ⟨(some 34), none, .mv (.tmp 0)⟩, ⟨(some 35), none, .nilc (.tmp 34)⟩, ⟨(some 36), none, .fld 0 (.tmp 35)⟩, ⟨(some 37), none, .load 1 false (.tmp 36)⟩, ⟨(some 38), none, .mv (.tmp 5)⟩, ⟨(some 39), none, .ia none 2 (.tmp 37) (.tmp 38)⟩, ⟨(some 40), none, .load 2 true (.tmp 39)⟩, ⟨(some 41), none, .call 83 [(.tmp 33), (.tmp 40)]⟩])
 (.cond (.tmp 41) (.reg [0, 1, 6] [⟨(some 42), none, .mv (.tmp 6)⟩, ⟨(some 5), none, .mv (.tmp 42)⟩]) .skip)))
 (.reg [0, 1, 5, 6] [⟨(some 25), none, .mv (.tmp 6)⟩, ⟨(some 26), none, .bin .add 3 (.tmp 25) (.const (.int .i64 1))⟩, ⟨(some 6), none, .mv (.tmp 26)⟩])))
/- 85 (*waymark/heap.Heap).least: slots 0 h, 1 i, 2 h, 3 i, 5 best, 6 k -/
def sc_heap_Heap_least : SCode :=
 (.seq (.reg [0, 1] [⟨(some 4), none, .mv (.const (.int .i64 0))⟩])
 (.seq (.reg [0, 1] [⟨(some 7), none, .mv (.tmp 1)⟩, ⟨(some 5), none, .mv (.tmp 7)⟩])
 (.seq (.seq (.reg [0, 1, 5] [⟨(some 8), none, .mv (.tmp 1)⟩, ⟨(some 9), none, .bin .mul 3 (.const (.int .i64 2)) (.tmp 8)⟩, ⟨(some 10), none, .bin .add 3 (.tmp 9) (.const (.int .i64 1))⟩, ⟨(some 6), none, .mv (.tmp 10)⟩])
 (.block 0 (.loop [0, 1, 5, 6] [] sc_heap_Heap_least_L0)))
 (.seq (.reg [5] [⟨(some 43), none, .mv (.tmp 5)⟩, ⟨(some 4), none, .mv (.tmp 43)⟩])
 .ret))))
theorem fn_heap_Heap_least : FnOk Try.prog 85 Try.f85 sc_heap_Heap_least [.tmp 4] 2 := ⟨Try.func85, by kernel_rfl, by kernel_rfl, by kernel_rfl, by kernel_rfl, by kernel_rfl, by kernel_rfl⟩

end Go.Proofs.Ytkephdahbplhfaa
