/- The table of the compiled functions that the law ConfigOrders reaches: data only. -/
import Derived.Test.YtlomleifnbpghaaVeLogic
set_option linter.all false
namespace Go.VE.CO
open Go Go.VE
set_option maxRecDepth 100000
/-- spigot/spigotlaw43.ConfigOrders -/
def v3 : VFn := ⟨none, 1, [.t 6], (.seq (.reg [p 6 (.mv (.k (.bool false)))] [])
 (.seq (.seq (.reg [p 15 (.mv (.t 0)), p 16 (.callp 4 [(.t 15)]), p 17 (.mv (.t 16)), g 18 17 false (.mv (.t 1)), g 19 17 false (.callp 4 [(.t 18)]), p 20 (.pick (.t 17) (.k (.bool true)) (.t 19))] [])
 (.cond (.t 20) (.seq (.reg [p 6 (.mv (.k (.bool true)))] [])
  .ret)
 .skip))
 (.seq (.reg [p 22 (.mv (.t 0)), p 23 (.mv (.t 2)), p 24 (.callp 5 [(.t 22), (.t 23)]), p 21 (.mv (.t 24)), p 25 (.ext 0 (.t 21)), p 26 (.ext 1 (.t 21)), p 7 (.mv (.t 25)), p 8 (.mv (.t 26))] [])
 (.seq (.reg [p 28 (.mv (.t 0)), p 29 (.mv (.t 2)), p 30 (.callp 6 [(.t 28), (.t 29)]), p 27 (.mv (.t 30)), p 31 (.ext 0 (.t 27)), p 32 (.ext 1 (.t 27)), p 9 (.mv (.t 31)), p 10 (.mv (.t 32))] [])
 (.seq (.reg [p 34 (.mv (.t 0)), p 35 (.mv (.t 1)), p 36 (.mv (.t 2)), p 37 (.callp 7 [(.t 34), (.t 35), (.t 36)]), p 33 (.mv (.t 37)), p 38 (.ext 0 (.t 33)), p 39 (.ext 1 (.t 33)), p 11 (.mv (.t 38)), p 12 (.mv (.t 39))] [])
 (.seq (.reg [p 41 (.mv (.t 0)), p 42 (.mv (.t 1)), p 43 (.mv (.t 2)), p 44 (.callp 8 [(.t 41), (.t 42), (.t 43)]), p 40 (.mv (.t 44)), p 45 (.ext 0 (.t 40)), p 46 (.ext 1 (.t 40)), p 13 (.mv (.t 45)), p 14 (.mv (.t 46))] [])
 (.seq (.reg [p 47 (.mv (.t 7)), p 48 (.mv (.t 9)), p 49 (.callp 9 [(.t 47), (.t 48)]), p 50 (.mv (.t 49)), g 51 50 true (.mv (.t 8)), g 52 50 true (.mv (.t 10)), g 53 50 true (.bin .eql (.t 51) (.t 52)), p 54 (.pick (.t 50) (.t 53) (.k (.bool false))), p 55 (.mv (.t 54)), g 56 55 true (.mv (.t 11)), g 57 55 true (.mv (.t 13)), g 58 55 true (.callp 9 [(.t 56), (.t 57)]), p 59 (.pick (.t 55) (.t 58) (.k (.bool false))), p 60 (.mv (.t 59)), g 61 60 true (.mv (.t 12)), g 62 60 true (.mv (.t 14)), g 63 60 true (.bin .eql (.t 61) (.t 62)), p 64 (.pick (.t 60) (.t 63) (.k (.bool false))), p 6 (.mv (.t 64))] [])
 .ret)))))))⟩
/-- spigot/spigotref43.Great -/
def v4 : VFn := ⟨none, 1, [.t 2], (.seq (.reg [p 2 (.mv (.k (.bool false)))] [])
 (.seq (.seq (.reg [p 3 (.mv (.k (.int .i64 0)))] [])
 (.block 0 (.loop (.seq (.seq (.reg [p 4 (.mv (.t 3)), p 5 (.mv (.t 0)), p 6 (.len (.t 5)), p 7 (.bin .lss (.t 4) (.t 6))] [])
   (.cond (.t 7) .skip
   (.exit 0)))
   (.seq (.block 1 (.seq (.reg [p 10 (.mv (.t 0)), p 11 (.mv (.t 3)), p 12 (.ia 13 (.t 10) (.t 11)), p 13 (.fa 12 (.t 12)), p 14 (.ld none (.t 13)), p 15 (.len (.t 14)), p 16 (.bin .gtr (.t 15) (.k (.int .i64 30)))] [])
    (.cond (.t 16) (.seq (.reg [p 2 (.mv (.k (.bool true)))] [])
     .ret)
    .skip)))
   (.reg [p 8 (.mv (.t 3)), p 9 (.bin .add (.t 8) (.k (.int .i64 1))), p 3 (.mv (.t 9))] []))))))
 (.seq (.reg [p 17 (.mv (.t 0)), p 18 (.len (.t 17)), p 19 (.bin .gtr (.t 18) (.k (.int .i64 20))), p 2 (.mv (.t 19))] [])
 .ret)))⟩
/-- spigot/config.Commands -/
def v5 : VFn := ⟨none, 1, [.t 4, .t 5], (.seq (.reg [p 4 (.mv (.k .nils)), p 5 (.mv (.k (.int .i64 0)))] [])
 (.seq (.reg [p 6 (.mv (.t 0)), p 7 (.mv (.t 1)), p 8 (.callp 7 [(.k .nils), (.t 6), (.t 7)]), p 9 (.ext 0 (.t 8)), p 10 (.ext 1 (.t 8)), p 4 (.mv (.t 9)), p 5 (.mv (.t 10))] [])
 .ret))⟩
/-- spigot/spigotref43.Commands -/
def v6 : VFn := ⟨none, 1, [.t 4, .t 5], (.seq (.reg [p 4 (.mv (.k .nils)), p 5 (.mv (.k (.int .i64 0)))] [])
 (.seq (.seq (.reg [p 9 (.mv (.t 0)), p 10 (.callp 10 [(.t 9)]), p 6 (.mv (.t 10))] [])
 (.seq (.reg [p 11 (.mv (.t 6)), p 12 (.bin .neq (.t 11) (.k (.int .i64 0)))] [])
 (.cond (.t 12) (.seq (.reg [p 13 (.mv (.t 6)), p 4 (.mv (.k .nils)), p 5 (.mv (.t 13))] [])
  .ret)
 .skip)))
 (.seq (.reg [p 7 (.mv (.k .nils))] [])
 (.seq (.seq (.reg [p 8 (.mv (.k (.int .i64 0)))] [])
 (.block 0 (.loop (.seq (.seq (.reg [p 14 (.mv (.t 8)), p 15 (.mv (.t 0)), p 16 (.len (.t 15)), p 17 (.bin .lss (.t 14) (.t 16))] [])
   (.cond (.t 17) .skip
   (.exit 0)))
   (.seq (.block 1 (.reg [p 20 (.mv (.t 7)), p 21 (.mv (.t 0)), p 22 (.mv (.t 8)), p 23 (.ia 13 (.t 21) (.t 22)), p 24 (.ld (some 13) (.t 23)), p 25 (.mv (.t 1)), p 26 (.call 11 [(.t 20), (.t 24), (.t 25)]), p 7 (.mv (.t 26))] []))
   (.reg [p 18 (.mv (.t 8)), p 19 (.bin .add (.t 18) (.k (.int .i64 1))), p 8 (.mv (.t 19))] []))))))
 (.seq (.reg [p 27 (.mv (.t 7)), p 4 (.mv (.t 27)), p 5 (.mv (.k (.int .i64 0)))] [])
 .ret)))))⟩
/-- spigot/config.Change -/
def v7 : VFn := ⟨none, 1, [.t 6, .t 7], (.seq (.reg [p 6 (.mv (.k .nils)), p 7 (.mv (.k (.int .i64 0)))] [])
 (.seq (.seq (.reg [p 18 (.mv (.t 0)), p 19 (.mv (.t 1)), p 20 (.bsl 2 1 [.nils, .nils] [(0, 1, (.t 18)), (1, 1, (.t 19))]), p 21 (.len (.t 20)), p 22 (.mv (.k (.int .i64 0)))] [])
 (.block 0 (.loop (.seq (.reg [p 23 (.bin .lss (.t 22) (.t 21))] [])
   (.seq (.cond (.t 23) .skip
   (.exit 0))
   (.seq (.block 1 (.seq (.reg [p 24 (.ia 1 (.t 20) (.t 22)), p 25 (.ld none (.t 24)), p 9 (.mv (.t 25))] [])
    (.seq (.reg [p 26 (.mv (.t 9)), p 27 (.callp 12 [(.t 26)]), p 10 (.mv (.t 27))] [])
    (.seq (.reg [p 28 (.mv (.t 10)), p 29 (.bin .neq (.t 28) (.k (.int .i64 0)))] [])
    (.cond (.t 29) (.seq (.reg [p 30 (.mv (.t 10)), p 6 (.mv (.k .nils)), p 7 (.mv (.t 30))] [])
     .ret)
    .skip)))))
   (.reg [p 31 (.bin .add (.t 22) (.k (.int .i64 1))), p 22 (.mv (.t 31))] [])))))))
 (.seq (.reg [p 32 (.mv (.t 2)), p 33 (.build [(.int .u64 0), .nils] [(0, 1, (.t 32))]), p 34 (.box 2 (.t 33)), p 11 (.mv (.t 34))] [])
 (.seq (.seq (.reg [p 35 (.mv (.t 0)), p 36 (.len (.t 35)), p 37 (.mv (.k (.int .i64 0)))] [])
 (.block 2 (.loop (.seq (.reg [p 38 (.bin .lss (.t 37) (.t 36))] [])
   (.seq (.cond (.t 38) .skip
   (.exit 2))
   (.seq (.block 3 (.seq (.reg [p 39 (.ia 13 (.t 35) (.t 37)), p 40 (.ld (some 13) (.t 39)), p 13 (.alloc 41 [(.int .u32 0), (.int .i64 0), (.int .i64 0), (.int .i64 0), (.int .i64 0), (.int .i64 0), (.int .i64 0), (.int .i64 0), (.int .i64 0), (.int .i64 0), (.int .u8 0), (.int .u8 0), .nils]), n (.st 13 (.t 13) (.t 40))] [])
    (.seq (.reg [p 41 (.mv (.t 1)), p 42 (.ld (some 13) (.t 13)), p 43 (.callp 13 [(.t 41), (.t 42)]), p 44 (.bin .lss (.t 43) (.k (.int .i64 0)))] [])
    (.cond (.t 44) (.reg [p 45 (.mv (.t 11)), p 46 (.fa 0 (.t 13)), p 47 (.ld none (.t 46)), p 48 (.build [(.int .u8 0), (.int .u32 0), (.int .u32 0), (.int .i64 0), (.int .i64 0), (.int .i64 0), (.int .i64 0), (.int .i64 0), (.int .i64 0), (.int .i64 0), (.int .i64 0), (.int .i64 0), (.int .u8 0), (.int .u8 0), (.int .u64 0), (.int .u8 0), (.int .u8 0), (.int .u8 0), (.int .u8 0), (.int .u8 0), (.int .u8 0), (.int .u8 0), (.int .u8 0), (.int .u8 0), (.int .u8 0), (.int .u8 0), (.int .u8 0), (.int .u8 0), (.int .u8 0), (.int .u8 0), (.int .u8 0), (.int .u8 0), (.int .u8 0), (.int .u8 0), (.int .u8 0), (.int .u8 0), (.int .u8 0), (.int .u8 0), (.int .u8 0), (.int .u8 0), (.int .u8 0), (.int .u8 0), (.int .u8 0), (.int .u8 0), (.int .u8 0), (.int .u8 0), (.int .u8 0)] [(0, 1, (.k (.int .u8 2))), (1, 1, (.t 47))]), p 49 (.call 14 [(.t 45), (.t 48)])] [])
    .skip))))
   (.reg [p 50 (.bin .add (.t 37) (.k (.int .i64 1))), p 37 (.mv (.t 50))] [])))))))
 (.seq (.seq (.reg [p 51 (.mv (.t 1)), p 52 (.len (.t 51)), p 53 (.mv (.k (.int .i64 0)))] [])
 (.block 4 (.loop (.seq (.reg [p 54 (.bin .lss (.t 53) (.t 52))] [])
   (.seq (.cond (.t 54) .skip
   (.exit 4))
   (.seq (.block 5 (.seq (.reg [p 55 (.ia 13 (.t 51) (.t 53)), p 56 (.ld (some 13) (.t 55)), p 15 (.alloc 41 [(.int .u32 0), (.int .i64 0), (.int .i64 0), (.int .i64 0), (.int .i64 0), (.int .i64 0), (.int .i64 0), (.int .i64 0), (.int .i64 0), (.int .i64 0), (.int .u8 0), (.int .u8 0), .nils]), n (.st 13 (.t 15) (.t 56))] [])
    (.seq (.reg [p 57 (.mv (.t 0)), p 58 (.ld (some 13) (.t 15)), p 59 (.callp 13 [(.t 57), (.t 58)]), p 16 (.mv (.t 59))] [])
    (.seq (.seq (.reg [p 60 (.mv (.t 16)), p 61 (.bin .lss (.t 60) (.k (.int .i64 0)))] [])
    (.cond (.t 61) (.seq (.reg [p 62 (.mv (.t 11)), p 63 (.ld (some 13) (.t 15)), p 64 (.call 15 [(.t 62), (.t 63)])] [])
     (.exit 5))
    .skip))
    (.seq (.reg [p 65 (.mv (.t 0)), p 66 (.mv (.t 16)), p 67 (.ia 13 (.t 65) (.t 66)), p 68 (.ld (some 13) (.t 67)), p 17 (.alloc 41 [(.int .u32 0), (.int .i64 0), (.int .i64 0), (.int .i64 0), (.int .i64 0), (.int .i64 0), (.int .i64 0), (.int .i64 0), (.int .i64 0), (.int .i64 0), (.int .u8 0), (.int .u8 0), .nils]), n (.st 13 (.t 17) (.t 68))] [])
    (.seq (.seq (.reg [p 69 (.fa 1 (.t 17)), p 70 (.ld (some 9) (.t 69)), p 71 (.fa 1 (.t 15)), p 72 (.ld (some 9) (.t 71)), p 73 (.eqa true [0, 0, 0, 0, 0, 0, 0, 0, 0] (.t 70) (.t 72))] [])
    (.cond (.t 73) (.reg [p 74 (.mv (.t 11)), p 75 (.fa 0 (.t 15)), p 76 (.ld none (.t 75)), p 77 (.fa 1 (.t 15)), p 78 (.ld (some 9) (.t 77)), p 79 (.build [(.int .u8 0), (.int .u32 0), (.int .u32 0), (.int .i64 0), (.int .i64 0), (.int .i64 0), (.int .i64 0), (.int .i64 0), (.int .i64 0), (.int .i64 0), (.int .i64 0), (.int .i64 0), (.int .u8 0), (.int .u8 0), (.int .u64 0), (.int .u8 0), (.int .u8 0), (.int .u8 0), (.int .u8 0), (.int .u8 0), (.int .u8 0), (.int .u8 0), (.int .u8 0), (.int .u8 0), (.int .u8 0), (.int .u8 0), (.int .u8 0), (.int .u8 0), (.int .u8 0), (.int .u8 0), (.int .u8 0), (.int .u8 0), (.int .u8 0), (.int .u8 0), (.int .u8 0), (.int .u8 0), (.int .u8 0), (.int .u8 0), (.int .u8 0), (.int .u8 0), (.int .u8 0), (.int .u8 0), (.int .u8 0), (.int .u8 0), (.int .u8 0), (.int .u8 0), (.int .u8 0)] [(0, 1, (.k (.int .u8 3))), (1, 1, (.t 76)), (3, 9, (.t 78))]), p 80 (.call 14 [(.t 74), (.t 79)])] [])
    .skip))
    (.seq (.seq (.reg [p 81 (.fa 12 (.t 17)), p 82 (.ld none (.t 81)), p 83 (.mkf 17 [(.t 15)]), p 84 (.callp 16 [(.t 82), (.t 83)])] [])
    (.cond (.t 84) (.seq (.reg [p 85 (.mv (.t 11)), p 86 (.fa 0 (.t 15)), p 87 (.ld none (.t 86)), p 88 (.build [(.int .u8 0), (.int .u32 0), (.int .u32 0), (.int .i64 0), (.int .i64 0), (.int .i64 0), (.int .i64 0), (.int .i64 0), (.int .i64 0), (.int .i64 0), (.int .i64 0), (.int .i64 0), (.int .u8 0), (.int .u8 0), (.int .u64 0), (.int .u8 0), (.int .u8 0), (.int .u8 0), (.int .u8 0), (.int .u8 0), (.int .u8 0), (.int .u8 0), (.int .u8 0), (.int .u8 0), (.int .u8 0), (.int .u8 0), (.int .u8 0), (.int .u8 0), (.int .u8 0), (.int .u8 0), (.int .u8 0), (.int .u8 0), (.int .u8 0), (.int .u8 0), (.int .u8 0), (.int .u8 0), (.int .u8 0), (.int .u8 0), (.int .u8 0), (.int .u8 0), (.int .u8 0), (.int .u8 0), (.int .u8 0), (.int .u8 0), (.int .u8 0), (.int .u8 0), (.int .u8 0)] [(0, 1, (.k (.int .u8 4))), (1, 1, (.t 87))]), p 89 (.call 14 [(.t 85), (.t 88)])] [])
     (.reg [p 90 (.fa 12 (.t 17)), n (.st 1 (.t 90) (.k .nils))] []))
    .skip))
    (.reg [p 91 (.mv (.t 11)), p 92 (.ld (some 13) (.t 15)), p 93 (.fa 12 (.t 17)), p 94 (.ld none (.t 93)), p 95 (.call 19 [(.t 91), (.t 92), (.t 94)])] []))))))))
   (.reg [p 96 (.bin .add (.t 53) (.k (.int .i64 1))), p 53 (.mv (.t 96))] [])))))))
 (.seq (.reg [p 97 (.mv (.t 11)), p 98 (.nck (.t 97)), p 99 (.fa 1 (.t 98)), p 100 (.ld none (.t 99)), p 6 (.mv (.t 100)), p 7 (.mv (.k (.int .i64 0)))] [])
 .ret))))))⟩
/-- spigot/spigotref43.Change -/
def v8 : VFn := ⟨none, 1, [.t 6, .t 7], (.seq (.reg [p 6 (.mv (.k .nils)), p 7 (.mv (.k (.int .i64 0)))] [])
 (.seq (.seq (.reg [p 19 (.mv (.t 0)), p 20 (.callp 10 [(.t 19)]), p 8 (.mv (.t 20))] [])
 (.seq (.reg [p 21 (.mv (.t 8)), p 22 (.bin .neq (.t 21) (.k (.int .i64 0)))] [])
 (.cond (.t 22) (.seq (.reg [p 23 (.mv (.t 8)), p 6 (.mv (.k .nils)), p 7 (.mv (.t 23))] [])
  .ret)
 .skip)))
 (.seq (.seq (.reg [p 24 (.mv (.t 1)), p 25 (.callp 10 [(.t 24)]), p 9 (.mv (.t 25))] [])
 (.seq (.reg [p 26 (.mv (.t 9)), p 27 (.bin .neq (.t 26) (.k (.int .i64 0)))] [])
 (.cond (.t 27) (.seq (.reg [p 28 (.mv (.t 9)), p 6 (.mv (.k .nils)), p 7 (.mv (.t 28))] [])
  .ret)
 .skip)))
 (.seq (.reg [p 10 (.mv (.k .nils))] [])
 (.seq (.seq (.reg [p 11 (.mv (.k (.int .i64 0)))] [])
 (.block 0 (.loop (.seq (.seq (.reg [p 29 (.mv (.t 11)), p 30 (.mv (.t 0)), p 31 (.len (.t 30)), p 32 (.bin .lss (.t 29) (.t 31))] [])
   (.cond (.t 32) .skip
   (.exit 0)))
   (.seq (.block 1 (.seq (.reg [p 36 (.mv (.t 1)), p 37 (.mv (.t 0)), p 38 (.mv (.t 11)), p 39 (.ia 13 (.t 37) (.t 38)), p 40 (.ld (some 13) (.t 39)), p 41 (.callp 20 [(.t 36), (.t 40)]), p 35 (.mv (.t 41)), p 42 (.ext 0 (.t 35)), p 43 (.ext 1 (.t 35)), p 12 (.alloc 41 [(.int .u32 0), (.int .i64 0), (.int .i64 0), (.int .i64 0), (.int .i64 0), (.int .i64 0), (.int .i64 0), (.int .i64 0), (.int .i64 0), (.int .i64 0), (.int .u8 0), (.int .u8 0), .nils]), n (.st 13 (.t 12) (.t 42)), p 13 (.mv (.t 43))] [])
    (.seq (.reg [p 44 (.mv (.t 13)), p 45 (.un .not (.t 44))] [])
    (.cond (.t 45) (.reg [p 46 (.mv (.t 10)), p 47 (.mv (.t 0)), p 48 (.mv (.t 11)), p 49 (.ia 13 (.t 47) (.t 48)), p 50 (.fa 0 (.t 49)), p 51 (.ld none (.t 50)), p 52 (.mv (.t 2)), p 53 (.build [(.int .u8 0), (.int .u32 0), (.int .u32 0), (.int .i64 0), (.int .i64 0), (.int .i64 0), (.int .i64 0), (.int .i64 0), (.int .i64 0), (.int .i64 0), (.int .i64 0), (.int .i64 0), (.int .u8 0), (.int .u8 0), (.int .u64 0), (.int .u8 0), (.int .u8 0), (.int .u8 0), (.int .u8 0), (.int .u8 0), (.int .u8 0), (.int .u8 0), (.int .u8 0), (.int .u8 0), (.int .u8 0), (.int .u8 0), (.int .u8 0), (.int .u8 0), (.int .u8 0), (.int .u8 0), (.int .u8 0), (.int .u8 0), (.int .u8 0), (.int .u8 0), (.int .u8 0), (.int .u8 0), (.int .u8 0), (.int .u8 0), (.int .u8 0), (.int .u8 0), (.int .u8 0), (.int .u8 0), (.int .u8 0), (.int .u8 0), (.int .u8 0), (.int .u8 0), (.int .u8 0)] [(0, 1, (.k (.int .u8 2))), (1, 1, (.t 51)), (14, 1, (.t 52))]), p 54 (.bsl 1 47 [(.int .u8 0), (.int .u32 0), (.int .u32 0), (.int .i64 0), (.int .i64 0), (.int .i64 0), (.int .i64 0), (.int .i64 0), (.int .i64 0), (.int .i64 0), (.int .i64 0), (.int .i64 0), (.int .u8 0), (.int .u8 0), (.int .u64 0), (.int .u8 0), (.int .u8 0), (.int .u8 0), (.int .u8 0), (.int .u8 0), (.int .u8 0), (.int .u8 0), (.int .u8 0), (.int .u8 0), (.int .u8 0), (.int .u8 0), (.int .u8 0), (.int .u8 0), (.int .u8 0), (.int .u8 0), (.int .u8 0), (.int .u8 0), (.int .u8 0), (.int .u8 0), (.int .u8 0), (.int .u8 0), (.int .u8 0), (.int .u8 0), (.int .u8 0), (.int .u8 0), (.int .u8 0), (.int .u8 0), (.int .u8 0), (.int .u8 0), (.int .u8 0), (.int .u8 0), (.int .u8 0)] [(0, 47, (.t 53))]), p 55 (.app 47 136 (.t 46) (.t 54)), p 10 (.mv (.t 55))] [])
    .skip))))
   (.reg [p 33 (.mv (.t 11)), p 34 (.bin .add (.t 33) (.k (.int .i64 1))), p 11 (.mv (.t 34))] []))))))
 (.seq (.seq (.reg [p 14 (.mv (.k (.int .i64 0)))] [])
 (.block 2 (.loop (.seq (.seq (.reg [p 56 (.mv (.t 14)), p 57 (.mv (.t 1)), p 58 (.len (.t 57)), p 59 (.bin .lss (.t 56) (.t 58))] [])
   (.cond (.t 59) .skip
   (.exit 2)))
   (.seq (.block 3 (.seq (.reg [p 63 (.mv (.t 0)), p 64 (.mv (.t 1)), p 65 (.mv (.t 14)), p 66 (.ia 13 (.t 64) (.t 65)), p 67 (.ld (some 13) (.t 66)), p 68 (.callp 20 [(.t 63), (.t 67)]), p 62 (.mv (.t 68)), p 69 (.ext 0 (.t 62)), p 70 (.ext 1 (.t 62)), p 15 (.alloc 41 [(.int .u32 0), (.int .i64 0), (.int .i64 0), (.int .i64 0), (.int .i64 0), (.int .i64 0), (.int .i64 0), (.int .i64 0), (.int .i64 0), (.int .i64 0), (.int .u8 0), (.int .u8 0), .nils]), n (.st 13 (.t 15) (.t 69)), p 16 (.mv (.t 70))] [])
    (.seq (.seq (.reg [p 71 (.mv (.t 16)), p 72 (.un .not (.t 71))] [])
    (.cond (.t 72) (.seq (.reg [p 73 (.mv (.t 10)), p 74 (.mv (.t 1)), p 75 (.mv (.t 14)), p 76 (.ia 13 (.t 74) (.t 75)), p 77 (.ld (some 13) (.t 76)), p 78 (.mv (.t 2)), p 79 (.call 11 [(.t 73), (.t 77), (.t 78)]), p 10 (.mv (.t 79))] [])
     (.exit 3))
    .skip))
    (.seq (.seq (.reg [p 80 (.fa 1 (.t 15)), p 81 (.ld (some 9) (.t 80)), p 82 (.mv (.t 1)), p 83 (.mv (.t 14)), p 84 (.ia 13 (.t 82) (.t 83)), p 85 (.fa 1 (.t 84)), p 86 (.ld (some 9) (.t 85)), p 87 (.eqa true [0, 0, 0, 0, 0, 0, 0, 0, 0] (.t 81) (.t 86))] [])
    (.cond (.t 87) (.reg [p 88 (.mv (.t 10)), p 89 (.mv (.t 1)), p 90 (.mv (.t 14)), p 91 (.ia 13 (.t 89) (.t 90)), p 92 (.fa 0 (.t 91)), p 93 (.ld none (.t 92)), p 94 (.mv (.t 1)), p 95 (.mv (.t 14)), p 96 (.ia 13 (.t 94) (.t 95)), p 97 (.fa 1 (.t 96)), p 98 (.ld (some 9) (.t 97)), p 99 (.mv (.t 2)), p 100 (.build [(.int .u8 0), (.int .u32 0), (.int .u32 0), (.int .i64 0), (.int .i64 0), (.int .i64 0), (.int .i64 0), (.int .i64 0), (.int .i64 0), (.int .i64 0), (.int .i64 0), (.int .i64 0), (.int .u8 0), (.int .u8 0), (.int .u64 0), (.int .u8 0), (.int .u8 0), (.int .u8 0), (.int .u8 0), (.int .u8 0), (.int .u8 0), (.int .u8 0), (.int .u8 0), (.int .u8 0), (.int .u8 0), (.int .u8 0), (.int .u8 0), (.int .u8 0), (.int .u8 0), (.int .u8 0), (.int .u8 0), (.int .u8 0), (.int .u8 0), (.int .u8 0), (.int .u8 0), (.int .u8 0), (.int .u8 0), (.int .u8 0), (.int .u8 0), (.int .u8 0), (.int .u8 0), (.int .u8 0), (.int .u8 0), (.int .u8 0), (.int .u8 0), (.int .u8 0), (.int .u8 0)] [(0, 1, (.k (.int .u8 3))), (1, 1, (.t 93)), (3, 9, (.t 98)), (14, 1, (.t 99))]), p 101 (.bsl 1 47 [(.int .u8 0), (.int .u32 0), (.int .u32 0), (.int .i64 0), (.int .i64 0), (.int .i64 0), (.int .i64 0), (.int .i64 0), (.int .i64 0), (.int .i64 0), (.int .i64 0), (.int .i64 0), (.int .u8 0), (.int .u8 0), (.int .u64 0), (.int .u8 0), (.int .u8 0), (.int .u8 0), (.int .u8 0), (.int .u8 0), (.int .u8 0), (.int .u8 0), (.int .u8 0), (.int .u8 0), (.int .u8 0), (.int .u8 0), (.int .u8 0), (.int .u8 0), (.int .u8 0), (.int .u8 0), (.int .u8 0), (.int .u8 0), (.int .u8 0), (.int .u8 0), (.int .u8 0), (.int .u8 0), (.int .u8 0), (.int .u8 0), (.int .u8 0), (.int .u8 0), (.int .u8 0), (.int .u8 0), (.int .u8 0), (.int .u8 0), (.int .u8 0), (.int .u8 0), (.int .u8 0)] [(0, 47, (.t 100))]), p 102 (.app 47 136 (.t 88) (.t 101)), p 10 (.mv (.t 102))] [])
    .skip))
    (.seq (.reg [p 103 (.fa 12 (.t 15)), p 104 (.ld none (.t 103)), p 17 (.mv (.t 104))] [])
    (.seq (.seq (.reg [p 18 (.mv (.k (.int .i64 0)))] [])
    (.block 4 (.loop (.seq (.seq (.reg [p 105 (.mv (.t 18)), p 106 (.fa 12 (.t 15)), p 107 (.ld none (.t 106)), p 108 (.len (.t 107)), p 109 (.bin .lss (.t 105) (.t 108))] [])
      (.cond (.t 109) .skip
      (.exit 4)))
      (.seq (.block 5 (.seq (.reg [p 112 (.mv (.t 1)), p 113 (.mv (.t 14)), p 114 (.ia 13 (.t 112) (.t 113)), p 115 (.fa 12 (.t 114)), p 116 (.ld none (.t 115)), p 117 (.fa 12 (.t 15)), p 118 (.ld none (.t 117)), p 119 (.mv (.t 18)), p 120 (.ia 1 (.t 118) (.t 119)), p 121 (.ld none (.t 120)), p 122 (.callp 21 [(.t 116), (.t 121)]), p 123 (.un .not (.t 122))] [])
       (.cond (.t 123) (.reg [p 17 (.mv (.k .nils))] [])
       .skip)))
      (.reg [p 110 (.mv (.t 18)), p 111 (.bin .add (.t 110) (.k (.int .i64 1))), p 18 (.mv (.t 111))] []))))))
    (.seq (.seq (.reg [p 124 (.mv (.t 17)), p 125 (.len (.t 124)), p 126 (.fa 12 (.t 15)), p 127 (.ld none (.t 126)), p 128 (.len (.t 127)), p 129 (.bin .lss (.t 125) (.t 128))] [])
    (.cond (.t 129) (.reg [p 130 (.mv (.t 10)), p 131 (.mv (.t 1)), p 132 (.mv (.t 14)), p 133 (.ia 13 (.t 131) (.t 132)), p 134 (.fa 0 (.t 133)), p 135 (.ld none (.t 134)), p 136 (.mv (.t 2)), p 137 (.build [(.int .u8 0), (.int .u32 0), (.int .u32 0), (.int .i64 0), (.int .i64 0), (.int .i64 0), (.int .i64 0), (.int .i64 0), (.int .i64 0), (.int .i64 0), (.int .i64 0), (.int .i64 0), (.int .u8 0), (.int .u8 0), (.int .u64 0), (.int .u8 0), (.int .u8 0), (.int .u8 0), (.int .u8 0), (.int .u8 0), (.int .u8 0), (.int .u8 0), (.int .u8 0), (.int .u8 0), (.int .u8 0), (.int .u8 0), (.int .u8 0), (.int .u8 0), (.int .u8 0), (.int .u8 0), (.int .u8 0), (.int .u8 0), (.int .u8 0), (.int .u8 0), (.int .u8 0), (.int .u8 0), (.int .u8 0), (.int .u8 0), (.int .u8 0), (.int .u8 0), (.int .u8 0), (.int .u8 0), (.int .u8 0), (.int .u8 0), (.int .u8 0), (.int .u8 0), (.int .u8 0)] [(0, 1, (.k (.int .u8 4))), (1, 1, (.t 135)), (14, 1, (.t 136))]), p 138 (.bsl 1 47 [(.int .u8 0), (.int .u32 0), (.int .u32 0), (.int .i64 0), (.int .i64 0), (.int .i64 0), (.int .i64 0), (.int .i64 0), (.int .i64 0), (.int .i64 0), (.int .i64 0), (.int .i64 0), (.int .u8 0), (.int .u8 0), (.int .u64 0), (.int .u8 0), (.int .u8 0), (.int .u8 0), (.int .u8 0), (.int .u8 0), (.int .u8 0), (.int .u8 0), (.int .u8 0), (.int .u8 0), (.int .u8 0), (.int .u8 0), (.int .u8 0), (.int .u8 0), (.int .u8 0), (.int .u8 0), (.int .u8 0), (.int .u8 0), (.int .u8 0), (.int .u8 0), (.int .u8 0), (.int .u8 0), (.int .u8 0), (.int .u8 0), (.int .u8 0), (.int .u8 0), (.int .u8 0), (.int .u8 0), (.int .u8 0), (.int .u8 0), (.int .u8 0), (.int .u8 0), (.int .u8 0)] [(0, 47, (.t 137))]), p 139 (.app 47 136 (.t 130) (.t 138)), p 10 (.mv (.t 139))] [])
    .skip))
    (.reg [p 140 (.mv (.t 10)), p 141 (.mv (.t 1)), p 142 (.mv (.t 14)), p 143 (.ia 13 (.t 141) (.t 142)), p 144 (.fa 0 (.t 143)), p 145 (.ld none (.t 144)), p 146 (.mv (.t 1)), p 147 (.mv (.t 14)), p 148 (.ia 13 (.t 146) (.t 147)), p 149 (.fa 12 (.t 148)), p 150 (.ld none (.t 149)), p 151 (.mv (.t 17)), p 152 (.mv (.t 2)), p 153 (.call 22 [(.t 140), (.t 145), (.t 150), (.t 151), (.t 152)]), p 10 (.mv (.t 153))] []))))))))
   (.reg [p 60 (.mv (.t 14)), p 61 (.bin .add (.t 60) (.k (.int .i64 1))), p 14 (.mv (.t 61))] []))))))
 (.seq (.reg [p 154 (.mv (.t 10)), p 6 (.mv (.t 154)), p 7 (.mv (.k (.int .i64 0)))] [])
 .ret)))))))⟩
/-- spigot/spigotref43.SameCommands -/
def v9 : VFn := ⟨none, 1, [.t 4], (.seq (.reg [p 4 (.mv (.k (.bool false)))] [])
 (.seq (.seq (.reg [p 6 (.mv (.t 0)), p 7 (.len (.t 6)), p 8 (.mv (.t 1)), p 9 (.len (.t 8)), p 10 (.bin .neq (.t 7) (.t 9))] [])
 (.cond (.t 10) (.seq (.reg [p 4 (.mv (.k (.bool false)))] [])
  .ret)
 .skip))
 (.seq (.seq (.reg [p 5 (.mv (.k (.int .i64 0)))] [])
 (.block 0 (.loop (.seq (.seq (.reg [p 11 (.mv (.t 5)), p 12 (.mv (.t 0)), p 13 (.len (.t 12)), p 14 (.bin .lss (.t 11) (.t 13))] [])
   (.cond (.t 14) .skip
   (.exit 0)))
   (.seq (.block 1 (.seq (.reg [p 17 (.mv (.t 0)), p 18 (.mv (.t 5)), p 19 (.ia 47 (.t 17) (.t 18)), p 20 (.ld (some 47) (.t 19)), p 21 (.mv (.t 1)), p 22 (.mv (.t 5)), p 23 (.ia 47 (.t 21) (.t 22)), p 24 (.ld (some 47) (.t 23)), p 25 (.eqa true [0, 0, 0, 0, 0, 0, 0, 0, 0, 0, 0, 0, 0, 0, 0, 0, 0, 0, 0, 0, 0, 0, 0, 0, 0, 0, 0, 0, 0, 0, 0, 0, 0, 0, 0, 0, 0, 0, 0, 0, 0, 0, 0, 0, 0, 0, 0] (.t 20) (.t 24))] [])
    (.cond (.t 25) (.seq (.reg [p 4 (.mv (.k (.bool false)))] [])
     .ret)
    .skip)))
   (.reg [p 15 (.mv (.t 5)), p 16 (.bin .add (.t 15) (.k (.int .i64 1))), p 5 (.mv (.t 16))] []))))))
 (.seq (.reg [p 4 (.mv (.k (.bool true)))] [])
 .ret))))⟩
/-- spigot/spigotref43.Check -/
def v10 : VFn := ⟨none, 1, [.t 2], (.seq (.reg [p 2 (.mv (.k (.int .i64 0)))] [])
 (.seq (.seq (.reg [p 5 (.mv (.t 0)), p 6 (.len (.t 5)), p 7 (.bin .gtr (.t 6) (.k (.int .i64 8)))] [])
 (.cond (.t 7) (.seq (.reg [p 2 (.mv (.k (.int .i64 4)))] [])
  .ret)
 .skip))
 (.seq (.seq (.reg [p 3 (.mv (.k (.int .i64 0)))] [])
 (.block 0 (.loop (.seq (.seq (.reg [p 8 (.mv (.t 3)), p 9 (.mv (.t 0)), p 10 (.len (.t 9)), p 11 (.bin .lss (.t 8) (.t 10))] [])
   (.cond (.t 11) .skip
   (.exit 0)))
   (.seq (.block 1 (.seq (.reg [p 14 (.mv (.t 0)), p 15 (.mv (.t 3)), p 16 (.ia 13 (.t 14) (.t 15)), p 17 (.ld (some 13) (.t 16)), p 18 (.callp 23 [(.t 17)]), p 19 (.un .not (.t 18))] [])
    (.cond (.t 19) (.seq (.reg [p 2 (.mv (.k (.int .i64 8)))] [])
     .ret)
    .skip)))
   (.reg [p 12 (.mv (.t 3)), p 13 (.bin .add (.t 12) (.k (.int .i64 1))), p 3 (.mv (.t 13))] []))))))
 (.seq (.seq (.reg [p 4 (.mv (.k (.int .i64 1)))] [])
 (.block 2 (.loop (.seq (.seq (.reg [p 20 (.mv (.t 4)), p 21 (.mv (.t 0)), p 22 (.len (.t 21)), p 23 (.bin .lss (.t 20) (.t 22))] [])
   (.cond (.t 23) .skip
   (.exit 2)))
   (.seq (.block 3 (.seq (.reg [p 26 (.mv (.t 0)), p 27 (.mv (.t 4)), p 28 (.ia 13 (.t 26) (.t 27)), p 29 (.fa 0 (.t 28)), p 30 (.ld none (.t 29)), p 31 (.mv (.t 0)), p 32 (.mv (.t 4)), p 33 (.bin .sub (.t 32) (.k (.int .i64 1))), p 34 (.ia 13 (.t 31) (.t 33)), p 35 (.fa 0 (.t 34)), p 36 (.ld none (.t 35)), p 37 (.bin .leq (.t 30) (.t 36))] [])
    (.cond (.t 37) (.seq (.reg [p 2 (.mv (.k (.int .i64 32)))] [])
     .ret)
    .skip)))
   (.reg [p 24 (.mv (.t 4)), p 25 (.bin .add (.t 24) (.k (.int .i64 1))), p 4 (.mv (.t 25))] []))))))
 (.seq (.reg [p 2 (.mv (.k (.int .i64 0)))] [])
 .ret)))))⟩
/-- spigot/spigotref43.created -/
def v11 : VFn := ⟨none, 0, [.t 6], (.seq (.reg [p 4 (.box 13 (.t 1)), p 6 (.mv (.k .nils))] [])
 (.seq (.reg [p 7 (.mv (.t 0)), p 8 (.fa 0 (.t 4)), p 9 (.ld none (.t 8)), p 10 (.fa 1 (.t 4)), p 11 (.ld (some 9) (.t 10)), p 12 (.fa 10 (.t 4)), p 13 (.ld none (.t 12)), p 14 (.fa 11 (.t 4)), p 15 (.ld none (.t 14)), p 16 (.mv (.t 2)), p 17 (.build [(.int .u8 0), (.int .u32 0), (.int .u32 0), (.int .i64 0), (.int .i64 0), (.int .i64 0), (.int .i64 0), (.int .i64 0), (.int .i64 0), (.int .i64 0), (.int .i64 0), (.int .i64 0), (.int .u8 0), (.int .u8 0), (.int .u64 0), (.int .u8 0), (.int .u8 0), (.int .u8 0), (.int .u8 0), (.int .u8 0), (.int .u8 0), (.int .u8 0), (.int .u8 0), (.int .u8 0), (.int .u8 0), (.int .u8 0), (.int .u8 0), (.int .u8 0), (.int .u8 0), (.int .u8 0), (.int .u8 0), (.int .u8 0), (.int .u8 0), (.int .u8 0), (.int .u8 0), (.int .u8 0), (.int .u8 0), (.int .u8 0), (.int .u8 0), (.int .u8 0), (.int .u8 0), (.int .u8 0), (.int .u8 0), (.int .u8 0), (.int .u8 0), (.int .u8 0), (.int .u8 0)] [(0, 1, (.k (.int .u8 1))), (1, 1, (.t 9)), (3, 9, (.t 11)), (12, 1, (.t 13)), (13, 1, (.t 15)), (14, 1, (.t 16))]), p 18 (.bsl 1 47 [(.int .u8 0), (.int .u32 0), (.int .u32 0), (.int .i64 0), (.int .i64 0), (.int .i64 0), (.int .i64 0), (.int .i64 0), (.int .i64 0), (.int .i64 0), (.int .i64 0), (.int .i64 0), (.int .u8 0), (.int .u8 0), (.int .u64 0), (.int .u8 0), (.int .u8 0), (.int .u8 0), (.int .u8 0), (.int .u8 0), (.int .u8 0), (.int .u8 0), (.int .u8 0), (.int .u8 0), (.int .u8 0), (.int .u8 0), (.int .u8 0), (.int .u8 0), (.int .u8 0), (.int .u8 0), (.int .u8 0), (.int .u8 0), (.int .u8 0), (.int .u8 0), (.int .u8 0), (.int .u8 0), (.int .u8 0), (.int .u8 0), (.int .u8 0), (.int .u8 0), (.int .u8 0), (.int .u8 0), (.int .u8 0), (.int .u8 0), (.int .u8 0), (.int .u8 0), (.int .u8 0)] [(0, 47, (.t 17))]), p 19 (.app 47 136 (.t 7) (.t 18)), p 0 (.mv (.t 19))] [])
 (.seq (.reg [p 20 (.mv (.t 0)), p 21 (.fa 0 (.t 4)), p 22 (.ld none (.t 21)), p 23 (.fa 12 (.t 4)), p 24 (.ld none (.t 23)), p 25 (.mv (.t 2)), p 26 (.call 22 [(.t 20), (.t 22), (.t 24), (.k .nils), (.t 25)]), p 6 (.mv (.t 26))] [])
 .ret)))⟩
/-- spigot/config.Check -/
def v12 : VFn := ⟨none, 1, [.t 2], (.seq (.reg [p 2 (.mv (.k (.int .i64 0)))] [])
 (.seq (.seq (.reg [p 4 (.mv (.t 0)), p 5 (.len (.t 4)), p 6 (.bin .gtr (.t 5) (.k (.int .i64 8)))] [])
 (.cond (.t 6) (.seq (.reg [p 2 (.mv (.k (.int .i64 4)))] [])
  .ret)
 .skip))
 (.seq (.seq (.reg [p 7 (.mv (.t 0)), p 8 (.callp 24 [(.t 7), (.k (.fn 25 []))])] [])
 (.cond (.t 8) (.seq (.reg [p 2 (.mv (.k (.int .i64 8)))] [])
  .ret)
 .skip))
 (.seq (.seq (.reg [p 9 (.mv (.t 0)), p 10 (.len (.t 9)), p 11 (.mv (.k (.int .i64 0)))] [])
 (.block 0 (.loop (.seq (.reg [p 12 (.bin .lss (.t 11) (.t 10))] [])
   (.seq (.cond (.t 12) .skip
   (.exit 0))
   (.seq (.block 1 (.seq (.reg [p 13 (.mv (.t 11)), p 3 (.mv (.t 13))] [])
    (.seq (.reg [p 14 (.mv (.t 3)), p 15 (.bin .gtr (.t 14) (.k (.int .i64 0))), p 16 (.mv (.t 15)), g 17 16 true (.mv (.t 0)), g 18 16 true (.mv (.t 3)), g 19 16 true (.ia 13 (.t 17) (.t 18)), g 20 16 true (.fa 0 (.t 19)), g 21 16 true (.ld none (.t 20)), g 22 16 true (.mv (.t 0)), g 23 16 true (.mv (.t 3)), g 24 16 true (.bin .sub (.t 23) (.k (.int .i64 1))), g 25 16 true (.ia 13 (.t 22) (.t 24)), g 26 16 true (.fa 0 (.t 25)), g 27 16 true (.ld none (.t 26)), g 28 16 true (.bin .leq (.t 21) (.t 27)), p 29 (.pick (.t 16) (.t 28) (.k (.bool false)))] [])
    (.cond (.t 29) (.seq (.reg [p 2 (.mv (.k (.int .i64 32)))] [])
     .ret)
    .skip))))
   (.reg [p 30 (.bin .add (.t 11) (.k (.int .i64 1))), p 11 (.mv (.t 30))] [])))))))
 (.seq (.reg [p 2 (.mv (.k (.int .i64 0)))] [])
 .ret)))))⟩
/-- spigot/config.find -/
def v13 : VFn := ⟨none, 1, [.t 4], (.seq (.reg [p 3 (.box 13 (.t 1)), p 4 (.mv (.k (.int .i64 0)))] [])
 (.seq (.reg [p 5 (.mv (.t 0)), p 6 (.mkf 28 [(.t 3)]), p 7 (.callp 27 [(.t 5), (.t 6)]), p 4 (.mv (.t 7))] [])
 .ret))⟩
/-- (*spigot/config.orders).add -/
def v14 : VFn := ⟨none, 0, [], (.seq (.reg [p 3 (.box 47 (.t 1))] [])
 (.seq (.reg [p 4 (.mv (.t 0)), p 5 (.nck (.t 4)), p 6 (.fa 0 (.t 5)), p 7 (.ld none (.t 6)), p 8 (.fa 14 (.t 3)), n (.st 1 (.t 8) (.t 7))] [])
 (.reg [p 9 (.mv (.t 0)), p 10 (.mv (.t 0)), p 11 (.nck (.t 10)), p 12 (.fa 1 (.t 11)), p 13 (.ld none (.t 12)), p 14 (.ld (some 47) (.t 3)), p 15 (.bsl 1 47 [(.int .u8 0), (.int .u32 0), (.int .u32 0), (.int .i64 0), (.int .i64 0), (.int .i64 0), (.int .i64 0), (.int .i64 0), (.int .i64 0), (.int .i64 0), (.int .i64 0), (.int .i64 0), (.int .u8 0), (.int .u8 0), (.int .u64 0), (.int .u8 0), (.int .u8 0), (.int .u8 0), (.int .u8 0), (.int .u8 0), (.int .u8 0), (.int .u8 0), (.int .u8 0), (.int .u8 0), (.int .u8 0), (.int .u8 0), (.int .u8 0), (.int .u8 0), (.int .u8 0), (.int .u8 0), (.int .u8 0), (.int .u8 0), (.int .u8 0), (.int .u8 0), (.int .u8 0), (.int .u8 0), (.int .u8 0), (.int .u8 0), (.int .u8 0), (.int .u8 0), (.int .u8 0), (.int .u8 0), (.int .u8 0), (.int .u8 0), (.int .u8 0), (.int .u8 0), (.int .u8 0)] [(0, 47, (.t 14))]), p 16 (.app 47 136 (.t 13) (.t 15)), p 17 (.nck (.t 9)), p 18 (.fa 1 (.t 17)), n (.st 1 (.t 18) (.t 16))] [])))⟩
/-- (*spigot/config.orders).create -/
def v15 : VFn := ⟨none, 0, [], (.seq (.reg [p 3 (.box 13 (.t 1))] [])
 (.seq (.reg [p 4 (.mv (.t 0)), p 5 (.fa 0 (.t 3)), p 6 (.ld none (.t 5)), p 7 (.fa 1 (.t 3)), p 8 (.ld (some 9) (.t 7)), p 9 (.fa 10 (.t 3)), p 10 (.ld none (.t 9)), p 11 (.fa 11 (.t 3)), p 12 (.ld none (.t 11)), p 13 (.build [(.int .u8 0), (.int .u32 0), (.int .u32 0), (.int .i64 0), (.int .i64 0), (.int .i64 0), (.int .i64 0), (.int .i64 0), (.int .i64 0), (.int .i64 0), (.int .i64 0), (.int .i64 0), (.int .u8 0), (.int .u8 0), (.int .u64 0), (.int .u8 0), (.int .u8 0), (.int .u8 0), (.int .u8 0), (.int .u8 0), (.int .u8 0), (.int .u8 0), (.int .u8 0), (.int .u8 0), (.int .u8 0), (.int .u8 0), (.int .u8 0), (.int .u8 0), (.int .u8 0), (.int .u8 0), (.int .u8 0), (.int .u8 0), (.int .u8 0), (.int .u8 0), (.int .u8 0), (.int .u8 0), (.int .u8 0), (.int .u8 0), (.int .u8 0), (.int .u8 0), (.int .u8 0), (.int .u8 0), (.int .u8 0), (.int .u8 0), (.int .u8 0), (.int .u8 0), (.int .u8 0)] [(0, 1, (.k (.int .u8 1))), (1, 1, (.t 6)), (3, 9, (.t 8)), (12, 1, (.t 10)), (13, 1, (.t 12))]), p 14 (.call 14 [(.t 4), (.t 13)])] [])
 (.reg [p 15 (.mv (.t 0)), p 16 (.ld (some 13) (.t 3)), p 17 (.call 19 [(.t 15), (.t 16), (.k .nils)])] [])))⟩
/-- slices.ContainsFunc[[]uint32,uint32] -/
def v16 : VFn := ⟨none, 1, [.t 4], (.seq (.reg [p 4 (.mv (.k (.bool false)))] [])
 (.seq (.reg [p 5 (.mv (.t 0)), p 6 (.mv (.t 1)), p 7 (.callp 29 [(.t 5), (.t 6)]), p 8 (.bin .geq (.t 7) (.k (.int .i64 0))), p 4 (.mv (.t 8))] [])
 .ret))⟩
/-- spigot/config.Change$1 -/
def v17 : VFn := ⟨none, 1, [.t 3], (.seq (.reg [p 3 (.mv (.k (.bool false)))] [])
 (.seq (.reg [p 4 (.fa 12 (.t 1)), p 5 (.ld none (.t 4)), p 6 (.mv (.t 0)), p 7 (.callp 18 [(.t 5), (.t 6)]), p 8 (.un .not (.t 7)), p 3 (.mv (.t 8))] [])
 .ret))⟩
/-- slices.Contains[[]uint32,uint32] -/
def v18 : VFn := ⟨none, 1, [.t 4], (.seq (.reg [p 4 (.mv (.k (.bool false)))] [])
 (.seq (.reg [p 5 (.mv (.t 0)), p 6 (.mv (.t 1)), p 7 (.callp 30 [(.t 5), (.t 6)]), p 8 (.bin .geq (.t 7) (.k (.int .i64 0))), p 4 (.mv (.t 8))] [])
 .ret))⟩
/-- (*spigot/config.orders).revoke -/
def v19 : VFn := ⟨none, 0, [], (.seq (.reg [p 4 (.box 13 (.t 1))] [])
 (.seq (.reg [p 8 (.fa 12 (.t 4)), p 9 (.ld none (.t 8)), p 10 (.len (.t 9)), p 11 (.mv (.k (.int .i64 0)))] [])
 (.block 0 (.loop (.seq (.reg [p 12 (.bin .lss (.t 11) (.t 10))] [])
   (.seq (.cond (.t 12) .skip
   (.exit 0))
   (.seq (.block 1 (.seq (.reg [p 13 (.ia 1 (.t 9) (.t 11)), p 14 (.ld none (.t 13)), p 7 (.mv (.t 14))] [])
    (.seq (.reg [p 15 (.mv (.t 2)), p 16 (.mv (.t 7)), p 17 (.callp 18 [(.t 15), (.t 16)]), p 18 (.un .not (.t 17))] [])
    (.cond (.t 18) (.reg [p 19 (.mv (.t 0)), p 20 (.fa 0 (.t 4)), p 21 (.ld none (.t 20)), p 22 (.mv (.t 7)), p 23 (.build [(.int .u8 0), (.int .u32 0), (.int .u32 0), (.int .i64 0), (.int .i64 0), (.int .i64 0), (.int .i64 0), (.int .i64 0), (.int .i64 0), (.int .i64 0), (.int .i64 0), (.int .i64 0), (.int .u8 0), (.int .u8 0), (.int .u64 0), (.int .u8 0), (.int .u8 0), (.int .u8 0), (.int .u8 0), (.int .u8 0), (.int .u8 0), (.int .u8 0), (.int .u8 0), (.int .u8 0), (.int .u8 0), (.int .u8 0), (.int .u8 0), (.int .u8 0), (.int .u8 0), (.int .u8 0), (.int .u8 0), (.int .u8 0), (.int .u8 0), (.int .u8 0), (.int .u8 0), (.int .u8 0), (.int .u8 0), (.int .u8 0), (.int .u8 0), (.int .u8 0), (.int .u8 0), (.int .u8 0), (.int .u8 0), (.int .u8 0), (.int .u8 0), (.int .u8 0), (.int .u8 0)] [(0, 1, (.k (.int .u8 5))), (1, 1, (.t 21)), (2, 1, (.t 22))]), p 24 (.call 14 [(.t 19), (.t 23)])] [])
    .skip))))
   (.reg [p 25 (.bin .add (.t 11) (.k (.int .i64 1))), p 11 (.mv (.t 25))] []))))))))⟩
/-- spigot/spigotref43.kept -/
def v20 : VFn := ⟨none, 1, [.c 4 (some 13), .t 5], (.seq (.reg [p 3 (.box 13 (.t 1)), p 4 (.alloc 41 [(.int .u32 0), (.int .i64 0), (.int .i64 0), (.int .i64 0), (.int .i64 0), (.int .i64 0), (.int .i64 0), (.int .i64 0), (.int .i64 0), (.int .i64 0), (.int .u8 0), (.int .u8 0), .nils]), p 5 (.mv (.k (.bool false)))] [])
 (.seq (.seq (.reg [p 6 (.mv (.k (.int .i64 0)))] [])
 (.block 0 (.loop (.seq (.seq (.reg [p 7 (.mv (.t 6)), p 8 (.mv (.t 0)), p 9 (.len (.t 8)), p 10 (.bin .lss (.t 7) (.t 9))] [])
   (.cond (.t 10) .skip
   (.exit 0)))
   (.seq (.block 1 (.seq (.reg [p 13 (.mv (.t 0)), p 14 (.mv (.t 6)), p 15 (.ia 13 (.t 13) (.t 14)), p 16 (.fa 0 (.t 15)), p 17 (.ld none (.t 16)), p 18 (.fa 0 (.t 3)), p 19 (.ld none (.t 18)), p 20 (.bin .eql (.t 17) (.t 19)), p 21 (.mv (.t 20)), g 22 21 true (.mv (.t 0)), g 23 21 true (.mv (.t 6)), g 24 21 true (.ia 13 (.t 22) (.t 23)), g 25 21 true (.fa 10 (.t 24)), g 26 21 true (.ld none (.t 25)), g 27 21 true (.fa 10 (.t 3)), g 28 21 true (.ld none (.t 27)), g 29 21 true (.bin .eql (.t 26) (.t 28)), p 30 (.pick (.t 21) (.t 29) (.k (.bool false))), p 31 (.mv (.t 30)), g 32 31 true (.mv (.t 0)), g 33 31 true (.mv (.t 6)), g 34 31 true (.ia 13 (.t 32) (.t 33)), g 35 31 true (.fa 11 (.t 34)), g 36 31 true (.ld none (.t 35)), g 37 31 true (.fa 11 (.t 3)), g 38 31 true (.ld none (.t 37)), g 39 31 true (.bin .eql (.t 36) (.t 38)), p 40 (.pick (.t 31) (.t 39) (.k (.bool false)))] [])
    (.cond (.t 40) (.seq (.reg [p 41 (.mv (.t 0)), p 42 (.mv (.t 6)), p 43 (.ia 13 (.t 41) (.t 42)), p 44 (.ld (some 13) (.t 43)), n (.st 13 (.t 4) (.t 44)), p 5 (.mv (.k (.bool true)))] [])
     .ret)
    .skip)))
   (.reg [p 11 (.mv (.t 6)), p 12 (.bin .add (.t 11) (.k (.int .i64 1))), p 6 (.mv (.t 12))] []))))))
 (.seq (.reg [p 45 (.build [(.int .u32 0), (.int .i64 0), (.int .i64 0), (.int .i64 0), (.int .i64 0), (.int .i64 0), (.int .i64 0), (.int .i64 0), (.int .i64 0), (.int .i64 0), (.int .u8 0), (.int .u8 0), .nils] []), n (.st 13 (.t 4) (.t 45)), p 5 (.mv (.k (.bool false)))] [])
 .ret)))⟩
/-- spigot/spigotref43.In -/
def v21 : VFn := ⟨none, 1, [.t 4], (.seq (.reg [p 4 (.mv (.k (.bool false)))] [])
 (.seq (.seq (.reg [p 5 (.mv (.k (.int .i64 0)))] [])
 (.block 0 (.loop (.seq (.seq (.reg [p 6 (.mv (.t 5)), p 7 (.mv (.t 0)), p 8 (.len (.t 7)), p 9 (.bin .lss (.t 6) (.t 8))] [])
   (.cond (.t 9) .skip
   (.exit 0)))
   (.seq (.block 1 (.seq (.reg [p 12 (.mv (.t 0)), p 13 (.mv (.t 5)), p 14 (.ia 1 (.t 12) (.t 13)), p 15 (.ld none (.t 14)), p 16 (.mv (.t 1)), p 17 (.bin .eql (.t 15) (.t 16))] [])
    (.cond (.t 17) (.seq (.reg [p 4 (.mv (.k (.bool true)))] [])
     .ret)
    .skip)))
   (.reg [p 10 (.mv (.t 5)), p 11 (.bin .add (.t 10) (.k (.int .i64 1))), p 5 (.mv (.t 11))] []))))))
 (.seq (.reg [p 4 (.mv (.k (.bool false)))] [])
 .ret)))⟩
/-- spigot/spigotref43.revokes -/
def v22 : VFn := ⟨none, 0, [.t 10], (.seq (.reg [p 10 (.mv (.k .nils))] [])
 (.seq (.seq (.reg [p 11 (.mv (.k (.int .i64 0)))] [])
 (.block 0 (.loop (.seq (.seq (.reg [p 12 (.mv (.t 11)), p 13 (.mv (.t 2)), p 14 (.len (.t 13)), p 15 (.bin .lss (.t 12) (.t 14))] [])
   (.cond (.t 15) .skip
   (.exit 0)))
   (.seq (.block 1 (.seq (.reg [p 18 (.mv (.t 3)), p 19 (.mv (.t 2)), p 20 (.mv (.t 11)), p 21 (.ia 1 (.t 19) (.t 20)), p 22 (.ld none (.t 21)), p 23 (.callp 21 [(.t 18), (.t 22)]), p 24 (.un .not (.t 23))] [])
    (.cond (.t 24) (.reg [p 25 (.mv (.t 0)), p 26 (.mv (.t 1)), p 27 (.mv (.t 2)), p 28 (.mv (.t 11)), p 29 (.ia 1 (.t 27) (.t 28)), p 30 (.ld none (.t 29)), p 31 (.mv (.t 4)), p 32 (.build [(.int .u8 0), (.int .u32 0), (.int .u32 0), (.int .i64 0), (.int .i64 0), (.int .i64 0), (.int .i64 0), (.int .i64 0), (.int .i64 0), (.int .i64 0), (.int .i64 0), (.int .i64 0), (.int .u8 0), (.int .u8 0), (.int .u64 0), (.int .u8 0), (.int .u8 0), (.int .u8 0), (.int .u8 0), (.int .u8 0), (.int .u8 0), (.int .u8 0), (.int .u8 0), (.int .u8 0), (.int .u8 0), (.int .u8 0), (.int .u8 0), (.int .u8 0), (.int .u8 0), (.int .u8 0), (.int .u8 0), (.int .u8 0), (.int .u8 0), (.int .u8 0), (.int .u8 0), (.int .u8 0), (.int .u8 0), (.int .u8 0), (.int .u8 0), (.int .u8 0), (.int .u8 0), (.int .u8 0), (.int .u8 0), (.int .u8 0), (.int .u8 0), (.int .u8 0), (.int .u8 0)] [(0, 1, (.k (.int .u8 5))), (1, 1, (.t 26)), (2, 1, (.t 30)), (14, 1, (.t 31))]), p 33 (.bsl 1 47 [(.int .u8 0), (.int .u32 0), (.int .u32 0), (.int .i64 0), (.int .i64 0), (.int .i64 0), (.int .i64 0), (.int .i64 0), (.int .i64 0), (.int .i64 0), (.int .i64 0), (.int .i64 0), (.int .u8 0), (.int .u8 0), (.int .u64 0), (.int .u8 0), (.int .u8 0), (.int .u8 0), (.int .u8 0), (.int .u8 0), (.int .u8 0), (.int .u8 0), (.int .u8 0), (.int .u8 0), (.int .u8 0), (.int .u8 0), (.int .u8 0), (.int .u8 0), (.int .u8 0), (.int .u8 0), (.int .u8 0), (.int .u8 0), (.int .u8 0), (.int .u8 0), (.int .u8 0), (.int .u8 0), (.int .u8 0), (.int .u8 0), (.int .u8 0), (.int .u8 0), (.int .u8 0), (.int .u8 0), (.int .u8 0), (.int .u8 0), (.int .u8 0), (.int .u8 0), (.int .u8 0)] [(0, 47, (.t 32))]), p 34 (.app 47 136 (.t 25) (.t 33)), p 0 (.mv (.t 34))] [])
    .skip)))
   (.reg [p 16 (.mv (.t 11)), p 17 (.bin .add (.t 16) (.k (.int .i64 1))), p 11 (.mv (.t 17))] []))))))
 (.seq (.reg [p 35 (.mv (.t 0)), p 10 (.mv (.t 35))] [])
 .ret)))⟩
/-- spigot/spigotref43.valid -/
def v23 : VFn := ⟨none, 1, [.t 2], (.seq (.reg [p 1 (.box 13 (.t 0)), p 2 (.mv (.k (.bool false)))] [])
 (.seq (.seq (.reg [p 5 (.fa 0 (.t 1)), p 6 (.ld none (.t 5)), p 7 (.bin .geq (.t 6) (.k (.int .u32 16))), p 8 (.mv (.t 7)), g 9 8 false (.fa 10 (.t 1)), g 10 8 false (.ld none (.t 9)), g 11 8 false (.bin .lss (.t 10) (.k (.int .u8 1))), p 12 (.pick (.t 8) (.k (.bool true)) (.t 11)), p 13 (.mv (.t 12)), g 14 13 false (.fa 10 (.t 1)), g 15 13 false (.ld none (.t 14)), g 16 13 false (.bin .gtr (.t 15) (.k (.int .u8 8))), p 17 (.pick (.t 13) (.k (.bool true)) (.t 16)), p 18 (.mv (.t 17)), g 19 18 false (.fa 11 (.t 1)), g 20 18 false (.ld none (.t 19)), g 21 18 false (.bin .lss (.t 20) (.k (.int .u8 1))), p 22 (.pick (.t 18) (.k (.bool true)) (.t 21)), p 23 (.mv (.t 22)), g 24 23 false (.fa 11 (.t 1)), g 25 23 false (.ld none (.t 24)), g 26 23 false (.bin .gtr (.t 25) (.k (.int .u8 8))), p 27 (.pick (.t 23) (.k (.bool true)) (.t 26)), p 28 (.mv (.t 27)), g 29 28 false (.fa 12 (.t 1)), g 30 28 false (.ld none (.t 29)), g 31 28 false (.len (.t 30)), g 32 28 false (.bin .gtr (.t 31) (.k (.int .i64 8))), p 33 (.pick (.t 28) (.k (.bool true)) (.t 32))] [])
 (.cond (.t 33) (.seq (.reg [p 2 (.mv (.k (.bool false)))] [])
  .ret)
 .skip))
 (.seq (.seq (.reg [p 3 (.mv (.k (.int .i64 0)))] [])
 (.block 0 (.loop (.seq (.seq (.reg [p 34 (.mv (.t 3)), p 35 (.bin .lss (.t 34) (.k (.int .i64 3)))] [])
   (.cond (.t 35) .skip
   (.exit 0)))
   (.seq (.block 1 (.seq (.reg [p 38 (.mv (.t 3)), p 39 (.fa 1 (.t 1)), p 40 (.iaa 3 3 (.t 39) (.t 38)), p 41 (.ld (some 3) (.t 40)), p 42 (.callp 31 [(.t 41)]), p 43 (.bin .neq (.t 42) (.k (.int .i64 0)))] [])
    (.cond (.t 43) (.seq (.reg [p 2 (.mv (.k (.bool false)))] [])
     .ret)
    .skip)))
   (.reg [p 36 (.mv (.t 3)), p 37 (.bin .add (.t 36) (.k (.int .i64 1))), p 3 (.mv (.t 37))] []))))))
 (.seq (.seq (.reg [p 4 (.mv (.k (.int .i64 1)))] [])
 (.block 2 (.loop (.seq (.seq (.reg [p 44 (.mv (.t 4)), p 45 (.fa 12 (.t 1)), p 46 (.ld none (.t 45)), p 47 (.len (.t 46)), p 48 (.bin .lss (.t 44) (.t 47))] [])
   (.cond (.t 48) .skip
   (.exit 2)))
   (.seq (.block 3 (.seq (.reg [p 51 (.fa 12 (.t 1)), p 52 (.ld none (.t 51)), p 53 (.mv (.t 4)), p 54 (.ia 1 (.t 52) (.t 53)), p 55 (.ld none (.t 54)), p 56 (.fa 12 (.t 1)), p 57 (.ld none (.t 56)), p 58 (.mv (.t 4)), p 59 (.bin .sub (.t 58) (.k (.int .i64 1))), p 60 (.ia 1 (.t 57) (.t 59)), p 61 (.ld none (.t 60)), p 62 (.bin .leq (.t 55) (.t 61))] [])
    (.cond (.t 62) (.seq (.reg [p 2 (.mv (.k (.bool false)))] [])
     .ret)
    .skip)))
   (.reg [p 49 (.mv (.t 4)), p 50 (.bin .add (.t 49) (.k (.int .i64 1))), p 4 (.mv (.t 50))] []))))))
 (.seq (.reg [p 2 (.mv (.k (.bool true)))] [])
 .ret)))))⟩
/-- slices.ContainsFunc[[]spigot/api.Setting,spigot/api.Setting] -/
def v24 : VFn := ⟨none, 1, [.t 4], (.seq (.reg [p 4 (.mv (.k (.bool false)))] [])
 (.seq (.reg [p 5 (.mv (.t 0)), p 6 (.mv (.t 1)), p 7 (.callp 27 [(.t 5), (.t 6)]), p 8 (.bin .geq (.t 7) (.k (.int .i64 0))), p 4 (.mv (.t 8))] [])
 .ret))⟩
/-- spigot/config.Check$1 -/
def v25 : VFn := ⟨none, 1, [.t 2], (.seq (.reg [p 1 (.box 13 (.t 0)), p 2 (.mv (.k (.bool false)))] [])
 (.seq (.reg [p 3 (.ld (some 13) (.t 1)), p 4 (.callp 26 [(.t 3)]), p 5 (.un .not (.t 4)), p 2 (.mv (.t 5))] [])
 .ret))⟩
/-- spigot/config.valid -/
def v26 : VFn := ⟨none, 1, [.t 2], (.seq (.reg [p 1 (.box 13 (.t 0)), p 2 (.mv (.k (.bool false)))] [])
 (.seq (.seq (.reg [p 6 (.fa 0 (.t 1)), p 7 (.ld none (.t 6)), p 8 (.bin .geq (.t 7) (.k (.int .u32 16))), p 9 (.mv (.t 8)), g 10 9 false (.fa 10 (.t 1)), g 11 9 false (.ld none (.t 10)), g 12 9 false (.bin .lss (.t 11) (.k (.int .u8 1))), p 13 (.pick (.t 9) (.k (.bool true)) (.t 12)), p 14 (.mv (.t 13)), g 15 14 false (.fa 10 (.t 1)), g 16 14 false (.ld none (.t 15)), g 17 14 false (.bin .gtr (.t 16) (.k (.int .u8 8))), p 18 (.pick (.t 14) (.k (.bool true)) (.t 17)), p 19 (.mv (.t 18)), g 20 19 false (.fa 11 (.t 1)), g 21 19 false (.ld none (.t 20)), g 22 19 false (.bin .lss (.t 21) (.k (.int .u8 1))), p 23 (.pick (.t 19) (.k (.bool true)) (.t 22)), p 24 (.mv (.t 23)), g 25 24 false (.fa 11 (.t 1)), g 26 24 false (.ld none (.t 25)), g 27 24 false (.bin .gtr (.t 26) (.k (.int .u8 8))), p 28 (.pick (.t 24) (.k (.bool true)) (.t 27)), p 29 (.mv (.t 28)), g 30 29 false (.fa 12 (.t 1)), g 31 29 false (.ld none (.t 30)), g 32 29 false (.len (.t 31)), g 33 29 false (.bin .gtr (.t 32) (.k (.int .i64 8))), p 34 (.pick (.t 29) (.k (.bool true)) (.t 33))] [])
 (.cond (.t 34) (.seq (.reg [p 2 (.mv (.k (.bool false)))] [])
  .ret)
 .skip))
 (.seq (.seq (.reg [p 35 (.fa 1 (.t 1)), p 36 (.ld (some 9) (.t 35)), p 37 (.mv (.k (.int .i64 0)))] [])
 (.block 0 (.loop (.seq (.reg [p 38 (.bin .lss (.t 37) (.k (.int .i64 3)))] [])
   (.seq (.cond (.t 38) .skip
   (.exit 0))
   (.seq (.block 1 (.seq (.reg [p 39 (.ix 3 3 (some 3) (.t 36) (.t 37)), p 4 (.alloc 37 [(.int .i64 0), (.int .i64 0), (.int .i64 0)]), n (.st 3 (.t 4) (.t 39))] [])
    (.seq (.reg [p 40 (.ld (some 3) (.t 4)), p 41 (.callp 32 [(.t 40)]), p 42 (.bin .neq (.t 41) (.k (.int .i64 0)))] [])
    (.cond (.t 42) (.seq (.reg [p 2 (.mv (.k (.bool false)))] [])
     .ret)
    .skip))))
   (.reg [p 43 (.bin .add (.t 37) (.k (.int .i64 1))), p 37 (.mv (.t 43))] [])))))))
 (.seq (.seq (.reg [p 44 (.fa 12 (.t 1)), p 45 (.ld none (.t 44)), p 46 (.len (.t 45)), p 47 (.mv (.k (.int .i64 0)))] [])
 (.block 2 (.loop (.seq (.reg [p 48 (.bin .lss (.t 47) (.t 46))] [])
   (.seq (.cond (.t 48) .skip
   (.exit 2))
   (.seq (.block 3 (.seq (.reg [p 49 (.mv (.t 47)), p 5 (.mv (.t 49))] [])
    (.seq (.reg [p 50 (.mv (.t 5)), p 51 (.bin .gtr (.t 50) (.k (.int .i64 0))), p 52 (.mv (.t 51)), g 53 52 true (.fa 12 (.t 1)), g 54 52 true (.ld none (.t 53)), g 55 52 true (.mv (.t 5)), g 56 52 true (.ia 1 (.t 54) (.t 55)), g 57 52 true (.ld none (.t 56)), g 58 52 true (.fa 12 (.t 1)), g 59 52 true (.ld none (.t 58)), g 60 52 true (.mv (.t 5)), g 61 52 true (.bin .sub (.t 60) (.k (.int .i64 1))), g 62 52 true (.ia 1 (.t 59) (.t 61)), g 63 52 true (.ld none (.t 62)), g 64 52 true (.bin .leq (.t 57) (.t 63)), p 65 (.pick (.t 52) (.t 64) (.k (.bool false)))] [])
    (.cond (.t 65) (.seq (.reg [p 2 (.mv (.k (.bool false)))] [])
     .ret)
    .skip))))
   (.reg [p 66 (.bin .add (.t 47) (.k (.int .i64 1))), p 47 (.mv (.t 66))] [])))))))
 (.seq (.reg [p 2 (.mv (.k (.bool true)))] [])
 .ret)))))⟩
/-- slices.IndexFunc[[]spigot/api.Setting,spigot/api.Setting] -/
def v27 : VFn := ⟨none, 1, [.t 4], (.seq (.reg [p 4 (.mv (.k (.int .i64 0)))] [])
 (.seq (.seq (.reg [p 6 (.mv (.t 0)), p 7 (.len (.t 6)), p 8 (.mv (.k (.int .i64 0)))] [])
 (.block 0 (.loop (.seq (.reg [p 9 (.bin .lss (.t 8) (.t 7))] [])
   (.seq (.cond (.t 9) .skip
   (.exit 0))
   (.seq (.block 1 (.seq (.reg [p 10 (.mv (.t 8)), p 5 (.mv (.t 10))] [])
    (.seq (.reg [p 11 (.mv (.t 1)), p 12 (.mv (.t 0)), p 13 (.mv (.t 5)), p 14 (.ia 13 (.t 12) (.t 13)), p 15 (.ld (some 13) (.t 14)), p 16 (.callv (.t 11) [(.t 15)])] [])
    (.cond (.t 16) (.seq (.reg [p 17 (.mv (.t 5)), p 4 (.mv (.t 17))] [])
     .ret)
    .skip))))
   (.reg [p 18 (.bin .add (.t 8) (.k (.int .i64 1))), p 8 (.mv (.t 18))] [])))))))
 (.seq (.reg [p 4 (.mv (.k (.int .i64 (-1))))] [])
 .ret)))⟩
/-- spigot/config.find$1 -/
def v28 : VFn := ⟨none, 1, [.t 3], (.seq (.reg [p 2 (.box 13 (.t 0)), p 3 (.mv (.k (.bool false)))] [])
 (.seq (.reg [p 4 (.fa 0 (.t 2)), p 5 (.ld none (.t 4)), p 6 (.fa 0 (.t 1)), p 7 (.ld none (.t 6)), p 8 (.bin .eql (.t 5) (.t 7)), p 9 (.mv (.t 8)), g 10 9 true (.fa 10 (.t 2)), g 11 9 true (.ld none (.t 10)), g 12 9 true (.fa 10 (.t 1)), g 13 9 true (.ld none (.t 12)), g 14 9 true (.bin .eql (.t 11) (.t 13)), p 15 (.pick (.t 9) (.t 14) (.k (.bool false))), p 16 (.mv (.t 15)), g 17 16 true (.fa 11 (.t 2)), g 18 16 true (.ld none (.t 17)), g 19 16 true (.fa 11 (.t 1)), g 20 16 true (.ld none (.t 19)), g 21 16 true (.bin .eql (.t 18) (.t 20)), p 22 (.pick (.t 16) (.t 21) (.k (.bool false))), p 3 (.mv (.t 22))] [])
 .ret))⟩
/-- slices.IndexFunc[[]uint32,uint32] -/
def v29 : VFn := ⟨none, 1, [.t 4], (.seq (.reg [p 4 (.mv (.k (.int .i64 0)))] [])
 (.seq (.seq (.reg [p 6 (.mv (.t 0)), p 7 (.len (.t 6)), p 8 (.mv (.k (.int .i64 0)))] [])
 (.block 0 (.loop (.seq (.reg [p 9 (.bin .lss (.t 8) (.t 7))] [])
   (.seq (.cond (.t 9) .skip
   (.exit 0))
   (.seq (.block 1 (.seq (.reg [p 10 (.mv (.t 8)), p 5 (.mv (.t 10))] [])
    (.seq (.reg [p 11 (.mv (.t 1)), p 12 (.mv (.t 0)), p 13 (.mv (.t 5)), p 14 (.ia 1 (.t 12) (.t 13)), p 15 (.ld none (.t 14)), p 16 (.callv (.t 11) [(.t 15)])] [])
    (.cond (.t 16) (.seq (.reg [p 17 (.mv (.t 5)), p 4 (.mv (.t 17))] [])
     .ret)
    .skip))))
   (.reg [p 18 (.bin .add (.t 8) (.k (.int .i64 1))), p 8 (.mv (.t 18))] [])))))))
 (.seq (.reg [p 4 (.mv (.k (.int .i64 (-1))))] [])
 .ret)))⟩
/-- slices.Index[[]uint32,uint32] -/
def v30 : VFn := ⟨none, 1, [.t 4], (.seq (.reg [p 4 (.mv (.k (.int .i64 0)))] [])
 (.seq (.seq (.reg [p 6 (.mv (.t 0)), p 7 (.len (.t 6)), p 8 (.mv (.k (.int .i64 0)))] [])
 (.block 0 (.loop (.seq (.reg [p 9 (.bin .lss (.t 8) (.t 7))] [])
   (.seq (.cond (.t 9) .skip
   (.exit 0))
   (.seq (.block 1 (.seq (.reg [p 10 (.mv (.t 8)), p 5 (.mv (.t 10))] [])
    (.seq (.reg [p 11 (.mv (.t 1)), p 12 (.mv (.t 0)), p 13 (.mv (.t 5)), p 14 (.ia 1 (.t 12) (.t 13)), p 15 (.ld none (.t 14)), p 16 (.bin .eql (.t 11) (.t 15))] [])
    (.cond (.t 16) (.seq (.reg [p 17 (.mv (.t 5)), p 4 (.mv (.t 17))] [])
     .ret)
    .skip))))
   (.reg [p 18 (.bin .add (.t 8) (.k (.int .i64 1))), p 8 (.mv (.t 18))] [])))))))
 (.seq (.reg [p 4 (.mv (.k (.int .i64 (-1))))] [])
 .ret)))⟩
/-- spigot/spigotref03.CheckLimit -/
def v31 : VFn := ⟨none, 1, [.t 2], (.seq (.reg [p 1 (.box 3 (.t 0)), p 2 (.mv (.k (.int .i64 0)))] [])
 (.seq (.seq (.reg [p 3 (.fa 0 (.t 1)), p 4 (.ld none (.t 3)), p 5 (.bin .lss (.t 4) (.k (.int .i64 1))), p 6 (.mv (.t 5)), g 7 6 false (.fa 0 (.t 1)), g 8 6 false (.ld none (.t 7)), g 9 6 false (.bin .gtr (.t 8) (.k (.int .i64 1000000000))), p 10 (.pick (.t 6) (.k (.bool true)) (.t 9)), p 11 (.mv (.t 10)), g 12 11 false (.fa 1 (.t 1)), g 13 11 false (.ld none (.t 12)), g 14 11 false (.bin .lss (.t 13) (.k (.int .i64 0))), p 15 (.pick (.t 11) (.k (.bool true)) (.t 14)), p 16 (.mv (.t 15)), g 17 16 false (.fa 1 (.t 1)), g 18 16 false (.ld none (.t 17)), g 19 16 false (.bin .gtr (.t 18) (.k (.int .i64 1000000000))), p 20 (.pick (.t 16) (.k (.bool true)) (.t 19)), p 21 (.mv (.t 20)), g 22 21 false (.fa 2 (.t 1)), g 23 21 false (.ld none (.t 22)), g 24 21 false (.bin .lss (.t 23) (.k (.int .i64 1))), p 25 (.pick (.t 21) (.k (.bool true)) (.t 24)), p 26 (.mv (.t 25)), g 27 26 false (.fa 2 (.t 1)), g 28 26 false (.ld none (.t 27)), g 29 26 false (.bin .gtr (.t 28) (.k (.int .i64 1000000000))), p 30 (.pick (.t 26) (.k (.bool true)) (.t 29))] [])
 (.cond (.t 30) (.seq (.reg [p 2 (.mv (.k (.int .i64 8)))] [])
  .ret)
 .skip))
 (.seq (.reg [p 2 (.mv (.k (.int .i64 0)))] [])
 .ret)))⟩
/-- spigot/bucket.CheckLimit -/
def v32 : VFn := ⟨none, 1, [.t 2], (.seq (.reg [p 1 (.box 3 (.t 0)), p 2 (.mv (.k (.int .i64 0)))] [])
 (.seq (.seq (.reg [p 3 (.fa 0 (.t 1)), p 4 (.ld none (.t 3)), p 5 (.bin .lss (.t 4) (.k (.int .i64 1))), p 6 (.mv (.t 5)), g 7 6 false (.fa 0 (.t 1)), g 8 6 false (.ld none (.t 7)), g 9 6 false (.bin .gtr (.t 8) (.k (.int .i64 1000000000))), p 10 (.pick (.t 6) (.k (.bool true)) (.t 9)), p 11 (.mv (.t 10)), g 12 11 false (.fa 1 (.t 1)), g 13 11 false (.ld none (.t 12)), g 14 11 false (.bin .lss (.t 13) (.k (.int .i64 0))), p 15 (.pick (.t 11) (.k (.bool true)) (.t 14)), p 16 (.mv (.t 15)), g 17 16 false (.fa 1 (.t 1)), g 18 16 false (.ld none (.t 17)), g 19 16 false (.bin .gtr (.t 18) (.k (.int .i64 1000000000))), p 20 (.pick (.t 16) (.k (.bool true)) (.t 19)), p 21 (.mv (.t 20)), g 22 21 false (.fa 2 (.t 1)), g 23 21 false (.ld none (.t 22)), g 24 21 false (.bin .lss (.t 23) (.k (.int .i64 1))), p 25 (.pick (.t 21) (.k (.bool true)) (.t 24)), p 26 (.mv (.t 25)), g 27 26 false (.fa 2 (.t 1)), g 28 26 false (.ld none (.t 27)), g 29 26 false (.bin .gtr (.t 28) (.k (.int .i64 1000000000))), p 30 (.pick (.t 26) (.k (.bool true)) (.t 29))] [])
 (.cond (.t 30) (.seq (.reg [p 2 (.mv (.k (.int .i64 8)))] [])
  .ret)
 .skip))
 (.seq (.reg [p 2 (.mv (.k (.int .i64 0)))] [])
 .ret)))⟩

def pu (i : Nat) : Nat := bif Nat.beq i 11 then 0 else bif Nat.beq i 14 then 0 else bif Nat.beq i 15 then 0 else bif Nat.beq i 19 then 0 else bif Nat.beq i 22 then 0 else bif Nat.ble 50 i then 0 else 1
def vp (i : Nat) : Option VFn := (bif Nat.blt i 18 then (bif Nat.blt i 10 then (bif Nat.blt i 6 then (bif Nat.blt i 4 then (bif Nat.beq i 3 then some v3 else none) else (bif Nat.blt i 5 then (bif Nat.beq i 4 then some v4 else none) else (bif Nat.beq i 5 then some v5 else none))) else (bif Nat.blt i 8 then (bif Nat.blt i 7 then (bif Nat.beq i 6 then some v6 else none) else (bif Nat.beq i 7 then some v7 else none)) else (bif Nat.blt i 9 then (bif Nat.beq i 8 then some v8 else none) else (bif Nat.beq i 9 then some v9 else none)))) else (bif Nat.blt i 14 then (bif Nat.blt i 12 then (bif Nat.blt i 11 then (bif Nat.beq i 10 then some v10 else none) else (bif Nat.beq i 11 then some v11 else none)) else (bif Nat.blt i 13 then (bif Nat.beq i 12 then some v12 else none) else (bif Nat.beq i 13 then some v13 else none))) else (bif Nat.blt i 16 then (bif Nat.blt i 15 then (bif Nat.beq i 14 then some v14 else none) else (bif Nat.beq i 15 then some v15 else none)) else (bif Nat.blt i 17 then (bif Nat.beq i 16 then some v16 else none) else (bif Nat.beq i 17 then some v17 else none))))) else (bif Nat.blt i 25 then (bif Nat.blt i 21 then (bif Nat.blt i 19 then (bif Nat.beq i 18 then some v18 else none) else (bif Nat.blt i 20 then (bif Nat.beq i 19 then some v19 else none) else (bif Nat.beq i 20 then some v20 else none))) else (bif Nat.blt i 23 then (bif Nat.blt i 22 then (bif Nat.beq i 21 then some v21 else none) else (bif Nat.beq i 22 then some v22 else none)) else (bif Nat.blt i 24 then (bif Nat.beq i 23 then some v23 else none) else (bif Nat.beq i 24 then some v24 else none)))) else (bif Nat.blt i 29 then (bif Nat.blt i 27 then (bif Nat.blt i 26 then (bif Nat.beq i 25 then some v25 else none) else (bif Nat.beq i 26 then some v26 else none)) else (bif Nat.blt i 28 then (bif Nat.beq i 27 then some v27 else none) else (bif Nat.beq i 28 then some v28 else none))) else (bif Nat.blt i 31 then (bif Nat.blt i 30 then (bif Nat.beq i 29 then some v29 else none) else (bif Nat.beq i 30 then some v30 else none)) else (bif Nat.blt i 32 then (bif Nat.beq i 31 then some v31 else none) else (bif Nat.beq i 32 then some v32 else none))))))
theorem at3 : vp 3 = some v3 := rfl
theorem at4 : vp 4 = some v4 := rfl
theorem at5 : vp 5 = some v5 := rfl
theorem at6 : vp 6 = some v6 := rfl
theorem at7 : vp 7 = some v7 := rfl
theorem at8 : vp 8 = some v8 := rfl
theorem at9 : vp 9 = some v9 := rfl
theorem at10 : vp 10 = some v10 := rfl
theorem at11 : vp 11 = some v11 := rfl
theorem at12 : vp 12 = some v12 := rfl
theorem at13 : vp 13 = some v13 := rfl
theorem at14 : vp 14 = some v14 := rfl
theorem at15 : vp 15 = some v15 := rfl
theorem at16 : vp 16 = some v16 := rfl
theorem at17 : vp 17 = some v17 := rfl
theorem at18 : vp 18 = some v18 := rfl
theorem at19 : vp 19 = some v19 := rfl
theorem at20 : vp 20 = some v20 := rfl
theorem at21 : vp 21 = some v21 := rfl
theorem at22 : vp 22 = some v22 := rfl
theorem at23 : vp 23 = some v23 := rfl
theorem at24 : vp 24 = some v24 := rfl
theorem at25 : vp 25 = some v25 := rfl
theorem at26 : vp 26 = some v26 := rfl
theorem at27 : vp 27 = some v27 := rfl
theorem at28 : vp 28 = some v28 := rfl
theorem at29 : vp 29 = some v29 := rfl
theorem at30 : vp 30 = some v30 := rfl
theorem at31 : vp 31 = some v31 := rfl
theorem at32 : vp 32 = some v32 := rfl
end Go.VE.CO
