/-
  The abstract machine's text of the functions that ClockNone reaches, and: it is the loaded program's. Then the functions without temporaries.
-/
import Derived.Test.YtbbencnhecokiaaDoorProg
import Derived.Test.YtbbencnhecokiaaDoorMxT
import Derived.Test.YtbbencnhecokiaaDoorMxU
import Derived.Test.YtbbencnhecokiaaDoorMxV
import Derived.Test.YtbbencnhecokiaaDoorMxX
namespace Go.Proofs.YtbbencnhecokiaaDoor.IrClockNone
open Go Mx
set_option maxRecDepth 100000
set_option linter.unusedVariables false
/-! cableway/cablewaylaw31.ClockNone -/
def rs5 : List RV := [(.t 4)]
def o5_1 : List IOp := [⟨some 43, .pu (.pick (.t 30) (.t 42) (.c (.b false))), none⟩, ⟨some 4, .pu (.mov (.t 43)), none⟩] ++ []
def o5_2 : List IOp := [⟨some 41, .pu (.pick (.t 38) (.t 40) (.c (.b false))), some (30, true)⟩, ⟨some 42, .pu (.eqz false .b (.t 35) (.t 41)), some (30, true)⟩] ++ o5_1
def o5_3 : List IOp := [⟨some 39, .pu (.mov (.t 7)), some (38, true)⟩, ⟨some 40, .pu (.bin .leq (.t 39) (.c (.i .i64 4))), some (38, true)⟩] ++ o5_2
def o5_4 : List IOp := [⟨some 31, .pu (.bld [(.i .i64 0), (.i .i64 0)] [(1, 1, (.c (.i .i64 2)))]), some (30, true)⟩, ⟨some 32, .pu (.mov (.t 7)), some (30, true)⟩, ⟨some 33, .al (.mks 16 [(.i .i64 0), (.i .i64 0)] (.t 32)), some (30, true)⟩, ⟨some 34, .ef (.call 18 [(.t 31), (.t 33)]), some (30, true)⟩, ⟨some 35, .pu (.eqz true .p (.t 34) (.c (.p none))), some (30, true)⟩, ⟨some 36, .pu (.mov (.t 7)), some (30, true)⟩, ⟨some 37, .pu (.bin .geq (.t 36) (.c (.i .i64 1))), some (30, true)⟩, ⟨some 38, .pu (.mov (.t 37)), some (30, true)⟩] ++ o5_3
def o5_5 : List IOp := [⟨some 29, .pu (.pick (.t 24) (.t 28) (.c (.b false))), none⟩, ⟨some 30, .pu (.mov (.t 29)), none⟩] ++ o5_4
def o5_6 : List IOp := [⟨some 25, .pu (.mov (.t 6)), some (24, true)⟩, ⟨some 26, .ef (.call 17 [(.t 25)]), some (24, true)⟩, ⟨some 27, .pu (.lens (.t 26)), some (24, true)⟩, ⟨some 28, .pu (.bin .eql (.t 27) (.c (.i .i64 0))), some (24, true)⟩] ++ o5_5
def o5_7 : List IOp := [⟨some 23, .pu (.pick (.t 16) (.t 22) (.c (.b false))), none⟩, ⟨some 24, .pu (.mov (.t 23)), none⟩] ++ o5_6
def o5_8 : List IOp := [⟨some 17, .pu (.mov (.t 5)), some (16, true)⟩, ⟨some 18, .ef (.call 13 [(.t 17)]), some (16, true)⟩, ⟨some 19, .pu (.mov (.t 5)), some (16, true)⟩, ⟨some 20, .ef (.call 14 [(.t 19)]), some (16, true)⟩, ⟨some 21, .pu (.bin .add (.t 18) (.t 20)), some (16, true)⟩, ⟨some 22, .pu (.bin .eql (.t 21) (.c (.i .i64 0))), some (16, true)⟩] ++ o5_7
def o5_9 : List IOp := [⟨some 15, .ef (.call 12 []), none⟩, ⟨some 16, .pu (.mov (.t 15)), none⟩] ++ o5_8
def c5 : IC := (.seq (.region [⟨some 4, .pu (.mov (.c (.b false))), none⟩]) (.seq (.region [⟨some 5, .pu (.mov (.c (.p none))), none⟩]) (.seq (.region [⟨some 8, .ef (.call 15 [(.c (.i .i64 3))]), none⟩, ⟨some 6, .pu (.mov (.t 8)), none⟩]) (.seq (.region [⟨some 9, .pu (.mov (.t 5)), none⟩, ⟨some 10, .pu (.mov (.t 6)), none⟩, ⟨some 11, .pu (.mov (.t 1)), none⟩, ⟨some 12, .ef (.call 16 [(.t 9), (.t 10), (.t 11)]), none⟩]) (.seq (.region [⟨some 13, .pu (.mov (.t 0)), none⟩, ⟨some 14, .pu (.bin .and (.t 13) (.c (.i .i64 7))), none⟩, ⟨some 7, .pu (.mov (.t 14)), none⟩]) (.seq (.region o5_9) .ret))))))
def ir5 : IFn := { ntmps := 44, results := rs5, body := c5 }
/-! cableway/cablewaylaw31.begin -/
def rs7 : List RV := [(.c 2 true 12)]
def c7 : IC := (.seq (.region [⟨some 2, .al (.zero [(.p none), (.p none), (.i .i64 0), (.i .i64 0), (.i .i64 0), (.i .i64 0), (.i .i64 0), (.i .i64 0), (.i .i64 0), (.i .u64 0), (.i .u64 0), (.b false)]), none⟩]) (.seq (.region [⟨some 5, .pu (.mov (.t 0)), none⟩, ⟨some 6, .pu (.bin .mul (.c (.i .i64 4)) (.t 5)), none⟩, ⟨some 7, .pu (.bin .add (.c (.i .i64 1)) (.t 6)), none⟩, ⟨some 3, .pu (.mov (.t 7)), none⟩]) (.seq (.region [⟨some 8, .pu (.mov (.t 3)), none⟩, ⟨some 9, .pu (.bin .mul (.c (.i .i64 3)) (.t 8)), none⟩, ⟨some 10, .ef (.call 15 [(.t 9)]), none⟩, ⟨some 11, .pu (.mov (.t 0)), none⟩, ⟨some 12, .pu (.bld [(.i .i64 0), (.i .i64 0)] [(1, 1, (.t 11))]), none⟩, ⟨some 13, .pu (.mov (.t 3)), none⟩, ⟨some 14, .pu (.mov (.t 0)), none⟩, ⟨some 15, .pu (.bld [(.i .i64 0), (.i .i64 0)] [(0, 1, (.t 13)), (1, 1, (.t 14))]), none⟩, ⟨some 16, .pu (.mov (.t 3)), none⟩, ⟨some 17, .pu (.bin .mul (.c (.i .i64 2)) (.t 16)), none⟩, ⟨some 18, .pu (.mov (.t 0)), none⟩, ⟨some 19, .pu (.bld [(.i .i64 0), (.i .i64 0)] [(0, 1, (.t 17)), (1, 1, (.t 18))]), none⟩, ⟨some 20, .pu (.bld [(.i .i64 0), (.i .i64 0), (.i .i64 0), (.i .i64 0)] [(0, 2, (.t 15)), (2, 2, (.t 19))]), none⟩, ⟨some 21, .pu (.bld [(.p none), (.p none), (.i .i64 0), (.i .i64 0), (.i .i64 0), (.i .i64 0), (.i .i64 0), (.i .i64 0), (.i .i64 0), (.i .u64 0), (.i .u64 0), (.b false)] [(1, 1, (.t 10)), (2, 2, (.t 12)), (4, 4, (.t 20)), (11, 1, (.c (.b true)))]), none⟩, ⟨some 4, .al (.zero [(.p none), (.p none), (.i .i64 0), (.i .i64 0), (.i .i64 0), (.i .i64 0), (.i .i64 0), (.i .i64 0), (.i .i64 0), (.i .u64 0), (.i .u64 0), (.b false)]), none⟩, ⟨none, .ef (.store 12 (.t 4) (.t 21)), none⟩]) (.seq (.region [⟨some 22, .pu (.fa 1 (.t 4)), none⟩, ⟨some 23, .ld false 1 (.t 22), none⟩, ⟨some 24, .pu (.fa 2 (.t 4)), none⟩, ⟨some 25, .ld true 2 (.t 24), none⟩, ⟨some 26, .ef (.call 19 [(.t 23), (.t 25)]), none⟩]) (.seq (.region [⟨some 27, .pu (.fa 1 (.t 4)), none⟩, ⟨some 28, .ld false 1 (.t 27), none⟩, ⟨some 29, .pu (.fa 4 (.t 4)), none⟩, ⟨some 30, .pu (.iaa 2 2 (.t 29) (.c (.i .i64 0))), none⟩, ⟨some 31, .ld true 2 (.t 30), none⟩, ⟨some 32, .ef (.call 19 [(.t 28), (.t 31)]), none⟩]) (.seq (.region [⟨some 33, .pu (.fa 1 (.t 4)), none⟩, ⟨some 34, .ld false 1 (.t 33), none⟩, ⟨some 35, .pu (.fa 4 (.t 4)), none⟩, ⟨some 36, .pu (.iaa 2 2 (.t 35) (.c (.i .i64 1))), none⟩, ⟨some 37, .ld true 2 (.t 36), none⟩, ⟨some 38, .ef (.call 19 [(.t 34), (.t 37)]), none⟩]) (.seq (.draw [⟨some 39, .pu (.fa 2 (.t 4)), none⟩, ⟨some 40, .ld true 2 (.t 39), none⟩, ⟨some 41, .pu (.fa 4 (.t 4)), none⟩, ⟨some 42, .pu (.sla 2 2 (.t 41) none none none), none⟩, ⟨some 43, .ef (.call 18 [(.t 40), (.t 42)]), none⟩, ⟨some 44, .pu (.fa 0 (.t 4)), none⟩, ⟨none, .ef (.store 1 (.t 44) (.t 43)), none⟩] []) (.seq (.region [⟨some 45, .ld true 12 (.t 4), none⟩, ⟨none, .ef (.store 12 (.t 2) (.t 45)), none⟩]) .ret))))))))
def ir7 : IFn := { ntmps := 46, results := rs7, body := c7 }
/-! (cableway/cablewaylaw31.rig).ask -/
def rs9 : List RV := [(.c 4 true 12), (.t 5)]
def o9_2 : List IOp := [⟨some 46, .pu (.pick (.t 43) (.t 45) (.c (.b false))), none⟩, ⟨none, .ef (.store 12 (.t 4) (.t 41)), none⟩, ⟨some 5, .pu (.mov (.t 46)), none⟩] ++ []
def o9_3 : List IOp := [⟨some 44, .pu (.mov (.t 12)), some (43, true)⟩, ⟨some 45, .pu (.bin .eql (.t 44) (.c (.i .i64 0))), some (43, true)⟩] ++ o9_2
def o9_4 : List IOp := [⟨some 41, .ld true 12 (.t 2), none⟩, ⟨some 42, .pu (.mov (.t 13)), none⟩, ⟨some 43, .pu (.mov (.t 42)), none⟩] ++ o9_3
def c9_1 : IC := (.seq (.region [⟨some 37, .ld true 9 (.t 10), none⟩, ⟨some 38, .ef (.call 24 [(.t 37)]), none⟩, ⟨some 36, .pu (.mov (.t 38)), none⟩, ⟨some 39, .pu (.ext (.t 36) 0), none⟩, ⟨some 40, .pu (.ext (.t 36) 1), none⟩, ⟨some 12, .pu (.mov (.t 39)), none⟩, ⟨some 13, .pu (.mov (.t 40)), none⟩]) (.seq (.region o9_4) .ret))
def c9_6 : IC := (.seq (.seq (.region [⟨some 28, .pu (.mov (.t 11)), none⟩, ⟨some 29, .pu (.bin .lss (.t 28) (.c (.i .i64 9))), none⟩]) (.cond (.t 29) .skip (.exit 0))) (.seq (.block 1 (.region [⟨some 32, .ld true 9 (.t 10), none⟩, ⟨some 33, .pu (.fa 1 (.t 2)), none⟩, ⟨some 34, .ld false 1 (.t 33), none⟩, ⟨some 35, .ef (.call 23 [(.t 32), (.t 34)]), none⟩, ⟨none, .ef (.store 9 (.t 10) (.t 35)), none⟩])) (.region [⟨some 30, .pu (.mov (.t 11)), none⟩, ⟨some 31, .pu (.bin .add (.t 30) (.c (.i .i64 1))), none⟩, ⟨some 11, .pu (.mov (.t 31)), none⟩])))
def c9 : IC := (.seq (.region [⟨some 2, .al (.box (.t 0)), none⟩, ⟨some 3, .al (.box (.t 1)), none⟩, ⟨some 4, .al (.zero [(.p none), (.p none), (.i .i64 0), (.i .i64 0), (.i .i64 0), (.i .i64 0), (.i .i64 0), (.i .i64 0), (.i .i64 0), (.i .u64 0), (.i .u64 0), (.b false)]), none⟩, ⟨some 5, .pu (.mov (.c (.b false))), none⟩]) (.seq (.region [⟨some 15, .ld true 5 (.t 3), none⟩, ⟨some 16, .ef (.call 20 [(.t 15)]), none⟩, ⟨some 14, .pu (.mov (.t 16)), none⟩, ⟨some 17, .pu (.ext (.t 14) 0), none⟩, ⟨some 18, .pu (.ext (.t 14) 1), none⟩, ⟨some 6, .al (.zero [(.i .i64 0), (.i .i64 0), (.i .i64 0), (.i .i64 0), (.i .i64 0), (.i .u32 0), (.i .i64 0), (.b false), (.b false), (.i .i64 0), (.i .u32 0)]), none⟩, ⟨none, .ef (.store 11 (.t 6) (.t 17)), none⟩, ⟨some 7, .pu (.mov (.t 18)), none⟩]) (.seq (.region [⟨some 20, .ld true 11 (.t 6), none⟩, ⟨some 21, .ef (.call 21 [(.t 20)]), none⟩, ⟨some 19, .pu (.mov (.t 21)), none⟩, ⟨some 22, .pu (.ext (.t 19) 0), none⟩, ⟨some 23, .pu (.ext (.t 19) 1), none⟩, ⟨some 8, .al (.zero [(.i .u64 0), (.i .u64 0), (.i .u64 0)]), none⟩, ⟨none, .ef (.store 3 (.t 8) (.t 22)), none⟩, ⟨some 9, .pu (.mov (.t 23)), none⟩]) (.seq (.region [⟨some 24, .pu (.fa 2 (.t 2)), none⟩, ⟨some 25, .ld true 2 (.t 24), none⟩, ⟨some 26, .ld true 3 (.t 8), none⟩, ⟨some 27, .ef (.call 22 [(.t 25), (.t 26)]), none⟩, ⟨some 10, .al (.zero [(.i .i64 0), (.i .i64 0), (.i .u64 0), (.i .u64 0), (.i .u64 0), (.i .u64 0), (.i .i64 0), (.b false), (.b false)]), none⟩, ⟨none, .ef (.store 9 (.t 10) (.t 27)), none⟩]) (.seq (.seq (.region [⟨some 11, .pu (.mov (.c (.i .i64 0))), none⟩]) (.block 0 (.loop c9_6))) c9_1)))))
def ir9 : IFn := { ntmps := 47, results := rs9, body := c9 }
/-! (cableway/cablewaylaw31.rig).step -/
def rs10 : List RV := [(.c 6 true 12)]
def c10_1 : IC := (.seq (.region [⟨some 32, .ld true 12 (.t 3), none⟩, ⟨none, .ef (.store 12 (.t 6) (.t 32)), none⟩]) .ret)
def c10_3 : IC := (.region [⟨some 11, .pu (.mov (.t 7)), none⟩, ⟨some 12, .pu (.bin .add (.t 11) (.c (.i .i64 1))), none⟩, ⟨some 7, .pu (.mov (.t 12)), none⟩])
def o10_4 : List IOp := [⟨some 30, .pu (.pick (.t 24) (.t 29) (.c (.b false))), none⟩, ⟨some 31, .pu (.fa 11 (.t 3)), none⟩, ⟨none, .ef (.store 1 (.t 31) (.t 30)), none⟩] ++ []
def o10_5 : List IOp := [⟨some 25, .pu (.fa 1 (.t 3)), some (24, true)⟩, ⟨some 26, .ld false 1 (.t 25), some (24, true)⟩, ⟨some 27, .ef (.call 17 [(.t 26)]), some (24, true)⟩, ⟨some 28, .pu (.lens (.t 27)), some (24, true)⟩, ⟨some 29, .pu (.bin .leq (.t 28) (.c (.i .i64 1))), some (24, true)⟩] ++ o10_4
def o10_6 : List IOp := [⟨some 22, .pu (.fa 11 (.t 3)), none⟩, ⟨some 23, .ld false 1 (.t 22), none⟩, ⟨some 24, .pu (.mov (.t 23)), none⟩] ++ o10_5
def c10_2 : IC := (.seq (.seq (.region [⟨some 8, .pu (.mov (.t 7)), none⟩, ⟨some 9, .pu (.mov (.t 1)), none⟩, ⟨some 10, .pu (.bin .lss (.t 8) (.t 9)), none⟩]) (.cond (.t 10) .skip (.exit 0))) (.seq (.block 1 (.seq (.region [⟨some 13, .pu (.fa 1 (.t 3)), none⟩, ⟨some 14, .ld false 1 (.t 13), none⟩, ⟨some 15, .ef (.call 25 [(.t 14)]), none⟩]) (.seq (.region [⟨some 16, .pu (.fa 0 (.t 3)), none⟩, ⟨some 17, .ld false 1 (.t 16), none⟩, ⟨some 18, .pu (.fa 1 (.t 3)), none⟩, ⟨some 19, .ld false 1 (.t 18), none⟩, ⟨some 20, .pu (.mov (.t 2)), none⟩, ⟨some 21, .ef (.call 16 [(.t 17), (.t 19), (.t 20)]), none⟩]) (.region o10_6)))) c10_3))
def c10 : IC := (.seq (.region [⟨some 3, .al (.box (.t 0)), none⟩, ⟨some 6, .al (.zero [(.p none), (.p none), (.i .i64 0), (.i .i64 0), (.i .i64 0), (.i .i64 0), (.i .i64 0), (.i .i64 0), (.i .i64 0), (.i .u64 0), (.i .u64 0), (.b false)]), none⟩]) (.seq (.seq (.region [⟨some 7, .pu (.mov (.c (.i .i64 0))), none⟩]) (.block 0 (.loop c10_2))) c10_1))
def ir10 : IFn := { ntmps := 33, results := rs10, body := c10 }
/-! (cableway/cablewaylaw31.rig).told -/
def rs11 : List RV := [(.c 4 true 12), (.c 5 true 11), (.t 6)]
def c11_1 : IC := (.seq (.seq (.region [⟨some 31, .ld true 8 (.t 7), none⟩, ⟨some 32, .ef (.call 28 [(.t 31)]), none⟩, ⟨some 30, .pu (.mov (.t 32)), none⟩, ⟨some 33, .pu (.ext (.t 30) 0), none⟩, ⟨some 34, .pu (.ext (.t 30) 1), none⟩, ⟨some 9, .pu (.mov (.t 33)), none⟩, ⟨some 10, .pu (.mov (.t 34)), none⟩]) (.seq (.region [⟨some 35, .pu (.mov (.t 9)), none⟩, ⟨some 36, .pu (.bin .neq (.t 35) (.c (.i .i64 0))), none⟩]) (.cond (.t 36) (.seq (.region [⟨some 37, .ld true 12 (.t 2), none⟩, ⟨some 38, .pu (.bld [(.i .i64 0), (.i .i64 0), (.i .i64 0), (.i .i64 0), (.i .i64 0), (.i .u32 0), (.i .i64 0), (.b false), (.b false), (.i .i64 0), (.i .u32 0)] []), none⟩, ⟨none, .ef (.store 12 (.t 4) (.t 37)), none⟩, ⟨none, .ef (.store 11 (.t 5) (.t 38)), none⟩, ⟨some 6, .pu (.mov (.c (.b false))), none⟩]) .ret) .skip))) (.seq (.region [⟨some 39, .pu (.mov (.t 1)), none⟩, ⟨some 40, .pu (.fa 9 (.t 2)), none⟩, ⟨some 41, .pu (.iaa 1 2 (.t 40) (.t 39)), none⟩, ⟨some 42, .ld false 1 (.t 41), none⟩, ⟨some 43, .pu (.bin .add (.t 42) (.c (.i .u64 1))), none⟩, ⟨some 44, .pu (.fa 9 (.t 2)), none⟩, ⟨some 45, .pu (.iaa 1 2 (.t 44) (.t 39)), none⟩, ⟨none, .ef (.store 1 (.t 45) (.t 43)), none⟩]) (.seq (.region [⟨some 47, .ld true 8 (.t 7), none⟩, ⟨some 48, .ef (.call 30 [(.t 47)]), none⟩, ⟨some 49, .ef (.call 29 [(.t 48)]), none⟩, ⟨some 46, .pu (.mov (.t 49)), none⟩, ⟨some 50, .pu (.ext (.t 46) 0), none⟩, ⟨some 51, .pu (.ext (.t 46) 1), none⟩, ⟨some 11, .al (.zero [(.i .i64 0), (.i .i64 0), (.i .i64 0), (.i .i64 0), (.i .i64 0), (.i .u32 0), (.i .i64 0), (.b false), (.b false), (.i .i64 0), (.i .u32 0)]), none⟩, ⟨none, .ef (.store 11 (.t 11) (.t 50)), none⟩, ⟨some 12, .pu (.mov (.t 51)), none⟩]) (.seq (.draw [⟨some 52, .ld true 12 (.t 2), none⟩, ⟨some 53, .ld true 11 (.t 11), none⟩, ⟨some 54, .pu (.mov (.t 12)), none⟩, ⟨some 55, .pu (.bin .eql (.t 54) (.c (.i .i64 0))), none⟩, ⟨none, .ef (.store 12 (.t 4) (.t 52)), none⟩, ⟨none, .ef (.store 11 (.t 5) (.t 53)), none⟩, ⟨some 6, .pu (.mov (.t 55)), none⟩] [(1, 4)]) .ret))))
def c11_2 : IC := (.seq (.seq (.region [⟨some 22, .pu (.mov (.t 8)), none⟩, ⟨some 23, .pu (.bin .lss (.t 22) (.c (.i .i64 6))), none⟩]) (.cond (.t 23) .skip (.exit 0))) (.seq (.block 1 (.region [⟨some 26, .ld true 8 (.t 7), none⟩, ⟨some 27, .pu (.fa 1 (.t 2)), none⟩, ⟨some 28, .ld false 1 (.t 27), none⟩, ⟨some 29, .ef (.call 27 [(.t 26), (.t 28)]), none⟩, ⟨none, .ef (.store 8 (.t 7) (.t 29)), none⟩])) (.region [⟨some 24, .pu (.mov (.t 8)), none⟩, ⟨some 25, .pu (.bin .add (.t 24) (.c (.i .i64 1))), none⟩, ⟨some 8, .pu (.mov (.t 25)), none⟩])))
def c11 : IC := (.seq (.region [⟨some 2, .al (.box (.t 0)), none⟩, ⟨some 4, .al (.zero [(.p none), (.p none), (.i .i64 0), (.i .i64 0), (.i .i64 0), (.i .i64 0), (.i .i64 0), (.i .i64 0), (.i .i64 0), (.i .u64 0), (.i .u64 0), (.b false)]), none⟩, ⟨some 5, .al (.zero [(.i .i64 0), (.i .i64 0), (.i .i64 0), (.i .i64 0), (.i .i64 0), (.i .u32 0), (.i .i64 0), (.b false), (.b false), (.i .i64 0), (.i .u32 0)]), none⟩, ⟨some 6, .pu (.mov (.c (.b false))), none⟩]) (.seq (.draw [⟨some 13, .pu (.mov (.t 1)), none⟩, ⟨some 14, .pu (.fa 4 (.t 2)), none⟩, ⟨some 15, .pu (.iaa 2 2 (.t 14) (.t 13)), none⟩, ⟨some 16, .ld true 2 (.t 15), none⟩, ⟨some 17, .pu (.mov (.t 1)), none⟩, ⟨some 18, .pu (.fa 9 (.t 2)), none⟩, ⟨some 19, .pu (.iaa 1 2 (.t 18) (.t 17)), none⟩, ⟨some 20, .ld false 1 (.t 19), none⟩, ⟨some 21, .ef (.call 26 [(.t 16), (.t 20)]), none⟩, ⟨some 7, .al (.zero [(.i .i64 0), (.i .i64 0), (.i .u64 0), (.i .u64 0), (.i .u64 0), (.i .u64 0), (.i .i64 0), (.b false)]), none⟩, ⟨none, .ef (.store 8 (.t 7) (.t 21)), none⟩] []) (.seq (.seq (.region [⟨some 8, .pu (.mov (.c (.i .i64 0))), none⟩]) (.block 0 (.loop c11_2))) c11_1)))
def ir11 : IFn := { ntmps := 56, results := rs11, body := c11 }
/-! cableway/cablewaylaw31.awake -/
def rs12 : List RV := [(.t 0)]
def o12_1 : List IOp := [⟨some 57, .pu (.pick (.t 52) (.t 56) (.c (.b false))), none⟩, ⟨some 0, .pu (.mov (.t 57)), none⟩] ++ []
def o12_2 : List IOp := [⟨some 53, .pu (.fa 0 (.t 1)), some (52, true)⟩, ⟨some 54, .ld false 1 (.t 53), some (52, true)⟩, ⟨some 55, .ef (.call 13 [(.t 54)]), some (52, true)⟩, ⟨some 56, .pu (.bin .eql (.t 55) (.c (.i .i64 0))), some (52, true)⟩] ++ o12_1
def o12_3 : List IOp := [⟨some 51, .pu (.pick (.t 47) (.t 50) (.c (.b false))), none⟩, ⟨some 52, .pu (.mov (.t 51)), none⟩] ++ o12_2
def o12_4 : List IOp := [⟨some 48, .pu (.fa 4 (.t 5)), some (47, true)⟩, ⟨some 49, .ld false 1 (.t 48), some (47, true)⟩, ⟨some 50, .pu (.bin .eql (.t 49) (.c (.i .i64 3))), some (47, true)⟩] ++ o12_3
def o12_5 : List IOp := [⟨some 46, .pu (.pick (.t 42) (.t 45) (.c (.b false))), none⟩, ⟨some 47, .pu (.mov (.t 46)), none⟩] ++ o12_4
def o12_6 : List IOp := [⟨some 43, .pu (.fa 3 (.t 5)), some (42, true)⟩, ⟨some 44, .ld false 1 (.t 43), some (42, true)⟩, ⟨some 45, .pu (.bin .eql (.t 44) (.c (.i .i64 2))), some (42, true)⟩] ++ o12_5
def o12_7 : List IOp := [⟨some 41, .pu (.pick (.t 37) (.t 40) (.c (.b false))), none⟩, ⟨some 42, .pu (.mov (.t 41)), none⟩] ++ o12_6
def o12_8 : List IOp := [⟨some 38, .pu (.fa 0 (.t 5)), some (37, true)⟩, ⟨some 39, .ld false 1 (.t 38), some (37, true)⟩, ⟨some 40, .pu (.bin .eql (.t 39) (.c (.i .i64 10))), some (37, true)⟩] ++ o12_7
def o12_9 : List IOp := [⟨some 36, .pu (.pick (.t 34) (.t 35) (.c (.b false))), none⟩, ⟨some 37, .pu (.mov (.t 36)), none⟩] ++ o12_8
def o12_10 : List IOp := [⟨some 35, .pu (.mov (.t 6)), some (34, true)⟩] ++ o12_9
def o12_11 : List IOp := [⟨some 33, .pu (.pick (.t 30) (.t 32) (.c (.b false))), none⟩, ⟨some 34, .pu (.mov (.t 33)), none⟩] ++ o12_10
def o12_12 : List IOp := [⟨some 31, .pu (.mov (.t 4)), some (30, true)⟩, ⟨some 32, .pu (.un .not (.t 31)), some (30, true)⟩] ++ o12_11
def o12_13 : List IOp := [⟨some 29, .pu (.mov (.t 2)), none⟩, ⟨some 30, .pu (.mov (.t 29)), none⟩] ++ o12_12
def c12 : IC := (.seq (.region [⟨some 0, .pu (.mov (.c (.b false))), none⟩]) (.seq (.region [⟨some 8, .ef (.call 7 [(.c (.i .i64 2))]), none⟩, ⟨some 9, .pu (.bld [(.i .i64 0), (.i .i64 0), (.i .i64 0), (.i .i64 0), (.i .i64 0)] [(0, 1, (.c (.i .i64 5))), (1, 1, (.c (.i .i64 1))), (2, 1, (.c (.i .i64 2))), (3, 1, (.c (.i .i64 3))), (4, 1, (.c (.i .i64 1)))]), none⟩, ⟨some 10, .ef (.call 9 [(.t 8), (.t 9)]), none⟩, ⟨some 7, .pu (.mov (.t 10)), none⟩, ⟨some 11, .pu (.ext (.t 7) 0), none⟩, ⟨some 12, .pu (.ext (.t 7) 1), none⟩, ⟨some 1, .al (.zero [(.p none), (.p none), (.i .i64 0), (.i .i64 0), (.i .i64 0), (.i .i64 0), (.i .i64 0), (.i .i64 0), (.i .i64 0), (.i .u64 0), (.i .u64 0), (.b false)]), none⟩, ⟨none, .ef (.store 12 (.t 1) (.t 11)), none⟩, ⟨some 2, .pu (.mov (.t 12)), none⟩]) (.seq (.region [⟨some 13, .ld true 12 (.t 1), none⟩, ⟨some 14, .ef (.call 10 [(.t 13), (.c (.i .i64 30)), (.c (.i .i64 4))]), none⟩, ⟨none, .ef (.store 12 (.t 1) (.t 14)), none⟩]) (.seq (.region [⟨some 16, .ld true 12 (.t 1), none⟩, ⟨some 17, .ef (.call 11 [(.t 16), (.c (.i .i64 1))]), none⟩, ⟨some 15, .pu (.mov (.t 17)), none⟩, ⟨some 18, .pu (.ext (.t 15) 0), none⟩, ⟨some 19, .pu (.ext (.t 15) 1), none⟩, ⟨some 20, .pu (.ext (.t 15) 2), none⟩, ⟨some 3, .al (.zero [(.i .i64 0), (.i .i64 0), (.i .i64 0), (.i .i64 0), (.i .i64 0), (.i .u32 0), (.i .i64 0), (.b false), (.b false), (.i .i64 0), (.i .u32 0)]), none⟩, ⟨none, .ef (.store 12 (.t 1) (.t 18)), none⟩, ⟨none, .ef (.store 11 (.t 3) (.t 19)), none⟩, ⟨some 4, .pu (.mov (.t 20)), none⟩]) (.seq (.region [⟨some 21, .ld true 12 (.t 1), none⟩, ⟨some 22, .ef (.call 10 [(.t 21), (.c (.i .i64 30)), (.c (.i .i64 5))]), none⟩, ⟨none, .ef (.store 12 (.t 1) (.t 22)), none⟩]) (.seq (.region [⟨some 24, .ld true 12 (.t 1), none⟩, ⟨some 25, .ef (.call 11 [(.t 24), (.c (.i .i64 1))]), none⟩, ⟨some 23, .pu (.mov (.t 25)), none⟩, ⟨some 26, .pu (.ext (.t 23) 0), none⟩, ⟨some 27, .pu (.ext (.t 23) 1), none⟩, ⟨some 28, .pu (.ext (.t 23) 2), none⟩, ⟨some 5, .al (.zero [(.i .i64 0), (.i .i64 0), (.i .i64 0), (.i .i64 0), (.i .i64 0), (.i .u32 0), (.i .i64 0), (.b false), (.b false), (.i .i64 0), (.i .u32 0)]), none⟩, ⟨none, .ef (.store 12 (.t 1) (.t 26)), none⟩, ⟨none, .ef (.store 11 (.t 5) (.t 27)), none⟩, ⟨some 6, .pu (.mov (.t 28)), none⟩]) (.seq (.region o12_13) .ret)))))))
def ir12 : IFn := { ntmps := 58, results := rs12, body := c12 }
/-! (*cableway/clock.Clock).Len -/
def rs13 : List RV := [(.t 2)]
def c13 : IC := (.seq (.region [⟨some 2, .pu (.mov (.c (.i .i64 0))), none⟩]) (.seq (.seq (.region [⟨some 3, .pu (.mov (.t 0)), none⟩, ⟨some 4, .pu (.eqz false .p (.t 3) (.c (.p none))), none⟩]) (.cond (.t 4) (.seq (.region [⟨some 2, .pu (.mov (.c (.i .i64 0))), none⟩]) .ret) .skip)) (.seq (.region [⟨some 5, .pu (.mov (.t 0)), none⟩, ⟨some 6, .pu (.nilc (.t 5)), none⟩, ⟨some 7, .pu (.fa 3 (.t 6)), none⟩, ⟨some 8, .ld false 1 (.t 7), none⟩, ⟨some 9, .ef (.call 31 [(.t 8)]), none⟩, ⟨some 10, .pu (.mov (.t 0)), none⟩, ⟨some 11, .ef (.call 14 [(.t 10)]), none⟩, ⟨some 12, .pu (.bin .add (.t 9) (.t 11)), none⟩, ⟨some 2, .pu (.mov (.t 12)), none⟩]) .ret)))
def ir13 : IFn := { ntmps := 13, results := rs13, body := c13 }
/-! (*cableway/clock.Clock).Held -/
def rs14 : List RV := [(.t 2)]
def c14_2 : IC := (.seq (.region [⟨some 30, .pu (.mov (.t 3)), none⟩, ⟨some 2, .pu (.mov (.t 30)), none⟩]) .ret)
def c14_1 : IC := (.seq (.seq (.region [⟨some 23, .pu (.mov (.t 0)), none⟩, ⟨some 24, .pu (.nilc (.t 23)), none⟩, ⟨some 25, .pu (.fa 9 (.t 24)), none⟩, ⟨some 26, .ld false 1 (.t 25), none⟩, ⟨some 27, .pu (.bin .eql (.t 26) (.c (.i .i64 2))), none⟩]) (.cond (.t 27) (.region [⟨some 28, .pu (.mov (.t 3)), none⟩, ⟨some 29, .pu (.bin .add (.t 28) (.c (.i .i64 1))), none⟩, ⟨some 3, .pu (.mov (.t 29)), none⟩]) .skip)) c14_2)
def c14_3 : IC := (.seq (.region [⟨some 15, .pu (.bin .lss (.t 14) (.t 13)), none⟩]) (.seq (.cond (.t 15) .skip (.exit 0)) (.seq (.block 1 (.seq (.region [⟨some 16, .pu (.ia 1 (.t 12) (.t 14)), none⟩, ⟨some 17, .ld false 1 (.t 16), none⟩, ⟨some 5, .pu (.mov (.t 17)), none⟩]) (.region [⟨some 18, .pu (.mov (.t 3)), none⟩, ⟨some 19, .pu (.mov (.t 5)), none⟩, ⟨some 20, .pu (.lens (.t 19)), none⟩, ⟨some 21, .pu (.bin .add (.t 18) (.t 20)), none⟩, ⟨some 3, .pu (.mov (.t 21)), none⟩]))) (.region [⟨some 22, .pu (.bin .add (.t 14) (.c (.i .i64 1))), none⟩, ⟨some 14, .pu (.mov (.t 22)), none⟩]))))
def c14 : IC := (.seq (.region [⟨some 2, .pu (.mov (.c (.i .i64 0))), none⟩]) (.seq (.region [⟨some 3, .pu (.mov (.c (.i .i64 0))), none⟩]) (.seq (.seq (.region [⟨some 6, .pu (.mov (.t 0)), none⟩, ⟨some 7, .pu (.eqz false .p (.t 6) (.c (.p none))), none⟩]) (.cond (.t 7) (.seq (.region [⟨some 8, .pu (.mov (.t 3)), none⟩, ⟨some 2, .pu (.mov (.t 8)), none⟩]) .ret) .skip)) (.seq (.seq (.region [⟨some 9, .pu (.mov (.t 0)), none⟩, ⟨some 10, .pu (.nilc (.t 9)), none⟩, ⟨some 11, .pu (.fa 6 (.t 10)), none⟩, ⟨some 12, .ld false 1 (.t 11), none⟩, ⟨some 13, .pu (.lens (.t 12)), none⟩, ⟨some 14, .pu (.mov (.c (.i .i64 0))), none⟩]) (.block 0 (.loop c14_3))) c14_1))))
def ir14 : IFn := { ntmps := 31, results := rs14, body := c14 }
/-! cableway/arena.New -/
def rs15 : List RV := [(.t 2)]
def c15_1 : IC := (.seq (.region [⟨some 9, .pu (.mov (.t 0)), none⟩, ⟨some 10, .al (.mks 8 [(.i .u64 0)] (.t 9)), none⟩, ⟨some 11, .pu (.bld [.nsl, .nsl, (.i .i64 0)] [(0, 1, (.t 10))]), none⟩, ⟨some 12, .al (.box (.t 11)), none⟩, ⟨some 2, .pu (.mov (.t 12)), none⟩]) .ret)
def c15_2 : IC := (.cond (.t 8) (.seq (.region [⟨some 2, .pu (.mov (.c (.p none))), none⟩]) .ret) .skip)
def o15_3 : List IOp := [⟨some 8, .pu (.pick (.t 5) (.c (.b true)) (.t 7)), none⟩] ++ []
def o15_4 : List IOp := [⟨some 6, .pu (.mov (.t 0)), some (5, false)⟩, ⟨some 7, .pu (.bin .gtr (.t 6) (.c (.i .i64 16384))), some (5, false)⟩] ++ o15_3
def o15_5 : List IOp := [⟨some 3, .pu (.mov (.t 0)), none⟩, ⟨some 4, .pu (.bin .lss (.t 3) (.c (.i .i64 1))), none⟩, ⟨some 5, .pu (.mov (.t 4)), none⟩] ++ o15_4
def c15 : IC := (.seq (.region [⟨some 2, .pu (.mov (.c (.p none))), none⟩]) (.seq (.seq (.region o15_5) c15_2) c15_1))
def ir15 : IFn := { ntmps := 13, results := rs15, body := c15 }
/-! (*cableway/clock.Clock).Step -/
def rs16 : List RV := []
def c16_2 : IC := (.seq (.region [⟨some 22, .pu (.mov (.t 0)), none⟩, ⟨some 23, .pu (.nilc (.t 22)), none⟩, ⟨some 24, .pu (.fa 9 (.t 23)), none⟩, ⟨some 25, .ld false 1 (.t 24), none⟩, ⟨some 26, .pu (.bin .eql (.t 25) (.c (.i .i64 1))), none⟩]) (.cond (.t 26) (.region [⟨some 27, .pu (.mov (.t 0)), none⟩, ⟨some 28, .pu (.mov (.t 1)), none⟩, ⟨some 29, .ef (.call 34 [(.t 27), (.t 28)]), none⟩]) (.region [⟨some 30, .pu (.mov (.t 0)), none⟩, ⟨some 31, .pu (.mov (.t 1)), none⟩, ⟨some 32, .ef (.call 35 [(.t 30), (.t 31)]), none⟩])))
def c16_1 : IC := (.seq (.region [⟨some 12, .pu (.mov (.t 0)), none⟩, ⟨some 13, .pu (.mov (.t 2)), none⟩, ⟨some 14, .ef (.call 32 [(.t 12), (.t 13)]), none⟩]) (.seq (.seq (.region [⟨some 15, .pu (.mov (.t 0)), none⟩, ⟨some 16, .pu (.nilc (.t 15)), none⟩, ⟨some 17, .pu (.fa 9 (.t 16)), none⟩, ⟨some 18, .ld false 1 (.t 17), none⟩, ⟨some 19, .pu (.bin .eql (.t 18) (.c (.i .i64 0))), none⟩]) (.cond (.t 19) (.region [⟨some 20, .pu (.mov (.t 0)), none⟩, ⟨some 21, .ef (.call 33 [(.t 20)]), none⟩]) .skip)) c16_2))
def c16_3 : IC := (.cond (.t 11) .ret .skip)
def o16_4 : List IOp := [⟨some 11, .pu (.pick (.t 8) (.c (.b true)) (.t 10)), none⟩] ++ []
def o16_5 : List IOp := [⟨some 9, .pu (.mov (.t 1)), some (8, false)⟩, ⟨some 10, .pu (.eqz false .p (.t 9) (.c (.p none))), some (8, false)⟩] ++ o16_4
def o16_6 : List IOp := [⟨some 6, .pu (.mov (.t 0)), none⟩, ⟨some 7, .pu (.eqz false .p (.t 6) (.c (.p none))), none⟩, ⟨some 8, .pu (.mov (.t 7)), none⟩] ++ o16_5
def c16 : IC := (.seq (.seq (.region o16_6) c16_3) c16_1)
def ir16 : IFn := { ntmps := 33, results := rs16, body := c16 }
/-! (*cableway/arena.Arena).Touched -/
def rs17 : List RV := [(.t 2)]
def c17 : IC := (.seq (.region [⟨some 2, .pu (.mov (.c .nsl)), none⟩]) (.seq (.seq (.region [⟨some 3, .pu (.mov (.t 0)), none⟩, ⟨some 4, .pu (.eqz false .p (.t 3) (.c (.p none))), none⟩]) (.cond (.t 4) (.seq (.region [⟨some 2, .pu (.mov (.c .nsl)), none⟩]) .ret) .skip)) (.seq (.region [⟨some 5, .pu (.mov (.t 0)), none⟩, ⟨some 6, .pu (.nilc (.t 5)), none⟩, ⟨some 7, .pu (.fa 1 (.t 6)), none⟩, ⟨some 8, .ld false 1 (.t 7), none⟩, ⟨some 9, .ef (.call 36 [(.t 8)]), none⟩, ⟨some 2, .pu (.mov (.t 9)), none⟩]) .ret)))
def ir17 : IFn := { ntmps := 10, results := rs17, body := c17 }
/-! cableway/clock.New -/
def rs18 : List RV := [(.t 4)]
def c18_1 : IC := (.seq (.draw [⟨some 14, .ld true 2 (.t 2), none⟩, ⟨some 15, .pu (.mov (.t 1)), none⟩, ⟨some 16, .ef (.call 37 [(.t 15)]), none⟩, ⟨some 17, .ef (.call 38 [(.c (.i .i64 0))]), none⟩, ⟨some 18, .pu (.mov (.t 5)), none⟩, ⟨some 19, .al (.mks 8 [(.i .u64 0)] (.t 18)), none⟩, ⟨some 20, .pu (.mov (.t 5)), none⟩, ⟨some 21, .al (.mks 24 [.nsl] (.t 20)), none⟩, ⟨some 22, .pu (.bld [(.i .i64 0), (.i .i64 0), .nsl, (.p none), (.i .u64 0), .nsl, .nsl, (.i .i64 0), (.b false), (.i .i64 0), (.i .i64 0), (.i .i64 0), (.i .u64 0), (.i .u64 0), (.i .u64 0), (.i .u64 0), (.i .i64 0), (.b false), (.i .i64 0), (.i .i64 0), (.i .u64 0), (.i .u64 0), (.i .u64 0), (.i .u64 0), (.i .i64 0), (.b false), (.b false), (.i .i64 0), (.i .i64 0), (.i .i64 0), (.i .i64 0), (.i .i64 0), (.i .i64 0)] [(0, 2, (.t 14)), (2, 1, (.t 16)), (3, 1, (.t 17)), (5, 1, (.t 19)), (6, 1, (.t 21))]), none⟩, ⟨some 23, .al (.box (.t 22)), none⟩, ⟨some 4, .pu (.mov (.t 23)), none⟩] [(0, 2), (0, 3)]) .ret)
def c18_2 : IC := (.cond (.t 13) (.seq (.region [⟨some 4, .pu (.mov (.c (.p none))), none⟩]) .ret) .skip)
def o18_3 : List IOp := [⟨some 13, .pu (.pick (.t 10) (.c (.b true)) (.t 12)), none⟩] ++ []
def o18_4 : List IOp := [⟨some 11, .pu (.mov (.t 5)), some (10, false)⟩, ⟨some 12, .pu (.bin .gtr (.t 11) (.c (.i .i64 4))), some (10, false)⟩] ++ o18_3
def o18_5 : List IOp := [⟨some 8, .pu (.mov (.t 5)), none⟩, ⟨some 9, .pu (.bin .lss (.t 8) (.c (.i .i64 1))), none⟩, ⟨some 10, .pu (.mov (.t 9)), none⟩] ++ o18_4
def c18 : IC := (.seq (.region [⟨some 2, .al (.box (.t 0)), none⟩, ⟨some 4, .pu (.mov (.c (.p none))), none⟩]) (.seq (.region [⟨some 6, .pu (.mov (.t 1)), none⟩, ⟨some 7, .pu (.lens (.t 6)), none⟩, ⟨some 5, .pu (.mov (.t 7)), none⟩]) (.seq (.seq (.region o18_5) c18_2) c18_1)))
def ir18 : IFn := { ntmps := 24, results := rs18, body := c18 }
/-! cableway/ring.Init -/
def rs19 : List RV := [(.t 4)]
def c19_2 : IC := (.seq (.region [⟨some 4, .pu (.mov (.c (.i .i64 0))), none⟩]) .ret)
def c19_4 : IC := (.region [⟨some 51, .pu (.bin .add (.t 27) (.c (.i .i64 1))), none⟩, ⟨some 27, .pu (.mov (.t 51)), none⟩])
def c19_5 : IC := (.seq (.region [⟨some 39, .pu (.bin .lss (.t 38) (.c (.i .i64 3))), none⟩]) (.seq (.cond (.t 39) .skip (.exit 2)) (.seq (.block 3 (.seq (.region [⟨some 40, .pu (.mov (.t 38)), none⟩, ⟨some 6, .pu (.mov (.t 40)), none⟩]) (.region [⟨some 41, .pu (.mov (.t 0)), none⟩, ⟨some 42, .ld true 2 (.t 3), none⟩, ⟨some 43, .pu (.mov (.t 5)), none⟩, ⟨some 44, .pu (.cvi .u64 (.t 43)), none⟩, ⟨some 45, .ef (.call 43 [(.t 42), (.t 44)]), none⟩, ⟨some 46, .pu (.bin .add (.t 45) (.c (.i .i64 1))), none⟩, ⟨some 47, .pu (.mov (.t 6)), none⟩, ⟨some 48, .pu (.bin .add (.t 46) (.t 47)), none⟩, ⟨some 49, .ef (.call 42 [(.t 41), (.t 48), (.c (.i .u64 0))]), none⟩]))) (.region [⟨some 50, .pu (.bin .add (.t 38) (.c (.i .i64 1))), none⟩, ⟨some 38, .pu (.mov (.t 50)), none⟩]))))
def c19_3 : IC := (.seq (.region [⟨some 28, .pu (.bin .lss (.t 27) (.t 26)), none⟩]) (.seq (.cond (.t 28) .skip (.exit 0)) (.seq (.block 1 (.seq (.region [⟨some 29, .pu (.mov (.t 27)), none⟩, ⟨some 5, .pu (.mov (.t 29)), none⟩]) (.seq (.region [⟨some 30, .pu (.mov (.t 0)), none⟩, ⟨some 31, .ld true 2 (.t 3), none⟩, ⟨some 32, .pu (.mov (.t 5)), none⟩, ⟨some 33, .pu (.cvi .u64 (.t 32)), none⟩, ⟨some 34, .ef (.call 43 [(.t 31), (.t 33)]), none⟩, ⟨some 35, .pu (.mov (.t 5)), none⟩, ⟨some 36, .pu (.cvi .u64 (.t 35)), none⟩, ⟨some 37, .ef (.call 42 [(.t 30), (.t 34), (.t 36)]), none⟩]) (.seq (.region [⟨some 38, .pu (.mov (.c (.i .i64 0))), none⟩]) (.block 2 (.loop c19_5)))))) c19_4)))
def c19_1 : IC := (.seq (.region [⟨some 21, .pu (.mov (.t 0)), none⟩, ⟨some 22, .pu (.fa 0 (.t 3)), none⟩, ⟨some 23, .ld false 1 (.t 22), none⟩, ⟨some 24, .ef (.call 42 [(.t 21), (.t 23), (.c (.i .u64 0))]), none⟩]) (.seq (.seq (.region [⟨some 25, .pu (.fa 1 (.t 3)), none⟩, ⟨some 26, .ld false 1 (.t 25), none⟩, ⟨some 27, .pu (.mov (.c (.i .i64 0))), none⟩]) (.block 0 (.loop c19_3))) c19_2))
def c19_6 : IC := (.cond (.t 20) (.seq (.region [⟨some 4, .pu (.mov (.c (.i .i64 1))), none⟩]) .ret) .skip)
def o19_7 : List IOp := [⟨some 20, .pu (.pick (.t 10) (.c (.b true)) (.t 19)), none⟩] ++ []
def o19_8 : List IOp := [⟨some 11, .pu (.fa 0 (.t 3)), some (10, false)⟩, ⟨some 12, .ld false 1 (.t 11), some (10, false)⟩, ⟨some 13, .pu (.fa 1 (.t 3)), some (10, false)⟩, ⟨some 14, .ld false 1 (.t 13), some (10, false)⟩, ⟨some 15, .ef (.call 40 [(.t 14)]), some (10, false)⟩, ⟨some 16, .pu (.bin .add (.t 12) (.t 15)), some (10, false)⟩, ⟨some 17, .pu (.mov (.t 0)), some (10, false)⟩, ⟨some 18, .ef (.call 41 [(.t 17)]), some (10, false)⟩, ⟨some 19, .pu (.bin .gtr (.t 16) (.t 18)), some (10, false)⟩] ++ o19_7
def o19_9 : List IOp := [⟨some 7, .ld true 2 (.t 3), none⟩, ⟨some 8, .ef (.call 39 [(.t 7)]), none⟩, ⟨some 9, .pu (.un .not (.t 8)), none⟩, ⟨some 10, .pu (.mov (.t 9)), none⟩] ++ o19_8
def c19 : IC := (.seq (.region [⟨some 3, .al (.box (.t 1)), none⟩, ⟨some 4, .pu (.mov (.c (.i .i64 0))), none⟩]) (.seq (.seq (.draw o19_9 [(5, 8), (5, 11)]) c19_6) c19_1))
def ir19 : IFn := { ntmps := 52, results := rs19, body := c19 }
/-! cableway/alarm.Ask -/
def rs20 : List RV := [(.c 2 true 11), (.t 3)]
def c20 : IC := (.seq (.region [⟨some 1, .al (.box (.t 0)), none⟩, ⟨some 2, .al (.zero [(.i .i64 0), (.i .i64 0), (.i .i64 0), (.i .i64 0), (.i .i64 0), (.i .u32 0), (.i .i64 0), (.b false), (.b false), (.i .i64 0), (.i .u32 0)]), none⟩, ⟨some 3, .pu (.mov (.c (.b false))), none⟩]) (.seq (.seq (.region [⟨some 4, .ld true 5 (.t 1), none⟩, ⟨some 5, .ef (.call 44 [(.t 4)]), none⟩, ⟨some 6, .pu (.un .not (.t 5)), none⟩]) (.cond (.t 6) (.seq (.region [⟨some 7, .pu (.bld [(.i .i64 0), (.i .i64 0), (.i .i64 0), (.i .i64 0), (.i .i64 0), (.i .u32 0), (.i .i64 0), (.b false), (.b false), (.i .i64 0), (.i .u32 0)] []), none⟩, ⟨none, .ef (.store 11 (.t 2) (.t 7)), none⟩, ⟨some 3, .pu (.mov (.c (.b false))), none⟩]) .ret) .skip)) (.seq (.region [⟨some 8, .pu (.fa 1 (.t 1)), none⟩, ⟨some 9, .ld false 1 (.t 8), none⟩, ⟨some 10, .pu (.fa 2 (.t 1)), none⟩, ⟨some 11, .ld false 1 (.t 10), none⟩, ⟨some 12, .pu (.fa 3 (.t 1)), none⟩, ⟨some 13, .ld false 1 (.t 12), none⟩, ⟨some 14, .pu (.fa 4 (.t 1)), none⟩, ⟨some 15, .ld false 1 (.t 14), none⟩, ⟨some 16, .pu (.bld [(.i .i64 0), (.i .i64 0), (.i .i64 0), (.i .i64 0), (.i .i64 0), (.i .u32 0), (.i .i64 0), (.b false), (.b false), (.i .i64 0), (.i .u32 0)] [(0, 1, (.c (.i .i64 9))), (1, 1, (.t 9)), (3, 1, (.t 11)), (4, 1, (.t 13)), (6, 1, (.t 15))]), none⟩, ⟨some 17, .pu (.fa 0 (.t 1)), none⟩, ⟨some 18, .ld false 1 (.t 17), none⟩, ⟨some 19, .ef (.call 45 [(.t 16), (.t 18)]), none⟩, ⟨none, .ef (.store 11 (.t 2) (.t 19)), none⟩, ⟨some 3, .pu (.mov (.c (.b true))), none⟩]) .ret)))
def ir20 : IFn := { ntmps := 20, results := rs20, body := c20 }
/-! cableway/frame.Put -/
def rs21 : List RV := [(.c 2 true 3), (.t 3)]
def c21 : IC := (.seq (.region [⟨some 1, .al (.box (.t 0)), none⟩, ⟨some 2, .al (.zero [(.i .u64 0), (.i .u64 0), (.i .u64 0)]), none⟩, ⟨some 3, .pu (.mov (.c (.b false))), none⟩]) (.seq (.seq (.region [⟨some 5, .ld true 11 (.t 1), none⟩, ⟨some 6, .ef (.call 46 [(.t 5)]), none⟩, ⟨some 7, .pu (.un .not (.t 6)), none⟩]) (.cond (.t 7) (.seq (.region [⟨some 8, .pu (.bld [(.i .u64 0), (.i .u64 0), (.i .u64 0)] []), none⟩, ⟨none, .ef (.store 3 (.t 2) (.t 8)), none⟩, ⟨some 3, .pu (.mov (.c (.b false))), none⟩]) .ret) .skip)) (.seq (.region [⟨some 9, .ld true 2 (.g 0), none⟩, ⟨some 10, .pu (.fa 0 (.t 1)), none⟩, ⟨some 11, .ld false 1 (.t 10), none⟩, ⟨some 12, .pu (.cvi .u64 (.t 11)), none⟩, ⟨some 13, .ef (.call 47 [(.t 9), (.c (.i .u64 0)), (.t 12)]), none⟩, ⟨some 4, .pu (.mov (.t 13)), none⟩]) (.seq (.region [⟨some 14, .ld true 2 (.g 1), none⟩, ⟨some 15, .pu (.mov (.t 4)), none⟩, ⟨some 16, .pu (.fa 1 (.t 1)), none⟩, ⟨some 17, .ld false 1 (.t 16), none⟩, ⟨some 18, .pu (.cvi .u64 (.t 17)), none⟩, ⟨some 19, .ef (.call 47 [(.t 14), (.t 15), (.t 18)]), none⟩, ⟨some 4, .pu (.mov (.t 19)), none⟩]) (.seq (.region [⟨some 20, .ld true 2 (.g 2), none⟩, ⟨some 21, .pu (.mov (.t 4)), none⟩, ⟨some 22, .pu (.fa 2 (.t 1)), none⟩, ⟨some 23, .ld false 1 (.t 22), none⟩, ⟨some 24, .pu (.cvi .u64 (.t 23)), none⟩, ⟨some 25, .ef (.call 47 [(.t 20), (.t 21), (.t 24)]), none⟩, ⟨some 4, .pu (.mov (.t 25)), none⟩]) (.seq (.region [⟨some 26, .ld true 2 (.g 3), none⟩, ⟨some 27, .pu (.mov (.t 4)), none⟩, ⟨some 28, .pu (.fa 3 (.t 1)), none⟩, ⟨some 29, .ld false 1 (.t 28), none⟩, ⟨some 30, .pu (.cvi .u64 (.t 29)), none⟩, ⟨some 31, .ef (.call 47 [(.t 26), (.t 27), (.t 30)]), none⟩, ⟨some 4, .pu (.mov (.t 31)), none⟩]) (.seq (.region [⟨some 32, .ld true 2 (.g 4), none⟩, ⟨some 33, .pu (.mov (.t 4)), none⟩, ⟨some 34, .pu (.fa 6 (.t 1)), none⟩, ⟨some 35, .ld false 1 (.t 34), none⟩, ⟨some 36, .pu (.cvi .u64 (.t 35)), none⟩, ⟨some 37, .ef (.call 47 [(.t 32), (.t 33), (.t 36)]), none⟩, ⟨some 4, .pu (.mov (.t 37)), none⟩]) (.seq (.draw [⟨some 38, .ld true 2 (.g 5), none⟩, ⟨some 39, .pu (.mov (.t 4)), none⟩, ⟨some 40, .pu (.fa 7 (.t 1)), none⟩, ⟨some 41, .ld false 1 (.t 40), none⟩, ⟨some 42, .ef (.call 48 [(.t 41)]), none⟩, ⟨some 43, .ef (.call 47 [(.t 38), (.t 39), (.t 42)]), none⟩, ⟨some 4, .pu (.mov (.t 43)), none⟩] [(0, 4)]) (.seq (.draw [⟨some 44, .ld true 2 (.g 6), none⟩, ⟨some 45, .pu (.mov (.t 4)), none⟩, ⟨some 46, .pu (.fa 8 (.t 1)), none⟩, ⟨some 47, .ld false 1 (.t 46), none⟩, ⟨some 48, .ef (.call 48 [(.t 47)]), none⟩, ⟨some 49, .ef (.call 47 [(.t 44), (.t 45), (.t 48)]), none⟩, ⟨some 4, .pu (.mov (.t 49)), none⟩] [(0, 4)]) (.seq (.region [⟨some 50, .ld true 2 (.g 7), none⟩, ⟨some 51, .pu (.mov (.t 4)), none⟩, ⟨some 52, .pu (.fa 4 (.t 1)), none⟩, ⟨some 53, .ld false 1 (.t 52), none⟩, ⟨some 54, .pu (.cvi .u64 (.t 53)), none⟩, ⟨some 55, .ef (.call 47 [(.t 50), (.t 51), (.t 54)]), none⟩, ⟨some 4, .pu (.mov (.t 55)), none⟩]) (.seq (.draw [⟨some 56, .pu (.mov (.t 4)), none⟩, ⟨some 57, .ld true 2 (.g 8), none⟩, ⟨some 58, .pu (.fa 5 (.t 1)), none⟩, ⟨some 59, .ld false 1 (.t 58), none⟩, ⟨some 60, .pu (.cvi .u64 (.t 59)), none⟩, ⟨some 61, .pu (.fa 10 (.t 1)), none⟩, ⟨some 62, .ld false 1 (.t 61), none⟩, ⟨some 63, .pu (.cvi .u64 (.t 62)), none⟩, ⟨some 64, .ef (.call 47 [(.t 57), (.t 60), (.t 63)]), none⟩, ⟨some 65, .pu (.fa 9 (.t 1)), none⟩, ⟨some 66, .ld false 1 (.t 65), none⟩, ⟨some 67, .pu (.cvi .u64 (.t 66)), none⟩, ⟨some 68, .pu (.bld [(.i .u64 0), (.i .u64 0), (.i .u64 0)] [(0, 1, (.t 56)), (1, 1, (.t 64)), (2, 1, (.t 67))]), none⟩, ⟨none, .ef (.store 3 (.t 2) (.t 68)), none⟩, ⟨some 3, .pu (.mov (.c (.b true))), none⟩] [(10, 8)]) .ret)))))))))))
def ir21 : IFn := { ntmps := 69, results := rs21, body := c21 }
/-! cableway/send.New -/
def rs22 : List RV := [(.c 4 true 9)]
def c22 : IC := (.seq (.region [⟨some 2, .al (.box (.t 0)), none⟩, ⟨some 3, .al (.box (.t 1)), none⟩, ⟨some 4, .al (.zero [(.i .i64 0), (.i .i64 0), (.i .u64 0), (.i .u64 0), (.i .u64 0), (.i .u64 0), (.i .i64 0), (.b false), (.b false)]), none⟩]) (.seq (.region [⟨some 5, .ld true 2 (.t 2), none⟩, ⟨some 6, .ld true 3 (.t 3), none⟩, ⟨some 7, .pu (.bld [(.i .i64 0), (.i .i64 0), (.i .u64 0), (.i .u64 0), (.i .u64 0), (.i .u64 0), (.i .i64 0), (.b false), (.b false)] [(0, 2, (.t 5)), (2, 3, (.t 6))]), none⟩, ⟨none, .ef (.store 9 (.t 4) (.t 7)), none⟩]) .ret))
def ir22 : IFn := { ntmps := 8, results := rs22, body := c22 }
/-! (cableway/send.Task).Step -/
def rs23 : List RV := [(.c 4 true 9)]
def c23_1 : IC := (.seq (.region [⟨some 89, .ld true 9 (.t 2), none⟩, ⟨none, .ef (.store 9 (.t 4) (.t 89)), none⟩]) .ret)
def c23 : IC := (.seq (.region [⟨some 2, .al (.box (.t 0)), none⟩, ⟨some 4, .al (.zero [(.i .i64 0), (.i .i64 0), (.i .u64 0), (.i .u64 0), (.i .u64 0), (.i .u64 0), (.i .i64 0), (.b false), (.b false)]), none⟩]) (.seq (.seq (.region [⟨some 9, .ld true 9 (.t 2), none⟩, ⟨some 10, .ef (.call 24 [(.t 9)]), none⟩, ⟨some 8, .pu (.mov (.t 10)), none⟩, ⟨some 11, .pu (.ext (.t 8) 0), none⟩, ⟨some 12, .pu (.ext (.t 8) 1), none⟩, ⟨some 5, .pu (.mov (.t 11)), none⟩, ⟨some 6, .pu (.mov (.t 12)), none⟩]) (.seq (.region [⟨some 13, .pu (.mov (.t 6)), none⟩]) (.cond (.t 13) (.seq (.region [⟨some 14, .ld true 9 (.t 2), none⟩, ⟨none, .ef (.store 9 (.t 4) (.t 14)), none⟩]) .ret) .skip))) (.seq (.seq (.region [⟨some 15, .pu (.fa 0 (.t 2)), none⟩, ⟨some 16, .ld true 2 (.t 15), none⟩, ⟨some 17, .ef (.call 39 [(.t 16)]), none⟩, ⟨some 18, .pu (.un .not (.t 17)), none⟩]) (.cond (.t 18) (.seq (.region [⟨some 19, .pu (.fa 8 (.t 2)), none⟩, ⟨none, .ef (.store 1 (.t 19) (.c (.b true))), none⟩]) (.seq (.region [⟨some 20, .ld true 9 (.t 2), none⟩, ⟨none, .ef (.store 9 (.t 4) (.t 20)), none⟩]) .ret)) .skip)) (.seq (.seq (.region [⟨some 21, .pu (.fa 6 (.t 2)), none⟩, ⟨some 22, .ld false 1 (.t 21), none⟩]) (.block 0 (.seq (.region [⟨some 43, .pu (.bin .eql (.t 22) (.c (.i .i64 0))), none⟩, ⟨some 42, .pu (.mov (.t 43)), none⟩]) (.cond (.t 42) (.region [⟨some 44, .pu (.mov (.t 1)), none⟩, ⟨some 45, .pu (.fa 0 (.t 2)), none⟩, ⟨some 46, .ld true 2 (.t 45), none⟩, ⟨some 47, .ef (.call 50 [(.t 46)]), none⟩, ⟨some 48, .ef (.call 49 [(.t 44), (.t 47)]), none⟩, ⟨some 49, .pu (.fa 5 (.t 2)), none⟩, ⟨none, .ef (.store 1 (.t 49) (.t 48)), none⟩, ⟨some 50, .pu (.fa 6 (.t 2)), none⟩, ⟨none, .ef (.store 1 (.t 50) (.c (.i .i64 1))), none⟩]) (.seq (.region [⟨some 52, .pu (.bin .eql (.t 22) (.c (.i .i64 1))), none⟩, ⟨some 51, .pu (.mov (.t 52)), none⟩]) (.cond (.t 51) (.draw [⟨some 53, .ld true 9 (.t 2), none⟩, ⟨some 54, .pu (.mov (.t 1)), none⟩, ⟨some 55, .pu (.fa 0 (.t 2)), none⟩, ⟨some 56, .ld true 2 (.t 55), none⟩, ⟨some 57, .pu (.fa 5 (.t 2)), none⟩, ⟨some 58, .ld false 1 (.t 57), none⟩, ⟨some 59, .ef (.call 52 [(.t 56), (.t 58)]), none⟩, ⟨some 60, .ef (.call 49 [(.t 54), (.t 59)]), none⟩, ⟨some 61, .ef (.call 51 [(.t 53), (.t 60)]), none⟩, ⟨none, .ef (.store 9 (.t 2) (.t 61)), none⟩] [(0, 6), (0, 7)]) (.seq (.region [⟨some 63, .pu (.bin .eql (.t 22) (.c (.i .i64 2))), none⟩, ⟨some 62, .pu (.mov (.t 63)), none⟩]) (.cond (.t 62) (.seq (.region [⟨some 64, .pu (.fa 6 (.t 2)), none⟩, ⟨none, .ef (.store 1 (.t 64) (.c (.i .i64 0))), none⟩]) (.seq (.draw [⟨some 65, .pu (.mov (.t 1)), none⟩, ⟨some 66, .pu (.fa 0 (.t 2)), none⟩, ⟨some 67, .ld true 2 (.t 66), none⟩, ⟨some 68, .ef (.call 50 [(.t 67)]), none⟩, ⟨some 69, .pu (.fa 5 (.t 2)), none⟩, ⟨some 70, .ld false 1 (.t 69), none⟩, ⟨some 71, .pu (.fa 5 (.t 2)), none⟩, ⟨some 72, .ld false 1 (.t 71), none⟩, ⟨some 73, .pu (.bin .add (.t 72) (.c (.i .u64 1))), none⟩, ⟨some 74, .ef (.call 53 [(.t 65), (.t 68), (.t 70), (.t 73)]), none⟩] [(5, 3), (7, 3)]) (.cond (.t 74) (.region [⟨some 75, .pu (.fa 6 (.t 2)), none⟩, ⟨none, .ef (.store 1 (.t 75) (.c (.i .i64 3))), none⟩]) .skip))) (.seq (.region [⟨some 77, .pu (.bin .eql (.t 22) (.c (.i .i64 6))), none⟩, ⟨some 76, .pu (.mov (.t 77)), none⟩]) (.cond (.t 76) (.seq (.draw [⟨some 78, .pu (.mov (.t 1)), none⟩, ⟨some 79, .pu (.fa 0 (.t 2)), none⟩, ⟨some 80, .ld true 2 (.t 79), none⟩, ⟨some 81, .pu (.fa 5 (.t 2)), none⟩, ⟨some 82, .ld false 1 (.t 81), none⟩, ⟨some 83, .ef (.call 52 [(.t 80), (.t 82)]), none⟩, ⟨some 84, .pu (.fa 5 (.t 2)), none⟩, ⟨some 85, .ld false 1 (.t 84), none⟩, ⟨some 86, .pu (.bin .add (.t 85) (.c (.i .u64 1))), none⟩, ⟨some 87, .ef (.call 42 [(.t 78), (.t 83), (.t 86)]), none⟩] [(7, 5)]) (.region [⟨some 88, .pu (.fa 6 (.t 2)), none⟩, ⟨none, .ef (.store 1 (.t 88) (.c (.i .i64 7))), none⟩])) (.seq (.region [⟨some 23, .pu (.fa 6 (.t 2)), none⟩, ⟨some 24, .ld false 1 (.t 23), none⟩, ⟨some 25, .pu (.bin .sub (.t 24) (.c (.i .i64 3))), none⟩, ⟨some 7, .pu (.mov (.t 25)), none⟩]) (.seq (.draw [⟨some 26, .pu (.mov (.t 1)), none⟩, ⟨some 27, .pu (.fa 0 (.t 2)), none⟩, ⟨some 28, .ld true 2 (.t 27), none⟩, ⟨some 29, .pu (.fa 5 (.t 2)), none⟩, ⟨some 30, .ld false 1 (.t 29), none⟩, ⟨some 31, .pu (.mov (.t 7)), none⟩, ⟨some 32, .ef (.call 54 [(.t 28), (.t 30), (.t 31)]), none⟩, ⟨some 33, .pu (.mov (.t 7)), none⟩, ⟨some 34, .pu (.fa 2 (.t 2)), none⟩, ⟨some 35, .pu (.iaa 1 3 (.t 34) (.t 33)), none⟩, ⟨some 36, .ld false 1 (.t 35), none⟩, ⟨some 37, .ef (.call 42 [(.t 26), (.t 32), (.t 36)]), none⟩] [(10, 6)]) (.region [⟨some 38, .pu (.fa 6 (.t 2)), none⟩, ⟨some 39, .ld false 1 (.t 38), none⟩, ⟨some 40, .pu (.bin .add (.t 39) (.c (.i .i64 1))), none⟩, ⟨some 41, .pu (.fa 6 (.t 2)), none⟩, ⟨none, .ef (.store 1 (.t 41) (.t 40)), none⟩]))))))))))))) c23_1))))
def ir23 : IFn := { ntmps := 90, results := rs23, body := c23 }
/-! (cableway/send.Task).Done -/
def rs24 : List RV := [(.t 2), (.t 3)]
def c24 : IC := (.seq (.region [⟨some 1, .al (.box (.t 0)), none⟩, ⟨some 2, .pu (.mov (.c (.i .i64 0))), none⟩, ⟨some 3, .pu (.mov (.c (.b false))), none⟩]) (.seq (.block 0 (.seq (.region [⟨some 5, .pu (.fa 8 (.t 1)), none⟩, ⟨some 6, .ld false 1 (.t 5), none⟩, ⟨some 4, .pu (.mov (.t 6)), none⟩]) (.cond (.t 4) (.seq (.region [⟨some 2, .pu (.mov (.c (.i .i64 3))), none⟩, ⟨some 3, .pu (.mov (.c (.b true))), none⟩]) .ret) (.seq (.region [⟨some 8, .pu (.fa 6 (.t 1)), none⟩, ⟨some 9, .ld false 1 (.t 8), none⟩, ⟨some 10, .pu (.bin .eql (.t 9) (.c (.i .i64 7))), none⟩, ⟨some 7, .pu (.mov (.t 10)), none⟩]) (.cond (.t 7) (.seq (.region [⟨some 2, .pu (.mov (.c (.i .i64 0))), none⟩, ⟨some 3, .pu (.mov (.c (.b true))), none⟩]) .ret) .skip))))) (.seq (.region [⟨some 2, .pu (.mov (.c (.i .i64 0))), none⟩, ⟨some 3, .pu (.mov (.c (.b false))), none⟩]) .ret)))
def ir24 : IFn := { ntmps := 11, results := rs24, body := c24 }
/-! (*cableway/arena.Arena).Begin -/
def rs25 : List RV := []
def c25 : IC := (.seq (.region [⟨some 2, .pu (.mov (.t 0)), none⟩, ⟨some 3, .pu (.eqz true .p (.t 2) (.c (.p none))), none⟩]) (.cond (.t 3) (.region [⟨some 4, .pu (.mov (.t 0)), none⟩, ⟨some 5, .pu (.nilc (.t 4)), none⟩, ⟨some 6, .pu (.fa 1 (.t 5)), none⟩, ⟨none, .ef (.store 1 (.t 6) (.c .nsl)), none⟩]) .skip))
def ir25 : IFn := { ntmps := 7, results := rs25, body := c25 }
/-! cableway/fetch.New -/
def rs26 : List RV := [(.c 4 true 8)]
def c26 : IC := (.seq (.region [⟨some 2, .al (.box (.t 0)), none⟩, ⟨some 4, .al (.zero [(.i .i64 0), (.i .i64 0), (.i .u64 0), (.i .u64 0), (.i .u64 0), (.i .u64 0), (.i .i64 0), (.b false)]), none⟩]) (.seq (.region [⟨some 5, .ld true 2 (.t 2), none⟩, ⟨some 6, .pu (.mov (.t 1)), none⟩, ⟨some 7, .pu (.bld [(.i .i64 0), (.i .i64 0), (.i .u64 0), (.i .u64 0), (.i .u64 0), (.i .u64 0), (.i .i64 0), (.b false)] [(0, 2, (.t 5)), (2, 1, (.t 6))]), none⟩, ⟨none, .ef (.store 8 (.t 4) (.t 7)), none⟩]) .ret))
def ir26 : IFn := { ntmps := 8, results := rs26, body := c26 }
/-! (cableway/fetch.Task).Step -/
def rs27 : List RV := [(.c 4 true 8)]
def c27_1 : IC := (.seq (.region [⟨some 73, .ld true 8 (.t 2), none⟩, ⟨none, .ef (.store 8 (.t 4) (.t 73)), none⟩]) .ret)
def c27 : IC := (.seq (.region [⟨some 2, .al (.box (.t 0)), none⟩, ⟨some 4, .al (.zero [(.i .i64 0), (.i .i64 0), (.i .u64 0), (.i .u64 0), (.i .u64 0), (.i .u64 0), (.i .i64 0), (.b false)]), none⟩]) (.seq (.seq (.region [⟨some 9, .ld true 8 (.t 2), none⟩, ⟨some 10, .ef (.call 28 [(.t 9)]), none⟩, ⟨some 8, .pu (.mov (.t 10)), none⟩, ⟨some 11, .pu (.ext (.t 8) 0), none⟩, ⟨some 12, .pu (.ext (.t 8) 1), none⟩, ⟨some 5, .pu (.mov (.t 11)), none⟩, ⟨some 6, .pu (.mov (.t 12)), none⟩]) (.seq (.region [⟨some 13, .pu (.mov (.t 6)), none⟩]) (.cond (.t 13) (.seq (.region [⟨some 14, .ld true 8 (.t 2), none⟩, ⟨none, .ef (.store 8 (.t 4) (.t 14)), none⟩]) .ret) .skip))) (.seq (.seq (.region [⟨some 15, .pu (.fa 0 (.t 2)), none⟩, ⟨some 16, .ld true 2 (.t 15), none⟩, ⟨some 17, .ef (.call 39 [(.t 16)]), none⟩, ⟨some 18, .pu (.un .not (.t 17)), none⟩]) (.cond (.t 18) (.seq (.region [⟨some 19, .pu (.fa 7 (.t 2)), none⟩, ⟨none, .ef (.store 1 (.t 19) (.c (.b true))), none⟩]) (.seq (.region [⟨some 20, .ld true 8 (.t 2), none⟩, ⟨none, .ef (.store 8 (.t 4) (.t 20)), none⟩]) .ret)) .skip)) (.seq (.seq (.region [⟨some 21, .pu (.fa 6 (.t 2)), none⟩, ⟨some 22, .ld false 1 (.t 21), none⟩]) (.block 0 (.seq (.region [⟨some 42, .pu (.bin .eql (.t 22) (.c (.i .i64 0))), none⟩, ⟨some 41, .pu (.mov (.t 42)), none⟩]) (.cond (.t 41) (.seq (.draw [⟨some 43, .pu (.mov (.t 1)), none⟩, ⟨some 44, .pu (.fa 0 (.t 2)), none⟩, ⟨some 45, .ld true 2 (.t 44), none⟩, ⟨some 46, .pu (.fa 2 (.t 2)), none⟩, ⟨some 47, .ld false 1 (.t 46), none⟩, ⟨some 48, .ef (.call 52 [(.t 45), (.t 47)]), none⟩, ⟨some 49, .ef (.call 49 [(.t 43), (.t 48)]), none⟩, ⟨some 50, .pu (.fa 2 (.t 2)), none⟩, ⟨some 51, .ld false 1 (.t 50), none⟩, ⟨some 52, .pu (.bin .add (.t 51) (.c (.i .u64 1))), none⟩, ⟨some 53, .pu (.bin .eql (.t 49) (.t 52)), none⟩] [(8, 5), (8, 6)]) (.cond (.t 53) (.region [⟨some 54, .pu (.fa 6 (.t 2)), none⟩, ⟨none, .ef (.store 1 (.t 54) (.c (.i .i64 1))), none⟩]) (.region [⟨some 55, .pu (.fa 7 (.t 2)), none⟩, ⟨none, .ef (.store 1 (.t 55) (.c (.b true))), none⟩]))) (.seq (.region [⟨some 57, .pu (.bin .eql (.t 22) (.c (.i .i64 4))), none⟩, ⟨some 56, .pu (.mov (.t 57)), none⟩]) (.cond (.t 56) (.seq (.draw [⟨some 58, .pu (.mov (.t 1)), none⟩, ⟨some 59, .pu (.fa 0 (.t 2)), none⟩, ⟨some 60, .ld true 2 (.t 59), none⟩, ⟨some 61, .pu (.fa 2 (.t 2)), none⟩, ⟨some 62, .ld false 1 (.t 61), none⟩, ⟨some 63, .ef (.call 52 [(.t 60), (.t 62)]), none⟩, ⟨some 64, .pu (.fa 2 (.t 2)), none⟩, ⟨some 65, .ld false 1 (.t 64), none⟩, ⟨some 66, .pu (.fa 0 (.t 2)), none⟩, ⟨some 67, .pu (.fa 1 (.t 66)), none⟩, ⟨some 68, .ld false 1 (.t 67), none⟩, ⟨some 69, .pu (.cvi .u64 (.t 68)), none⟩, ⟨some 70, .pu (.bin .add (.t 65) (.t 69)), none⟩, ⟨some 71, .ef (.call 42 [(.t 58), (.t 63), (.t 70)]), none⟩] [(7, 5), (10, 5)]) (.region [⟨some 72, .pu (.fa 6 (.t 2)), none⟩, ⟨none, .ef (.store 1 (.t 72) (.c (.i .i64 5))), none⟩])) (.seq (.region [⟨some 23, .pu (.fa 6 (.t 2)), none⟩, ⟨some 24, .ld false 1 (.t 23), none⟩, ⟨some 25, .pu (.bin .sub (.t 24) (.c (.i .i64 1))), none⟩, ⟨some 7, .pu (.mov (.t 25)), none⟩]) (.seq (.region [⟨some 26, .pu (.mov (.t 7)), none⟩, ⟨some 27, .pu (.mov (.t 1)), none⟩, ⟨some 28, .pu (.fa 0 (.t 2)), none⟩, ⟨some 29, .ld true 2 (.t 28), none⟩, ⟨some 30, .pu (.fa 2 (.t 2)), none⟩, ⟨some 31, .ld false 1 (.t 30), none⟩, ⟨some 32, .pu (.mov (.t 7)), none⟩, ⟨some 33, .ef (.call 54 [(.t 29), (.t 31), (.t 32)]), none⟩, ⟨some 34, .ef (.call 49 [(.t 27), (.t 33)]), none⟩, ⟨some 35, .pu (.fa 3 (.t 2)), none⟩, ⟨some 36, .pu (.iaa 1 3 (.t 35) (.t 26)), none⟩, ⟨none, .ef (.store 1 (.t 36) (.t 34)), none⟩]) (.region [⟨some 37, .pu (.fa 6 (.t 2)), none⟩, ⟨some 38, .ld false 1 (.t 37), none⟩, ⟨some 39, .pu (.bin .add (.t 38) (.c (.i .i64 1))), none⟩, ⟨some 40, .pu (.fa 6 (.t 2)), none⟩, ⟨none, .ef (.store 1 (.t 40) (.t 39)), none⟩]))))))))) c27_1))))
def ir27 : IFn := { ntmps := 74, results := rs27, body := c27 }
/-! (cableway/fetch.Task).Done -/
def rs28 : List RV := [(.t 2), (.t 3)]
def c28 : IC := (.seq (.region [⟨some 1, .al (.box (.t 0)), none⟩, ⟨some 2, .pu (.mov (.c (.i .i64 0))), none⟩, ⟨some 3, .pu (.mov (.c (.b false))), none⟩]) (.seq (.block 0 (.seq (.region [⟨some 5, .pu (.fa 7 (.t 1)), none⟩, ⟨some 6, .ld false 1 (.t 5), none⟩, ⟨some 4, .pu (.mov (.t 6)), none⟩]) (.cond (.t 4) (.seq (.region [⟨some 2, .pu (.mov (.c (.i .i64 4))), none⟩, ⟨some 3, .pu (.mov (.c (.b true))), none⟩]) .ret) (.seq (.region [⟨some 8, .pu (.fa 6 (.t 1)), none⟩, ⟨some 9, .ld false 1 (.t 8), none⟩, ⟨some 10, .pu (.bin .eql (.t 9) (.c (.i .i64 5))), none⟩, ⟨some 7, .pu (.mov (.t 10)), none⟩]) (.cond (.t 7) (.seq (.region [⟨some 2, .pu (.mov (.c (.i .i64 0))), none⟩, ⟨some 3, .pu (.mov (.c (.b true))), none⟩]) .ret) .skip))))) (.seq (.region [⟨some 2, .pu (.mov (.c (.i .i64 0))), none⟩, ⟨some 3, .pu (.mov (.c (.b false))), none⟩]) .ret)))
def ir28 : IFn := { ntmps := 11, results := rs28, body := c28 }
/-! cableway/frame.Get -/
def rs29 : List RV := [(.c 2 true 11), (.t 3)]
def c29_1 : IC := (.seq (.region [⟨some 107, .ld true 11 (.t 5), none⟩, ⟨none, .ef (.store 11 (.t 2) (.t 107)), none⟩, ⟨some 3, .pu (.mov (.c (.i .i64 0))), none⟩]) .ret)
def c29_2 : IC := (.cond (.t 105) (.seq (.region [⟨some 106, .pu (.bld [(.i .i64 0), (.i .i64 0), (.i .i64 0), (.i .i64 0), (.i .i64 0), (.i .u32 0), (.i .i64 0), (.b false), (.b false), (.i .i64 0), (.i .u32 0)] []), none⟩, ⟨none, .ef (.store 11 (.t 2) (.t 106)), none⟩, ⟨some 3, .pu (.mov (.c (.i .i64 2))), none⟩]) .ret) .skip)
def o29_3 : List IOp := [⟨some 105, .pu (.pick (.t 101) (.c (.b true)) (.t 104)), none⟩] ++ []
def o29_4 : List IOp := [⟨some 102, .ld true 11 (.t 5), some (101, false)⟩, ⟨some 103, .ef (.call 46 [(.t 102)]), some (101, false)⟩, ⟨some 104, .pu (.un .not (.t 103)), some (101, false)⟩] ++ o29_3
def o29_5 : List IOp := [⟨some 100, .pu (.pick (.t 93) (.c (.b true)) (.t 99)), none⟩, ⟨some 101, .pu (.mov (.t 100)), none⟩] ++ o29_4
def o29_6 : List IOp := [⟨some 94, .pu (.iaa 1 3 (.t 1) (.c (.i .i64 2))), some (93, false)⟩, ⟨some 95, .ld false 1 (.t 94), some (93, false)⟩, ⟨some 96, .ld true 2 (.g 10), some (93, false)⟩, ⟨some 97, .al (.sl 1 [(.i .i64 0), (.i .i64 0)] [(0, 2, (.t 96))]), some (93, false)⟩, ⟨some 98, .ef (.call 56 [(.t 95), (.t 97)]), some (93, false)⟩, ⟨some 99, .pu (.bin .neq (.t 98) (.c (.i .u64 0))), some (93, false)⟩] ++ o29_5
def o29_7 : List IOp := [⟨some 80, .pu (.iaa 1 3 (.t 1) (.c (.i .i64 0))), none⟩, ⟨some 81, .ld false 1 (.t 80), none⟩, ⟨some 82, .ld true 2 (.g 0), none⟩, ⟨some 83, .ld true 2 (.g 1), none⟩, ⟨some 84, .ld true 2 (.g 2), none⟩, ⟨some 85, .ld true 2 (.g 3), none⟩, ⟨some 86, .ld true 2 (.g 4), none⟩, ⟨some 87, .ld true 2 (.g 5), none⟩, ⟨some 88, .ld true 2 (.g 6), none⟩, ⟨some 89, .ld true 2 (.g 7), none⟩, ⟨some 90, .al (.sl 8 [(.i .i64 0), (.i .i64 0), (.i .i64 0), (.i .i64 0), (.i .i64 0), (.i .i64 0), (.i .i64 0), (.i .i64 0), (.i .i64 0), (.i .i64 0), (.i .i64 0), (.i .i64 0), (.i .i64 0), (.i .i64 0), (.i .i64 0), (.i .i64 0)] [(0, 2, (.t 82)), (2, 2, (.t 83)), (4, 2, (.t 84)), (6, 2, (.t 85)), (8, 2, (.t 86)), (10, 2, (.t 87)), (12, 2, (.t 88)), (14, 2, (.t 89))]), none⟩, ⟨some 91, .ef (.call 56 [(.t 81), (.t 90)]), none⟩, ⟨some 92, .pu (.bin .neq (.t 91) (.c (.i .u64 0))), none⟩, ⟨some 93, .pu (.mov (.t 92)), none⟩] ++ o29_6
def c29 : IC := (.seq (.region [⟨some 1, .al (.box (.t 0)), none⟩, ⟨some 2, .al (.zero [(.i .i64 0), (.i .i64 0), (.i .i64 0), (.i .i64 0), (.i .i64 0), (.i .u32 0), (.i .i64 0), (.b false), (.b false), (.i .i64 0), (.i .u32 0)]), none⟩, ⟨some 3, .pu (.mov (.c (.i .i64 0))), none⟩]) (.seq (.region [⟨some 4, .pu (.mov (.f 55)), none⟩]) (.seq (.draw [⟨some 6, .pu (.mov (.t 4)), none⟩, ⟨some 7, .ld true 2 (.g 5), none⟩, ⟨some 8, .pu (.iaa 1 3 (.t 1) (.c (.i .i64 0))), none⟩, ⟨some 9, .ld false 1 (.t 8), none⟩, ⟨some 10, .ef (.callv (.t 6) [(.t 7), (.t 9)]), none⟩, ⟨some 11, .pu (.bin .eql (.t 10) (.c (.i .u64 1))), none⟩, ⟨some 12, .pu (.mov (.t 4)), none⟩, ⟨some 13, .ld true 2 (.g 6), none⟩, ⟨some 14, .pu (.iaa 1 3 (.t 1) (.c (.i .i64 0))), none⟩, ⟨some 15, .ld false 1 (.t 14), none⟩, ⟨some 16, .ef (.callv (.t 12) [(.t 13), (.t 15)]), none⟩, ⟨some 17, .pu (.bin .eql (.t 16) (.c (.i .u64 1))), none⟩, ⟨some 18, .pu (.mov (.t 4)), none⟩, ⟨some 19, .ld true 2 (.g 9), none⟩, ⟨some 20, .pu (.iaa 1 3 (.t 1) (.c (.i .i64 1))), none⟩, ⟨some 21, .ld false 1 (.t 20), none⟩, ⟨some 22, .ef (.callv (.t 18) [(.t 19), (.t 21)]), none⟩, ⟨some 23, .pu (.cvi .u32 (.t 22)), none⟩, ⟨some 24, .pu (.mov (.t 4)), none⟩, ⟨some 25, .ld true 2 (.g 8), none⟩, ⟨some 26, .pu (.iaa 1 3 (.t 1) (.c (.i .i64 1))), none⟩, ⟨some 27, .ld false 1 (.t 26), none⟩, ⟨some 28, .ef (.callv (.t 24) [(.t 25), (.t 27)]), none⟩, ⟨some 29, .pu (.cvi .u32 (.t 28)), none⟩, ⟨some 30, .pu (.bld [(.i .i64 0), (.i .i64 0), (.i .i64 0), (.i .i64 0), (.i .i64 0), (.i .u32 0), (.i .i64 0), (.b false), (.b false), (.i .i64 0), (.i .u32 0)] [(7, 1, (.t 11)), (8, 1, (.t 17)), (5, 1, (.t 23)), (10, 1, (.t 29))]), none⟩, ⟨some 5, .al (.zero [(.i .i64 0), (.i .i64 0), (.i .i64 0), (.i .i64 0), (.i .i64 0), (.i .u32 0), (.i .i64 0), (.b false), (.b false), (.i .i64 0), (.i .u32 0)]), none⟩, ⟨none, .ef (.store 11 (.t 5) (.t 30)), none⟩] [(7, 4), (9, 4), (13, 4), (13, 10), (15, 4), (15, 10), (19, 4), (19, 10), (19, 16), (21, 4), (21, 10), (21, 16)]) (.seq (.draw [⟨some 31, .pu (.mov (.t 4)), none⟩, ⟨some 32, .ld true 2 (.g 0), none⟩, ⟨some 33, .pu (.iaa 1 3 (.t 1) (.c (.i .i64 0))), none⟩, ⟨some 34, .ld false 1 (.t 33), none⟩, ⟨some 35, .ef (.callv (.t 31) [(.t 32), (.t 34)]), none⟩, ⟨some 36, .pu (.cvi .i64 (.t 35)), none⟩, ⟨some 37, .pu (.mov (.t 4)), none⟩, ⟨some 38, .ld true 2 (.g 1), none⟩, ⟨some 39, .pu (.iaa 1 3 (.t 1) (.c (.i .i64 0))), none⟩, ⟨some 40, .ld false 1 (.t 39), none⟩, ⟨some 41, .ef (.callv (.t 37) [(.t 38), (.t 40)]), none⟩, ⟨some 42, .pu (.cvi .i64 (.t 41)), none⟩, ⟨some 43, .pu (.mov (.t 4)), none⟩, ⟨some 44, .ld true 2 (.g 2), none⟩, ⟨some 45, .pu (.iaa 1 3 (.t 1) (.c (.i .i64 0))), none⟩, ⟨some 46, .ld false 1 (.t 45), none⟩, ⟨some 47, .ef (.callv (.t 43) [(.t 44), (.t 46)]), none⟩, ⟨some 48, .pu (.cvi .i64 (.t 47)), none⟩, ⟨some 49, .pu (.fa 0 (.t 5)), none⟩, ⟨none, .ef (.store 1 (.t 49) (.t 36)), none⟩, ⟨some 50, .pu (.fa 1 (.t 5)), none⟩, ⟨none, .ef (.store 1 (.t 50) (.t 42)), none⟩, ⟨some 51, .pu (.fa 2 (.t 5)), none⟩, ⟨none, .ef (.store 1 (.t 51) (.t 48)), none⟩] [(7, 4), (9, 4), (13, 4), (13, 10), (15, 4), (15, 10)]) (.seq (.draw [⟨some 52, .pu (.mov (.t 4)), none⟩, ⟨some 53, .ld true 2 (.g 3), none⟩, ⟨some 54, .pu (.iaa 1 3 (.t 1) (.c (.i .i64 0))), none⟩, ⟨some 55, .ld false 1 (.t 54), none⟩, ⟨some 56, .ef (.callv (.t 52) [(.t 53), (.t 55)]), none⟩, ⟨some 57, .pu (.cvi .i64 (.t 56)), none⟩, ⟨some 58, .pu (.mov (.t 4)), none⟩, ⟨some 59, .ld true 2 (.g 4), none⟩, ⟨some 60, .pu (.iaa 1 3 (.t 1) (.c (.i .i64 0))), none⟩, ⟨some 61, .ld false 1 (.t 60), none⟩, ⟨some 62, .ef (.callv (.t 58) [(.t 59), (.t 61)]), none⟩, ⟨some 63, .pu (.cvi .i64 (.t 62)), none⟩, ⟨some 64, .pu (.mov (.t 4)), none⟩, ⟨some 65, .ld true 2 (.g 7), none⟩, ⟨some 66, .pu (.iaa 1 3 (.t 1) (.c (.i .i64 0))), none⟩, ⟨some 67, .ld false 1 (.t 66), none⟩, ⟨some 68, .ef (.callv (.t 64) [(.t 65), (.t 67)]), none⟩, ⟨some 69, .pu (.cvi .i64 (.t 68)), none⟩, ⟨some 70, .pu (.fa 3 (.t 5)), none⟩, ⟨none, .ef (.store 1 (.t 70) (.t 57)), none⟩, ⟨some 71, .pu (.fa 6 (.t 5)), none⟩, ⟨none, .ef (.store 1 (.t 71) (.t 63)), none⟩, ⟨some 72, .pu (.fa 4 (.t 5)), none⟩, ⟨none, .ef (.store 1 (.t 72) (.t 69)), none⟩] [(7, 4), (9, 4), (13, 4), (13, 10), (15, 4), (15, 10)]) (.seq (.region [⟨some 73, .pu (.mov (.t 4)), none⟩, ⟨some 74, .ld true 2 (.g 10), none⟩, ⟨some 75, .pu (.iaa 1 3 (.t 1) (.c (.i .i64 2))), none⟩, ⟨some 76, .ld false 1 (.t 75), none⟩, ⟨some 77, .ef (.callv (.t 73) [(.t 74), (.t 76)]), none⟩, ⟨some 78, .pu (.cvi .i64 (.t 77)), none⟩, ⟨some 79, .pu (.fa 9 (.t 5)), none⟩, ⟨none, .ef (.store 1 (.t 79) (.t 78)), none⟩]) (.seq (.seq (.region o29_7) c29_2) c29_1)))))))
def ir29 : IFn := { ntmps := 108, results := rs29, body := c29 }
/-! (cableway/fetch.Task).Words -/
def rs30 : List RV := [(.c 2 true 3)]
def c30 : IC := (.seq (.region [⟨some 1, .al (.box (.t 0)), none⟩, ⟨some 2, .al (.zero [(.i .u64 0), (.i .u64 0), (.i .u64 0)]), none⟩]) (.seq (.seq (.region [⟨some 3, .pu (.fa 6 (.t 1)), none⟩, ⟨some 4, .ld false 1 (.t 3), none⟩, ⟨some 5, .pu (.bin .neq (.t 4) (.c (.i .i64 5))), none⟩]) (.cond (.t 5) (.seq (.region [⟨some 6, .pu (.bld [(.i .u64 0), (.i .u64 0), (.i .u64 0)] []), none⟩, ⟨none, .ef (.store 3 (.t 2) (.t 6)), none⟩]) .ret) .skip)) (.seq (.region [⟨some 7, .pu (.fa 3 (.t 1)), none⟩, ⟨some 8, .ld true 3 (.t 7), none⟩, ⟨none, .ef (.store 3 (.t 2) (.t 8)), none⟩]) .ret)))
def ir30 : IFn := { ntmps := 9, results := rs30, body := c30 }
/-! (*cableway/wheel.Wheel).Len -/
def rs31 : List RV := [(.t 2)]
def c31 : IC := (.seq (.region [⟨some 2, .pu (.mov (.c (.i .i64 0))), none⟩]) (.seq (.seq (.region [⟨some 3, .pu (.mov (.t 0)), none⟩, ⟨some 4, .pu (.eqz false .p (.t 3) (.c (.p none))), none⟩]) (.cond (.t 4) (.seq (.region [⟨some 2, .pu (.mov (.c (.i .i64 0))), none⟩]) .ret) .skip)) (.seq (.region [⟨some 5, .pu (.mov (.t 0)), none⟩, ⟨some 6, .pu (.nilc (.t 5)), none⟩, ⟨some 7, .pu (.fa 51 (.t 6)), none⟩, ⟨some 8, .ld false 1 (.t 7), none⟩, ⟨some 2, .pu (.mov (.t 8)), none⟩]) .ret)))
def ir31 : IFn := { ntmps := 9, results := rs31, body := c31 }
/-! (*cableway/clock.Clock).come -/
def rs32 : List RV := []
def c32_2 : IC := (.seq (.draw [⟨some 36, .pu (.mov (.t 0)), none⟩, ⟨some 37, .pu (.nilc (.t 36)), none⟩, ⟨some 38, .pu (.fa 6 (.t 37)), none⟩, ⟨some 39, .ld false 1 (.t 38), none⟩, ⟨some 40, .pu (.fa 1 (.t 4)), none⟩, ⟨some 41, .ld false 1 (.t 40), none⟩, ⟨some 42, .pu (.ia 1 (.t 39) (.t 41)), none⟩, ⟨some 43, .ld false 1 (.t 42), none⟩, ⟨some 44, .pu (.mkf 60 [(.t 4)]), none⟩, ⟨some 45, .ef (.call 59 [(.t 43), (.t 44)]), none⟩, ⟨some 6, .pu (.mov (.t 45)), none⟩] []) (.draw [⟨some 46, .pu (.mov (.t 0)), none⟩, ⟨some 47, .pu (.nilc (.t 46)), none⟩, ⟨some 48, .pu (.fa 6 (.t 47)), none⟩, ⟨some 49, .ld false 1 (.t 48), none⟩, ⟨some 50, .pu (.fa 1 (.t 4)), none⟩, ⟨some 51, .ld false 1 (.t 50), none⟩, ⟨some 52, .pu (.mov (.t 6)), none⟩, ⟨some 53, .ld true 5 (.t 4), none⟩, ⟨some 54, .al (.sl 1 [(.i .i64 0), (.i .i64 0), (.i .i64 0), (.i .i64 0), (.i .i64 0)] [(0, 5, (.t 53))]), none⟩, ⟨some 55, .ef (.app 5 40 (.t 52) (.t 54)), none⟩, ⟨some 56, .pu (.ia 1 (.t 49) (.t 51)), none⟩, ⟨none, .ef (.store 1 (.t 56) (.t 55)), none⟩] [(3, 9), (5, 9)]))
def c32_3 : IC := (.cond (.t 35) (.exit 1) .skip)
def o32_4 : List IOp := [⟨some 35, .pu (.pick (.t 26) (.c (.b true)) (.t 34)), none⟩] ++ []
def o32_5 : List IOp := [⟨some 27, .pu (.fa 1 (.t 4)), some (26, false)⟩, ⟨some 28, .ld false 1 (.t 27), some (26, false)⟩, ⟨some 29, .pu (.mov (.t 0)), some (26, false)⟩, ⟨some 30, .pu (.nilc (.t 29)), some (26, false)⟩, ⟨some 31, .pu (.fa 6 (.t 30)), some (26, false)⟩, ⟨some 32, .ld false 1 (.t 31), some (26, false)⟩, ⟨some 33, .pu (.lens (.t 32)), some (26, false)⟩, ⟨some 34, .pu (.bin .geq (.t 28) (.t 33)), some (26, false)⟩] ++ o32_4
def o32_6 : List IOp := [⟨some 23, .pu (.fa 1 (.t 4)), none⟩, ⟨some 24, .ld false 1 (.t 23), none⟩, ⟨some 25, .pu (.bin .lss (.t 24) (.c (.i .i64 0))), none⟩, ⟨some 26, .pu (.mov (.t 25)), none⟩] ++ o32_5
def c32_1 : IC := (.block 1 (.seq (.region [⟨some 14, .pu (.mov (.t 0)), none⟩, ⟨some 15, .pu (.nilc (.t 14)), none⟩, ⟨some 16, .pu (.fa 3 (.t 15)), none⟩, ⟨some 17, .ld false 1 (.t 16), none⟩, ⟨some 18, .ef (.call 58 [(.t 17)]), none⟩, ⟨some 13, .pu (.mov (.t 18)), none⟩, ⟨some 19, .pu (.ext (.t 13) 0), none⟩, ⟨some 20, .pu (.ext (.t 13) 1), none⟩, ⟨some 4, .al (.zero [(.i .i64 0), (.i .i64 0), (.i .i64 0), (.i .i64 0), (.i .i64 0)]), none⟩, ⟨none, .ef (.store 5 (.t 4) (.t 19)), none⟩, ⟨some 5, .pu (.mov (.t 20)), none⟩]) (.seq (.seq (.region [⟨some 21, .pu (.mov (.t 5)), none⟩, ⟨some 22, .pu (.un .not (.t 21)), none⟩]) (.cond (.t 22) .ret .skip)) (.seq (.seq (.draw o32_6 []) c32_3) c32_2))))
def c32 : IC := (.seq (.region [⟨some 7, .pu (.mov (.t 0)), none⟩, ⟨some 8, .pu (.nilc (.t 7)), none⟩, ⟨some 9, .pu (.fa 3 (.t 8)), none⟩, ⟨some 10, .ld false 1 (.t 9), none⟩, ⟨some 11, .pu (.mov (.t 1)), none⟩, ⟨some 12, .ef (.call 57 [(.t 10), (.t 11)]), none⟩]) (.block 0 (.loop c32_1)))
def ir32 : IFn := { ntmps := 57, results := rs32, body := c32 }
/-! (*cableway/clock.Clock).turn -/
def rs33 : List RV := []
def c33_1 : IC := (.draw [⟨some 110, .pu (.mov (.t 0)), none⟩, ⟨some 111, .pu (.mov (.t 0)), none⟩, ⟨some 112, .pu (.mov (.t 0)), none⟩, ⟨some 113, .pu (.nilc (.t 112)), none⟩, ⟨some 114, .pu (.fa 0 (.t 113)), none⟩, ⟨some 115, .ld true 2 (.t 114), none⟩, ⟨some 116, .pu (.mov (.t 0)), none⟩, ⟨some 117, .pu (.nilc (.t 116)), none⟩, ⟨some 118, .pu (.fa 4 (.t 117)), none⟩, ⟨some 119, .ld false 1 (.t 118), none⟩, ⟨some 120, .ef (.call 26 [(.t 115), (.t 119)]), none⟩, ⟨some 121, .pu (.nilc (.t 110)), none⟩, ⟨some 122, .pu (.fa 9 (.t 121)), none⟩, ⟨none, .ef (.store 1 (.t 122) (.c (.i .i64 1))), none⟩, ⟨some 123, .pu (.nilc (.t 111)), none⟩, ⟨some 124, .pu (.fa 10 (.t 123)), none⟩, ⟨none, .ef (.store 8 (.t 124) (.t 120)), none⟩] [])
def c33_2 : IC := (.seq (.region [⟨some 22, .pu (.bin .lss (.t 21) (.t 20)), none⟩]) (.seq (.cond (.t 22) .skip (.exit 0)) (.seq (.block 1 (.seq (.region [⟨some 23, .pu (.mov (.t 0)), none⟩, ⟨some 24, .pu (.nilc (.t 23)), none⟩, ⟨some 25, .pu (.fa 7 (.t 24)), none⟩, ⟨some 26, .ld false 1 (.t 25), none⟩, ⟨some 3, .pu (.mov (.t 26)), none⟩]) (.seq (.region [⟨some 27, .pu (.mov (.t 0)), none⟩, ⟨some 28, .pu (.mov (.t 3)), none⟩, ⟨some 29, .pu (.bin .add (.t 28) (.c (.i .i64 1))), none⟩, ⟨some 30, .pu (.mov (.t 0)), none⟩, ⟨some 31, .pu (.nilc (.t 30)), none⟩, ⟨some 32, .pu (.fa 6 (.t 31)), none⟩, ⟨some 33, .ld false 1 (.t 32), none⟩, ⟨some 34, .pu (.lens (.t 33)), none⟩, ⟨some 35, .pu (.bin .rem (.t 29) (.t 34)), none⟩, ⟨some 36, .pu (.nilc (.t 27)), none⟩, ⟨some 37, .pu (.fa 7 (.t 36)), none⟩, ⟨none, .ef (.store 1 (.t 37) (.t 35)), none⟩]) (.seq (.region [⟨some 38, .pu (.mov (.t 0)), none⟩, ⟨some 39, .pu (.nilc (.t 38)), none⟩, ⟨some 40, .pu (.fa 6 (.t 39)), none⟩, ⟨some 41, .ld false 1 (.t 40), none⟩, ⟨some 42, .pu (.mov (.t 3)), none⟩, ⟨some 43, .pu (.ia 1 (.t 41) (.t 42)), none⟩, ⟨some 44, .ld false 1 (.t 43), none⟩, ⟨some 45, .pu (.lens (.t 44)), none⟩, ⟨some 46, .pu (.bin .gtr (.t 45) (.c (.i .i64 0))), none⟩]) (.cond (.t 46) (.seq (.draw [⟨some 47, .pu (.mov (.t 0)), none⟩, ⟨some 48, .pu (.mov (.t 0)), none⟩, ⟨some 49, .pu (.nilc (.t 48)), none⟩, ⟨some 50, .pu (.fa 6 (.t 49)), none⟩, ⟨some 51, .ld false 1 (.t 50), none⟩, ⟨some 52, .pu (.mov (.t 3)), none⟩, ⟨some 53, .pu (.mov (.t 0)), none⟩, ⟨some 54, .pu (.nilc (.t 53)), none⟩, ⟨some 55, .pu (.fa 6 (.t 54)), none⟩, ⟨some 56, .ld false 1 (.t 55), none⟩, ⟨some 57, .pu (.mov (.t 3)), none⟩, ⟨some 58, .pu (.ia 1 (.t 56) (.t 57)), none⟩, ⟨some 59, .ld false 1 (.t 58), none⟩, ⟨some 60, .pu (.ia 5 (.t 59) (.c (.i .i64 0))), none⟩, ⟨some 61, .ld true 5 (.t 60), none⟩, ⟨some 62, .pu (.mov (.t 0)), none⟩, ⟨some 63, .pu (.nilc (.t 62)), none⟩, ⟨some 64, .pu (.fa 6 (.t 63)), none⟩, ⟨some 65, .ld false 1 (.t 64), none⟩, ⟨some 66, .pu (.mov (.t 3)), none⟩, ⟨some 67, .pu (.ia 1 (.t 65) (.t 66)), none⟩, ⟨some 68, .ld false 1 (.t 67), none⟩, ⟨some 69, .pu (.sls 5 (.t 68) (some (.c (.i .i64 1))) none none), none⟩, ⟨some 70, .ef (.call 61 [(.t 69)]), none⟩, ⟨some 71, .pu (.nilc (.t 47)), none⟩, ⟨some 72, .pu (.fa 28 (.t 71)), none⟩, ⟨none, .ef (.store 5 (.t 72) (.t 61)), none⟩, ⟨some 73, .pu (.ia 1 (.t 51) (.t 52)), none⟩, ⟨none, .ef (.store 1 (.t 73) (.t 70)), none⟩] [(4, 23), (9, 23), (12, 23), (14, 23)]) (.seq (.region [⟨some 75, .pu (.mov (.t 0)), none⟩, ⟨some 76, .pu (.nilc (.t 75)), none⟩, ⟨some 77, .pu (.fa 28 (.t 76)), none⟩, ⟨some 78, .ld true 5 (.t 77), none⟩, ⟨some 79, .ef (.call 62 [(.t 78)]), none⟩, ⟨some 80, .ef (.call 21 [(.t 79)]), none⟩, ⟨some 74, .pu (.mov (.t 80)), none⟩, ⟨some 81, .pu (.ext (.t 74) 0), none⟩, ⟨some 82, .pu (.ext (.t 74) 1), none⟩, ⟨some 4, .al (.zero [(.i .u64 0), (.i .u64 0), (.i .u64 0)]), none⟩, ⟨none, .ef (.store 3 (.t 4) (.t 81)), none⟩, ⟨some 5, .pu (.mov (.t 82)), none⟩]) (.seq (.region [⟨some 83, .pu (.mov (.t 0)), none⟩, ⟨some 84, .pu (.mov (.t 0)), none⟩, ⟨some 85, .pu (.mov (.t 3)), none⟩, ⟨some 86, .pu (.nilc (.t 83)), none⟩, ⟨some 87, .pu (.fa 27 (.t 86)), none⟩, ⟨none, .ef (.store 1 (.t 87) (.t 85)), none⟩, ⟨some 88, .pu (.nilc (.t 84)), none⟩, ⟨some 89, .pu (.fa 9 (.t 88)), none⟩, ⟨none, .ef (.store 1 (.t 89) (.c (.i .i64 2))), none⟩]) (.seq (.draw [⟨some 90, .pu (.mov (.t 0)), none⟩, ⟨some 91, .pu (.mov (.t 0)), none⟩, ⟨some 92, .pu (.nilc (.t 91)), none⟩, ⟨some 93, .pu (.fa 2 (.t 92)), none⟩, ⟨some 94, .ld false 1 (.t 93), none⟩, ⟨some 95, .pu (.mov (.t 3)), none⟩, ⟨some 96, .pu (.ia 2 (.t 94) (.t 95)), none⟩, ⟨some 97, .ld true 2 (.t 96), none⟩, ⟨some 98, .ld true 3 (.t 4), none⟩, ⟨some 99, .pu (.mov (.t 0)), none⟩, ⟨some 100, .pu (.nilc (.t 99)), none⟩, ⟨some 101, .pu (.fa 5 (.t 100)), none⟩, ⟨some 102, .ld false 1 (.t 101), none⟩, ⟨some 103, .pu (.mov (.t 3)), none⟩, ⟨some 104, .pu (.ia 1 (.t 102) (.t 103)), none⟩, ⟨some 105, .ld false 1 (.t 104), none⟩, ⟨some 106, .ef (.call 63 [(.t 97), (.t 98), (.t 105)]), none⟩, ⟨some 107, .pu (.nilc (.t 90)), none⟩, ⟨some 108, .pu (.fa 18 (.t 107)), none⟩, ⟨none, .ef (.store 9 (.t 108) (.t 106)), none⟩] []) .ret)))) .skip))))) (.region [⟨some 109, .pu (.bin .add (.t 21) (.c (.i .i64 1))), none⟩, ⟨some 21, .pu (.mov (.t 109)), none⟩]))))
def c33 : IC := (.seq (.region [⟨some 6, .pu (.mov (.t 0)), none⟩, ⟨some 7, .pu (.nilc (.t 6)), none⟩, ⟨some 8, .pu (.fa 8 (.t 7)), none⟩, ⟨some 9, .ld false 1 (.t 8), none⟩, ⟨some 2, .pu (.mov (.t 9)), none⟩]) (.seq (.region [⟨some 10, .pu (.mov (.t 0)), none⟩, ⟨some 11, .pu (.mov (.t 2)), none⟩, ⟨some 12, .pu (.un .not (.t 11)), none⟩, ⟨some 13, .pu (.nilc (.t 10)), none⟩, ⟨some 14, .pu (.fa 8 (.t 13)), none⟩, ⟨none, .ef (.store 1 (.t 14) (.t 12)), none⟩]) (.seq (.seq (.region [⟨some 15, .pu (.mov (.t 2)), none⟩]) (.cond (.t 15) (.seq (.region [⟨some 16, .pu (.mov (.t 0)), none⟩, ⟨some 17, .pu (.nilc (.t 16)), none⟩, ⟨some 18, .pu (.fa 6 (.t 17)), none⟩, ⟨some 19, .ld false 1 (.t 18), none⟩, ⟨some 20, .pu (.lens (.t 19)), none⟩, ⟨some 21, .pu (.mov (.c (.i .i64 0))), none⟩]) (.block 0 (.loop c33_2))) .skip)) c33_1)))
def ir33 : IFn := { ntmps := 125, results := rs33, body := c33 }
/-! (*cableway/clock.Clock).asked -/
def rs34 : List RV := []
def c34 : IC := (.seq (.region [⟨some 10, .pu (.mov (.t 0)), none⟩, ⟨some 11, .pu (.mov (.t 0)), none⟩, ⟨some 12, .pu (.nilc (.t 11)), none⟩, ⟨some 13, .pu (.fa 10 (.t 12)), none⟩, ⟨some 14, .ld true 8 (.t 13), none⟩, ⟨some 15, .pu (.mov (.t 1)), none⟩, ⟨some 16, .ef (.call 27 [(.t 14), (.t 15)]), none⟩, ⟨some 17, .pu (.nilc (.t 10)), none⟩, ⟨some 18, .pu (.fa 10 (.t 17)), none⟩, ⟨none, .ef (.store 8 (.t 18) (.t 16)), none⟩]) (.seq (.region [⟨some 20, .pu (.mov (.t 0)), none⟩, ⟨some 21, .pu (.nilc (.t 20)), none⟩, ⟨some 22, .pu (.fa 10 (.t 21)), none⟩, ⟨some 23, .ld true 8 (.t 22), none⟩, ⟨some 24, .ef (.call 28 [(.t 23)]), none⟩, ⟨some 19, .pu (.mov (.t 24)), none⟩, ⟨some 25, .pu (.ext (.t 19) 0), none⟩, ⟨some 26, .pu (.ext (.t 19) 1), none⟩, ⟨some 4, .pu (.mov (.t 25)), none⟩, ⟨some 5, .pu (.mov (.t 26)), none⟩]) (.seq (.seq (.region [⟨some 27, .pu (.mov (.t 5)), none⟩, ⟨some 28, .pu (.un .not (.t 27)), none⟩]) (.cond (.t 28) .ret .skip)) (.seq (.region [⟨some 29, .pu (.mov (.t 0)), none⟩, ⟨some 30, .pu (.nilc (.t 29)), none⟩, ⟨some 31, .pu (.fa 9 (.t 30)), none⟩, ⟨none, .ef (.store 1 (.t 31) (.c (.i .i64 0))), none⟩]) (.seq (.seq (.region [⟨some 32, .pu (.mov (.t 4)), none⟩, ⟨some 33, .pu (.bin .neq (.t 32) (.c (.i .i64 0))), none⟩]) (.cond (.t 33) .ret .skip)) (.seq (.region [⟨some 34, .pu (.mov (.t 0)), none⟩, ⟨some 35, .pu (.nilc (.t 34)), none⟩, ⟨some 36, .pu (.fa 4 (.t 35)), none⟩, ⟨some 37, .ld false 1 (.t 36), none⟩, ⟨some 38, .pu (.bin .add (.t 37) (.c (.i .u64 1))), none⟩, ⟨some 39, .pu (.nilc (.t 34)), none⟩, ⟨some 40, .pu (.fa 4 (.t 39)), none⟩, ⟨none, .ef (.store 1 (.t 40) (.t 38)), none⟩]) (.seq (.region [⟨some 42, .pu (.mov (.t 0)), none⟩, ⟨some 43, .pu (.nilc (.t 42)), none⟩, ⟨some 44, .pu (.fa 10 (.t 43)), none⟩, ⟨some 45, .ld true 8 (.t 44), none⟩, ⟨some 46, .ef (.call 30 [(.t 45)]), none⟩, ⟨some 47, .ef (.call 29 [(.t 46)]), none⟩, ⟨some 41, .pu (.mov (.t 47)), none⟩, ⟨some 48, .pu (.ext (.t 41) 0), none⟩, ⟨some 49, .pu (.ext (.t 41) 1), none⟩, ⟨some 6, .al (.zero [(.i .i64 0), (.i .i64 0), (.i .i64 0), (.i .i64 0), (.i .i64 0), (.i .u32 0), (.i .i64 0), (.b false), (.b false), (.i .i64 0), (.i .u32 0)]), none⟩, ⟨none, .ef (.store 11 (.t 6) (.t 48)), none⟩, ⟨some 7, .pu (.mov (.t 49)), none⟩]) (.seq (.region [⟨some 50, .pu (.mov (.t 7)), none⟩, ⟨some 51, .pu (.bin .eql (.t 50) (.c (.i .i64 0))), none⟩]) (.cond (.t 51) (.seq (.region [⟨some 53, .ld true 11 (.t 6), none⟩, ⟨some 54, .ef (.call 64 [(.t 53)]), none⟩, ⟨some 52, .pu (.mov (.t 54)), none⟩, ⟨some 55, .pu (.ext (.t 52) 0), none⟩, ⟨some 56, .pu (.ext (.t 52) 1), none⟩, ⟨some 8, .al (.zero [(.i .i64 0), (.i .i64 0), (.i .i64 0), (.i .i64 0), (.i .i64 0)]), none⟩, ⟨none, .ef (.store 5 (.t 8) (.t 55)), none⟩, ⟨some 9, .pu (.mov (.t 56)), none⟩]) (.seq (.region [⟨some 57, .pu (.mov (.t 9)), none⟩]) (.cond (.t 57) (.draw [⟨some 58, .pu (.mov (.t 0)), none⟩, ⟨some 59, .pu (.nilc (.t 58)), none⟩, ⟨some 60, .pu (.fa 3 (.t 59)), none⟩, ⟨some 61, .ld false 1 (.t 60), none⟩, ⟨some 62, .ld true 5 (.t 8), none⟩, ⟨some 63, .ef (.call 65 [(.t 61), (.t 62)]), none⟩] []) .skip))) .skip)))))))))
def ir34 : IFn := { ntmps := 64, results := rs34, body := c34 }
/-! (*cableway/clock.Clock).tell -/
def rs35 : List RV := []
def c35 : IC := (.seq (.region [⟨some 2, .al (.box (.t 0)), none⟩]) (.seq (.draw [⟨some 7, .ld false 1 (.t 2), none⟩, ⟨some 8, .ld false 1 (.t 2), none⟩, ⟨some 9, .pu (.nilc (.t 8)), none⟩, ⟨some 10, .pu (.fa 18 (.t 9)), none⟩, ⟨some 11, .ld true 9 (.t 10), none⟩, ⟨some 12, .pu (.mov (.t 1)), none⟩, ⟨some 13, .ef (.call 23 [(.t 11), (.t 12)]), none⟩, ⟨some 14, .pu (.nilc (.t 7)), none⟩, ⟨some 15, .pu (.fa 18 (.t 14)), none⟩, ⟨none, .ef (.store 9 (.t 15) (.t 13)), none⟩] [(0, 6)]) (.seq (.region [⟨some 17, .ld false 1 (.t 2), none⟩, ⟨some 18, .pu (.nilc (.t 17)), none⟩, ⟨some 19, .pu (.fa 18 (.t 18)), none⟩, ⟨some 20, .ld true 9 (.t 19), none⟩, ⟨some 21, .ef (.call 24 [(.t 20)]), none⟩, ⟨some 16, .pu (.mov (.t 21)), none⟩, ⟨some 22, .pu (.ext (.t 16) 0), none⟩, ⟨some 23, .pu (.ext (.t 16) 1), none⟩, ⟨some 4, .pu (.mov (.t 22)), none⟩, ⟨some 5, .pu (.mov (.t 23)), none⟩]) (.seq (.seq (.region [⟨some 24, .pu (.mov (.t 5)), none⟩, ⟨some 25, .pu (.un .not (.t 24)), none⟩]) (.cond (.t 25) .ret .skip)) (.seq (.region [⟨some 26, .ld false 1 (.t 2), none⟩, ⟨some 27, .pu (.nilc (.t 26)), none⟩, ⟨some 28, .pu (.fa 9 (.t 27)), none⟩, ⟨none, .ef (.store 1 (.t 28) (.c (.i .i64 0))), none⟩]) (.seq (.seq (.region [⟨some 29, .pu (.mov (.t 4)), none⟩, ⟨some 30, .pu (.bin .eql (.t 29) (.c (.i .i64 0))), none⟩]) (.cond (.t 30) (.seq (.draw [⟨some 31, .ld false 1 (.t 2), none⟩, ⟨some 32, .pu (.nilc (.t 31)), none⟩, ⟨some 33, .pu (.fa 5 (.t 32)), none⟩, ⟨some 34, .ld false 1 (.t 33), none⟩, ⟨some 35, .ld false 1 (.t 2), none⟩, ⟨some 36, .pu (.nilc (.t 35)), none⟩, ⟨some 37, .pu (.fa 27 (.t 36)), none⟩, ⟨some 38, .ld false 1 (.t 37), none⟩, ⟨some 39, .pu (.ia 1 (.t 34) (.t 38)), none⟩, ⟨some 40, .ld false 1 (.t 39), none⟩, ⟨some 41, .pu (.bin .add (.t 40) (.c (.i .u64 1))), none⟩, ⟨some 42, .pu (.ia 1 (.t 34) (.t 38)), none⟩, ⟨none, .ef (.store 1 (.t 42) (.t 41)), none⟩] []) .ret) .skip)) (.seq (.region [⟨some 43, .pu (.mkf 66 [(.t 2)]), none⟩, ⟨some 6, .pu (.mov (.t 43)), none⟩]) (.seq (.draw [⟨some 44, .ld false 1 (.t 2), none⟩, ⟨some 45, .pu (.nilc (.t 44)), none⟩, ⟨some 46, .pu (.fa 6 (.t 45)), none⟩, ⟨some 47, .ld false 1 (.t 46), none⟩, ⟨some 48, .ld false 1 (.t 2), none⟩, ⟨some 49, .pu (.nilc (.t 48)), none⟩, ⟨some 50, .pu (.fa 27 (.t 49)), none⟩, ⟨some 51, .ld false 1 (.t 50), none⟩, ⟨some 52, .pu (.ia 1 (.t 47) (.t 51)), none⟩, ⟨some 53, .ld false 1 (.t 52), none⟩, ⟨some 54, .pu (.mov (.t 6)), none⟩, ⟨some 55, .ef (.call 67 [(.t 53), (.t 54)]), none⟩, ⟨some 56, .pu (.un .not (.t 55)), none⟩] []) (.cond (.t 56) (.draw [⟨some 57, .ld false 1 (.t 2), none⟩, ⟨some 58, .pu (.nilc (.t 57)), none⟩, ⟨some 59, .pu (.fa 6 (.t 58)), none⟩, ⟨some 60, .ld false 1 (.t 59), none⟩, ⟨some 61, .ld false 1 (.t 2), none⟩, ⟨some 62, .pu (.nilc (.t 61)), none⟩, ⟨some 63, .pu (.fa 27 (.t 62)), none⟩, ⟨some 64, .ld false 1 (.t 63), none⟩, ⟨some 65, .ld false 1 (.t 2), none⟩, ⟨some 66, .pu (.nilc (.t 65)), none⟩, ⟨some 67, .pu (.fa 6 (.t 66)), none⟩, ⟨some 68, .ld false 1 (.t 67), none⟩, ⟨some 69, .ld false 1 (.t 2), none⟩, ⟨some 70, .pu (.nilc (.t 69)), none⟩, ⟨some 71, .pu (.fa 27 (.t 70)), none⟩, ⟨some 72, .ld false 1 (.t 71), none⟩, ⟨some 73, .pu (.ia 1 (.t 68) (.t 72)), none⟩, ⟨some 74, .ld false 1 (.t 73), none⟩, ⟨some 75, .ld false 1 (.t 2), none⟩, ⟨some 76, .pu (.nilc (.t 75)), none⟩, ⟨some 77, .pu (.fa 28 (.t 76)), none⟩, ⟨some 78, .ld true 5 (.t 77), none⟩, ⟨some 79, .al (.sl 1 [(.i .i64 0), (.i .i64 0), (.i .i64 0), (.i .i64 0), (.i .i64 0)] [(0, 5, (.t 78))]), none⟩, ⟨some 80, .ef (.call 68 [(.t 74), (.c (.i .i64 0)), (.t 79)]), none⟩, ⟨some 81, .pu (.ia 1 (.t 60) (.t 64)), none⟩, ⟨none, .ef (.store 1 (.t 81) (.t 80)), none⟩] [(0, 23), (3, 23), (4, 23), (7, 23)]) .skip)))))))))
def ir35 : IFn := { ntmps := 82, results := rs35, body := c35 }
/-! slices.Clone[[]int,int] -/
def rs36 : List RV := [(.t 2)]
def c36 : IC := (.seq (.region [⟨some 2, .pu (.mov (.c .nsl)), none⟩]) (.seq (.seq (.region [⟨some 3, .pu (.mov (.t 0)), none⟩, ⟨some 4, .pu (.eqz false .s (.t 3) (.c .nsl)), none⟩]) (.cond (.t 4) (.seq (.region [⟨some 2, .pu (.mov (.c .nsl)), none⟩]) .ret) .skip)) (.seq (.region [⟨some 5, .al (.sl 0 [] []), none⟩, ⟨some 6, .pu (.mov (.t 0)), none⟩, ⟨some 7, .ef (.app 1 8 (.t 5) (.t 6)), none⟩, ⟨some 2, .pu (.mov (.t 7)), none⟩]) .ret)))
def ir36 : IFn := { ntmps := 8, results := rs36, body := c36 }
/-! slices.Clone[[]cableway/api.Ring,cableway/api.Ring] -/
def rs37 : List RV := [(.t 2)]
def c37 : IC := (.seq (.region [⟨some 2, .pu (.mov (.c .nsl)), none⟩]) (.seq (.seq (.region [⟨some 3, .pu (.mov (.t 0)), none⟩, ⟨some 4, .pu (.eqz false .s (.t 3) (.c .nsl)), none⟩]) (.cond (.t 4) (.seq (.region [⟨some 2, .pu (.mov (.c .nsl)), none⟩]) .ret) .skip)) (.seq (.region [⟨some 5, .al (.sl 0 [] []), none⟩, ⟨some 6, .pu (.mov (.t 0)), none⟩, ⟨some 7, .ef (.app 2 16 (.t 5) (.t 6)), none⟩, ⟨some 2, .pu (.mov (.t 7)), none⟩]) .ret)))
def ir37 : IFn := { ntmps := 8, results := rs37, body := c37 }
/-! cableway/wheel.New -/
def rs38 : List RV := [(.t 2)]
def c38 : IC := (.seq (.region [⟨some 2, .pu (.mov (.c (.p none))), none⟩]) (.seq (.region [⟨some 3, .pu (.mov (.t 0)), none⟩, ⟨some 4, .ef (.call 69 [(.t 3)]), none⟩, ⟨some 5, .pu (.bld [(.i .i64 0), .nsl, .nsl, .nsl, .nsl, .nsl, .nsl, .nsl, .nsl, .nsl, .nsl, .nsl, .nsl, .nsl, .nsl, .nsl, .nsl, .nsl, .nsl, .nsl, .nsl, .nsl, .nsl, .nsl, .nsl, .nsl, .nsl, .nsl, .nsl, .nsl, .nsl, .nsl, .nsl, .nsl, .nsl, .nsl, .nsl, .nsl, .nsl, .nsl, .nsl, .nsl, .nsl, .nsl, .nsl, .nsl, .nsl, .nsl, .nsl, .nsl, .nsl, (.i .i64 0), (.i .i64 0)] [(0, 1, (.t 4))]), none⟩, ⟨some 6, .al (.box (.t 5)), none⟩, ⟨some 2, .pu (.mov (.t 6)), none⟩]) .ret))
def ir38 : IFn := { ntmps := 7, results := rs38, body := c38 }
/-! cableway/ring.May -/
def rs39 : List RV := [(.t 2)]
def o39_1 : List IOp := [⟨some 31, .pu (.pick (.t 24) (.t 30) (.c (.b false))), none⟩, ⟨some 2, .pu (.mov (.t 31)), none⟩] ++ []
def o39_2 : List IOp := [⟨some 25, .pu (.fa 0 (.t 1)), some (24, true)⟩, ⟨some 26, .ld false 1 (.t 25), some (24, true)⟩, ⟨some 27, .pu (.mov (.t 3)), some (24, true)⟩, ⟨some 28, .ef (.call 40 [(.t 27)]), some (24, true)⟩, ⟨some 29, .pu (.bin .sub (.c (.i .i64 16384)) (.t 28)), some (24, true)⟩, ⟨some 30, .pu (.bin .leq (.t 26) (.t 29)), some (24, true)⟩] ++ o39_1
def o39_3 : List IOp := [⟨some 23, .pu (.pick (.t 19) (.t 22) (.c (.b false))), none⟩, ⟨some 24, .pu (.mov (.t 23)), none⟩] ++ o39_2
def o39_4 : List IOp := [⟨some 20, .pu (.fa 0 (.t 1)), some (19, true)⟩, ⟨some 21, .ld false 1 (.t 20), some (19, true)⟩, ⟨some 22, .pu (.bin .geq (.t 21) (.c (.i .i64 0))), some (19, true)⟩] ++ o39_3
def o39_5 : List IOp := [⟨some 18, .pu (.pick (.t 12) (.t 17) (.c (.b false))), none⟩, ⟨some 19, .pu (.mov (.t 18)), none⟩] ++ o39_4
def o39_6 : List IOp := [⟨some 13, .pu (.mov (.t 3)), some (12, true)⟩, ⟨some 14, .pu (.mov (.t 3)), some (12, true)⟩, ⟨some 15, .pu (.bin .sub (.t 14) (.c (.i .i64 1))), some (12, true)⟩, ⟨some 16, .pu (.bin .and (.t 13) (.t 15)), some (12, true)⟩, ⟨some 17, .pu (.bin .eql (.t 16) (.c (.i .i64 0))), some (12, true)⟩] ++ o39_5
def o39_7 : List IOp := [⟨some 11, .pu (.pick (.t 8) (.t 10) (.c (.b false))), none⟩, ⟨some 12, .pu (.mov (.t 11)), none⟩] ++ o39_6
def o39_8 : List IOp := [⟨some 9, .pu (.mov (.t 3)), some (8, true)⟩, ⟨some 10, .pu (.bin .leq (.t 9) (.c (.i .i64 64))), some (8, true)⟩] ++ o39_7
def o39_9 : List IOp := [⟨some 6, .pu (.mov (.t 3)), none⟩, ⟨some 7, .pu (.bin .geq (.t 6) (.c (.i .i64 2))), none⟩, ⟨some 8, .pu (.mov (.t 7)), none⟩] ++ o39_8
def c39 : IC := (.seq (.region [⟨some 1, .al (.box (.t 0)), none⟩, ⟨some 2, .pu (.mov (.c (.b false))), none⟩]) (.seq (.region [⟨some 4, .pu (.fa 1 (.t 1)), none⟩, ⟨some 5, .ld false 1 (.t 4), none⟩, ⟨some 3, .pu (.mov (.t 5)), none⟩]) (.seq (.draw o39_9 [(20, 22)]) .ret)))
def ir39 : IFn := { ntmps := 32, results := rs39, body := c39 }
/-! cableway/ring.Cells -/
def rs40 : List RV := [(.t 2)]
def c40 : IC := (.seq (.region [⟨some 2, .pu (.mov (.c (.i .i64 0))), none⟩]) (.seq (.region [⟨some 3, .pu (.mov (.t 0)), none⟩, ⟨some 4, .pu (.max (.t 3) [(.c (.i .i64 0))]), none⟩, ⟨some 5, .pu (.min (.t 4) [(.c (.i .i64 64))]), none⟩, ⟨some 6, .pu (.bin .mul (.t 5) (.c (.i .i64 4))), none⟩, ⟨some 7, .pu (.bin .add (.c (.i .i64 1)) (.t 6)), none⟩, ⟨some 2, .pu (.mov (.t 7)), none⟩]) .ret))
def ir40 : IFn := { ntmps := 8, results := rs40, body := c40 }
/-! (*cableway/arena.Arena).Len -/
def rs41 : List RV := [(.t 2)]
def c41 : IC := (.seq (.region [⟨some 2, .pu (.mov (.c (.i .i64 0))), none⟩]) (.seq (.seq (.region [⟨some 3, .pu (.mov (.t 0)), none⟩, ⟨some 4, .pu (.eqz false .p (.t 3) (.c (.p none))), none⟩]) (.cond (.t 4) (.seq (.region [⟨some 2, .pu (.mov (.c (.i .i64 0))), none⟩]) .ret) .skip)) (.seq (.region [⟨some 5, .pu (.mov (.t 0)), none⟩, ⟨some 6, .pu (.nilc (.t 5)), none⟩, ⟨some 7, .pu (.fa 0 (.t 6)), none⟩, ⟨some 8, .ld false 1 (.t 7), none⟩, ⟨some 9, .pu (.lens (.t 8)), none⟩, ⟨some 2, .pu (.mov (.t 9)), none⟩]) .ret)))
def ir41 : IFn := { ntmps := 10, results := rs41, body := c41 }
/-! (*cableway/arena.Arena).Write -/
def rs42 : List RV := []
def c42 : IC := (.seq (.region [⟨some 6, .pu (.mov (.t 0)), none⟩, ⟨some 7, .pu (.mov (.t 1)), none⟩, ⟨some 8, .ef (.call 70 [(.t 6), (.t 7)]), none⟩]) (.cond (.t 8) (.region [⟨some 9, .pu (.mov (.t 0)), none⟩, ⟨some 10, .pu (.nilc (.t 9)), none⟩, ⟨some 11, .pu (.fa 0 (.t 10)), none⟩, ⟨some 12, .ld false 1 (.t 11), none⟩, ⟨some 13, .pu (.mov (.t 1)), none⟩, ⟨some 14, .pu (.mov (.t 2)), none⟩, ⟨some 15, .pu (.ia 1 (.t 12) (.t 13)), none⟩, ⟨none, .ef (.store 1 (.t 15) (.t 14)), none⟩]) .skip))
def ir42 : IFn := { ntmps := 16, results := rs42, body := c42 }
/-! cableway/ring.place -/
def rs43 : List RV := [(.t 4)]
def c43 : IC := (.seq (.region [⟨some 2, .al (.box (.t 0)), none⟩, ⟨some 4, .pu (.mov (.c (.i .i64 0))), none⟩]) (.seq (.draw [⟨some 5, .pu (.fa 0 (.t 2)), none⟩, ⟨some 6, .ld false 1 (.t 5), none⟩, ⟨some 7, .pu (.bin .add (.t 6) (.c (.i .i64 1))), none⟩, ⟨some 8, .pu (.mov (.t 1)), none⟩, ⟨some 9, .pu (.fa 1 (.t 2)), none⟩, ⟨some 10, .ld false 1 (.t 9), none⟩, ⟨some 11, .pu (.cvi .u64 (.t 10)), none⟩, ⟨some 12, .pu (.bin .rem (.t 8) (.t 11)), none⟩, ⟨some 13, .pu (.cvi .i64 (.t 12)), none⟩, ⟨some 14, .pu (.bin .mul (.t 13) (.c (.i .i64 4))), none⟩, ⟨some 15, .pu (.bin .add (.t 7) (.t 14)), none⟩, ⟨some 4, .pu (.mov (.t 15)), none⟩] []) .ret))
def ir43 : IFn := { ntmps := 16, results := rs43, body := c43 }
/-! cableway/alarm.May -/
def rs44 : List RV := [(.t 2)]
def o44_1 : List IOp := [⟨some 50, .pu (.pick (.t 46) (.t 49) (.c (.b false))), none⟩, ⟨some 2, .pu (.mov (.t 50)), none⟩] ++ []
def o44_2 : List IOp := [⟨some 47, .pu (.fa 3 (.t 1)), some (46, true)⟩, ⟨some 48, .ld false 1 (.t 47), some (46, true)⟩, ⟨some 49, .pu (.bin .leq (.t 48) (.c (.i .i64 16777215))), some (46, true)⟩] ++ o44_1
def o44_3 : List IOp := [⟨some 45, .pu (.pick (.t 41) (.t 44) (.c (.b false))), none⟩, ⟨some 46, .pu (.mov (.t 45)), none⟩] ++ o44_2
def o44_4 : List IOp := [⟨some 42, .pu (.fa 3 (.t 1)), some (41, true)⟩, ⟨some 43, .ld false 1 (.t 42), some (41, true)⟩, ⟨some 44, .pu (.bin .geq (.t 43) (.c (.i .i64 1))), some (41, true)⟩] ++ o44_3
def o44_5 : List IOp := [⟨some 40, .pu (.pick (.t 36) (.t 39) (.c (.b false))), none⟩, ⟨some 41, .pu (.mov (.t 40)), none⟩] ++ o44_4
def o44_6 : List IOp := [⟨some 37, .pu (.fa 2 (.t 1)), some (36, true)⟩, ⟨some 38, .ld false 1 (.t 37), some (36, true)⟩, ⟨some 39, .pu (.bin .lss (.t 38) (.c (.i .i64 16))), some (36, true)⟩] ++ o44_5
def o44_7 : List IOp := [⟨some 35, .pu (.pick (.t 31) (.t 34) (.c (.b false))), none⟩, ⟨some 36, .pu (.mov (.t 35)), none⟩] ++ o44_6
def o44_8 : List IOp := [⟨some 32, .pu (.fa 2 (.t 1)), some (31, true)⟩, ⟨some 33, .ld false 1 (.t 32), some (31, true)⟩, ⟨some 34, .pu (.bin .geq (.t 33) (.c (.i .i64 0))), some (31, true)⟩] ++ o44_7
def o44_9 : List IOp := [⟨some 30, .pu (.pick (.t 26) (.t 29) (.c (.b false))), none⟩, ⟨some 31, .pu (.mov (.t 30)), none⟩] ++ o44_8
def o44_10 : List IOp := [⟨some 27, .pu (.fa 1 (.t 1)), some (26, true)⟩, ⟨some 28, .ld false 1 (.t 27), some (26, true)⟩, ⟨some 29, .pu (.bin .lss (.t 28) (.c (.i .i64 4))), some (26, true)⟩] ++ o44_9
def o44_11 : List IOp := [⟨some 25, .pu (.pick (.t 21) (.t 24) (.c (.b false))), none⟩, ⟨some 26, .pu (.mov (.t 25)), none⟩] ++ o44_10
def o44_12 : List IOp := [⟨some 22, .pu (.fa 1 (.t 1)), some (21, true)⟩, ⟨some 23, .ld false 1 (.t 22), some (21, true)⟩, ⟨some 24, .pu (.bin .geq (.t 23) (.c (.i .i64 0))), some (21, true)⟩] ++ o44_11
def o44_13 : List IOp := [⟨some 20, .pu (.pick (.t 16) (.t 19) (.c (.b false))), none⟩, ⟨some 21, .pu (.mov (.t 20)), none⟩] ++ o44_12
def o44_14 : List IOp := [⟨some 17, .pu (.fa 4 (.t 1)), some (16, true)⟩, ⟨some 18, .ld false 1 (.t 17), some (16, true)⟩, ⟨some 19, .pu (.bin .leq (.t 18) (.c (.i .i64 3))), some (16, true)⟩] ++ o44_13
def o44_15 : List IOp := [⟨some 15, .pu (.pick (.t 11) (.t 14) (.c (.b false))), none⟩, ⟨some 16, .pu (.mov (.t 15)), none⟩] ++ o44_14
def o44_16 : List IOp := [⟨some 12, .pu (.fa 4 (.t 1)), some (11, true)⟩, ⟨some 13, .ld false 1 (.t 12), some (11, true)⟩, ⟨some 14, .pu (.bin .geq (.t 13) (.c (.i .i64 1))), some (11, true)⟩] ++ o44_15
def o44_17 : List IOp := [⟨some 10, .pu (.pick (.t 6) (.t 9) (.c (.b false))), none⟩, ⟨some 11, .pu (.mov (.t 10)), none⟩] ++ o44_16
def o44_18 : List IOp := [⟨some 7, .pu (.fa 0 (.t 1)), some (6, true)⟩, ⟨some 8, .ld false 1 (.t 7), some (6, true)⟩, ⟨some 9, .pu (.bin .lss (.t 8) (.c (.i .i64 1099511627776))), some (6, true)⟩] ++ o44_17
def o44_19 : List IOp := [⟨some 3, .pu (.fa 0 (.t 1)), none⟩, ⟨some 4, .ld false 1 (.t 3), none⟩, ⟨some 5, .pu (.bin .geq (.t 4) (.c (.i .i64 0))), none⟩, ⟨some 6, .pu (.mov (.t 5)), none⟩] ++ o44_18
def c44 : IC := (.seq (.region [⟨some 1, .al (.box (.t 0)), none⟩, ⟨some 2, .pu (.mov (.c (.b false))), none⟩]) (.seq (.region o44_19) .ret))
def ir44 : IFn := { ntmps := 51, results := rs44, body := c44 }
/-! cableway/frame.At -/
def rs45 : List RV := [(.c 4 true 11)]
def c45 : IC := (.seq (.region [⟨some 2, .al (.box (.t 0)), none⟩, ⟨some 4, .al (.zero [(.i .i64 0), (.i .i64 0), (.i .i64 0), (.i .i64 0), (.i .i64 0), (.i .u32 0), (.i .i64 0), (.b false), (.b false), (.i .i64 0), (.i .u32 0)]), none⟩]) (.seq (.region [⟨some 5, .pu (.mov (.t 1)), none⟩, ⟨some 6, .pu (.max (.t 5) [(.c (.i .i64 0))]), none⟩, ⟨some 7, .pu (.min (.t 6) [(.c (.i .i64 1099511627775))]), none⟩, ⟨some 1, .pu (.mov (.t 7)), none⟩]) (.seq (.region [⟨some 8, .pu (.mov (.t 1)), none⟩, ⟨some 9, .pu (.cvi .u32 (.t 8)), none⟩, ⟨some 10, .pu (.mov (.t 1)), none⟩, ⟨some 11, .pu (.bin .shr (.t 10) (.c (.i .u64 32))), none⟩, ⟨some 12, .pu (.fa 10 (.t 2)), none⟩, ⟨none, .ef (.store 1 (.t 12) (.t 9)), none⟩, ⟨some 13, .pu (.fa 9 (.t 2)), none⟩, ⟨none, .ef (.store 1 (.t 13) (.t 11)), none⟩]) (.seq (.region [⟨some 14, .ld true 11 (.t 2), none⟩, ⟨none, .ef (.store 11 (.t 4) (.t 14)), none⟩]) .ret))))
def ir45 : IFn := { ntmps := 15, results := rs45, body := c45 }
/-! cableway/frame.May -/
def rs46 : List RV := [(.t 2)]
def o46_1 : List IOp := [⟨some 40, .pu (.pick (.t 36) (.t 39) (.c (.b false))), none⟩, ⟨some 2, .pu (.mov (.t 40)), none⟩] ++ []
def o46_2 : List IOp := [⟨some 37, .pu (.fa 9 (.t 1)), some (36, true)⟩, ⟨some 38, .ld false 1 (.t 37), some (36, true)⟩, ⟨some 39, .ef (.call 71 [(.t 38), (.c (.i .i64 65535))]), some (36, true)⟩] ++ o46_1
def o46_3 : List IOp := [⟨some 35, .pu (.pick (.t 31) (.t 34) (.c (.b false))), none⟩, ⟨some 36, .pu (.mov (.t 35)), none⟩] ++ o46_2
def o46_4 : List IOp := [⟨some 32, .pu (.fa 6 (.t 1)), some (31, true)⟩, ⟨some 33, .ld false 1 (.t 32), some (31, true)⟩, ⟨some 34, .ef (.call 71 [(.t 33), (.c (.i .i64 15))]), some (31, true)⟩] ++ o46_3
def o46_5 : List IOp := [⟨some 30, .pu (.pick (.t 26) (.t 29) (.c (.b false))), none⟩, ⟨some 31, .pu (.mov (.t 30)), none⟩] ++ o46_4
def o46_6 : List IOp := [⟨some 27, .pu (.fa 4 (.t 1)), some (26, true)⟩, ⟨some 28, .ld false 1 (.t 27), some (26, true)⟩, ⟨some 29, .ef (.call 71 [(.t 28), (.c (.i .i64 16777215))]), some (26, true)⟩] ++ o46_5
def o46_7 : List IOp := [⟨some 25, .pu (.pick (.t 21) (.t 24) (.c (.b false))), none⟩, ⟨some 26, .pu (.mov (.t 25)), none⟩] ++ o46_6
def o46_8 : List IOp := [⟨some 22, .pu (.fa 3 (.t 1)), some (21, true)⟩, ⟨some 23, .ld false 1 (.t 22), some (21, true)⟩, ⟨some 24, .ef (.call 71 [(.t 23), (.c (.i .i64 15))]), some (21, true)⟩] ++ o46_7
def o46_9 : List IOp := [⟨some 20, .pu (.pick (.t 16) (.t 19) (.c (.b false))), none⟩, ⟨some 21, .pu (.mov (.t 20)), none⟩] ++ o46_8
def o46_10 : List IOp := [⟨some 17, .pu (.fa 2 (.t 1)), some (16, true)⟩, ⟨some 18, .ld false 1 (.t 17), some (16, true)⟩, ⟨some 19, .ef (.call 71 [(.t 18), (.c (.i .i64 3))]), some (16, true)⟩] ++ o46_9
def o46_11 : List IOp := [⟨some 15, .pu (.pick (.t 11) (.t 14) (.c (.b false))), none⟩, ⟨some 16, .pu (.mov (.t 15)), none⟩] ++ o46_10
def o46_12 : List IOp := [⟨some 12, .pu (.fa 1 (.t 1)), some (11, true)⟩, ⟨some 13, .ld false 1 (.t 12), some (11, true)⟩, ⟨some 14, .ef (.call 71 [(.t 13), (.c (.i .i64 3))]), some (11, true)⟩] ++ o46_11
def o46_13 : List IOp := [⟨some 10, .pu (.pick (.t 6) (.t 9) (.c (.b false))), none⟩, ⟨some 11, .pu (.mov (.t 10)), none⟩] ++ o46_12
def o46_14 : List IOp := [⟨some 7, .pu (.fa 0 (.t 1)), some (6, true)⟩, ⟨some 8, .ld false 1 (.t 7), some (6, true)⟩, ⟨some 9, .pu (.bin .leq (.t 8) (.c (.i .i64 10))), some (6, true)⟩] ++ o46_13
def o46_15 : List IOp := [⟨some 3, .pu (.fa 0 (.t 1)), none⟩, ⟨some 4, .ld false 1 (.t 3), none⟩, ⟨some 5, .pu (.bin .geq (.t 4) (.c (.i .i64 1))), none⟩, ⟨some 6, .pu (.mov (.t 5)), none⟩] ++ o46_14
def c46 : IC := (.seq (.region [⟨some 1, .al (.box (.t 0)), none⟩, ⟨some 2, .pu (.mov (.c (.b false))), none⟩]) (.seq (.region o46_15) .ret))
def ir46 : IFn := { ntmps := 41, results := rs46, body := c46 }
/-! (cableway/field.Field).Put -/
def rs47 : List RV := [(.t 6)]
def c47 : IC := (.seq (.region [⟨some 3, .al (.box (.t 0)), none⟩, ⟨some 6, .pu (.mov (.c (.i .u64 0))), none⟩]) (.seq (.seq (.region [⟨some 7, .ld true 2 (.t 3), none⟩, ⟨some 8, .ef (.call 72 [(.t 7)]), none⟩, ⟨some 9, .pu (.un .not (.t 8)), none⟩]) (.cond (.t 9) (.seq (.region [⟨some 10, .pu (.mov (.t 1)), none⟩, ⟨some 6, .pu (.mov (.t 10)), none⟩]) .ret) .skip)) (.seq (.draw [⟨some 11, .pu (.mov (.t 1)), none⟩, ⟨some 12, .ld true 2 (.t 3), none⟩, ⟨some 13, .ef (.call 73 [(.t 12)]), none⟩, ⟨some 14, .pu (.bin .andNot (.t 11) (.t 13)), none⟩, ⟨some 15, .pu (.mov (.t 2)), none⟩, ⟨some 16, .ld true 2 (.t 3), none⟩, ⟨some 17, .ef (.call 74 [(.t 16)]), none⟩, ⟨some 18, .pu (.min (.t 15) [(.t 17)]), none⟩, ⟨some 19, .pu (.fa 0 (.t 3)), none⟩, ⟨some 20, .ld false 1 (.t 19), none⟩, ⟨some 21, .pu (.bin .shl (.t 18) (.t 20)), none⟩, ⟨some 22, .pu (.bin .or (.t 14) (.t 21)), none⟩, ⟨some 6, .pu (.mov (.t 22)), none⟩] [(5, 2), (9, 2), (9, 6)]) .ret)))
def ir47 : IFn := { ntmps := 23, results := rs47, body := c47 }
/-! cableway/frame.bit -/
def rs48 : List RV := [(.t 2)]
def c48 : IC := (.seq (.region [⟨some 2, .pu (.mov (.c (.i .u64 0))), none⟩]) (.seq (.seq (.region [⟨some 3, .pu (.mov (.t 0)), none⟩]) (.cond (.t 3) (.seq (.region [⟨some 2, .pu (.mov (.c (.i .u64 1))), none⟩]) .ret) .skip)) (.seq (.region [⟨some 2, .pu (.mov (.c (.i .u64 0))), none⟩]) .ret)))
def ir48 : IFn := { ntmps := 4, results := rs48, body := c48 }
/-! (*cableway/arena.Arena).Read -/
def rs49 : List RV := [(.t 4)]
def c49 : IC := (.seq (.region [⟨some 4, .pu (.mov (.c (.i .u64 0))), none⟩]) (.seq (.seq (.region [⟨some 5, .pu (.mov (.t 0)), none⟩, ⟨some 6, .pu (.mov (.t 1)), none⟩, ⟨some 7, .ef (.call 70 [(.t 5), (.t 6)]), none⟩, ⟨some 8, .pu (.un .not (.t 7)), none⟩]) (.cond (.t 8) (.seq (.region [⟨some 4, .pu (.mov (.c (.i .u64 0))), none⟩]) .ret) .skip)) (.seq (.region [⟨some 9, .pu (.mov (.t 0)), none⟩, ⟨some 10, .pu (.nilc (.t 9)), none⟩, ⟨some 11, .pu (.fa 0 (.t 10)), none⟩, ⟨some 12, .ld false 1 (.t 11), none⟩, ⟨some 13, .pu (.mov (.t 1)), none⟩, ⟨some 14, .pu (.ia 1 (.t 12) (.t 13)), none⟩, ⟨some 15, .ld false 1 (.t 14), none⟩, ⟨some 4, .pu (.mov (.t 15)), none⟩]) .ret)))
def ir49 : IFn := { ntmps := 16, results := rs49, body := c49 }
/-! cableway/ring.Tail -/
def rs50 : List RV := [(.t 2)]
def c50 : IC := (.seq (.region [⟨some 1, .al (.box (.t 0)), none⟩, ⟨some 2, .pu (.mov (.c (.i .i64 0))), none⟩]) (.seq (.seq (.region [⟨some 3, .ld true 2 (.t 1), none⟩, ⟨some 4, .ef (.call 39 [(.t 3)]), none⟩, ⟨some 5, .pu (.un .not (.t 4)), none⟩]) (.cond (.t 5) (.seq (.region [⟨some 2, .pu (.mov (.c (.i .i64 (-1)))), none⟩]) .ret) .skip)) (.seq (.region [⟨some 6, .pu (.fa 0 (.t 1)), none⟩, ⟨some 7, .ld false 1 (.t 6), none⟩, ⟨some 2, .pu (.mov (.t 7)), none⟩]) .ret)))
def ir50 : IFn := { ntmps := 8, results := rs50, body := c50 }
/-! (cableway/send.Task).stands -/
def rs51 : List RV := [(.c 4 true 9)]
def c51_1 : IC := (.seq (.region [⟨some 32, .ld true 9 (.t 2), none⟩, ⟨none, .ef (.store 9 (.t 4) (.t 32)), none⟩]) .ret)
def c51_3 : IC := (.cond (.t 22) (.region [⟨some 31, .pu (.fa 8 (.t 2)), none⟩, ⟨none, .ef (.store 1 (.t 31) (.c (.b true))), none⟩]) (.region [⟨some 5, .pu (.fa 6 (.t 2)), none⟩, ⟨none, .ef (.store 1 (.t 5) (.c (.i .i64 0))), none⟩]))
def o51_4 : List IOp := [⟨some 30, .pu (.pick (.t 27) (.c (.b true)) (.t 29)), none⟩, ⟨some 22, .pu (.mov (.t 30)), none⟩] ++ []
def o51_5 : List IOp := [⟨some 28, .pu (.fa 7 (.t 2)), some (27, false)⟩, ⟨some 29, .ld false 1 (.t 28), some (27, false)⟩] ++ o51_4
def o51_6 : List IOp := [⟨some 23, .pu (.mov (.t 1)), none⟩, ⟨some 24, .pu (.fa 5 (.t 2)), none⟩, ⟨some 25, .ld false 1 (.t 24), none⟩, ⟨some 26, .pu (.bin .lss (.t 23) (.t 25)), none⟩, ⟨some 27, .pu (.mov (.t 26)), none⟩] ++ o51_5
def c51_2 : IC := (.cond (.t 6) (.region [⟨some 15, .pu (.fa 6 (.t 2)), none⟩, ⟨none, .ef (.store 1 (.t 15) (.c (.i .i64 3))), none⟩]) (.seq (.region [⟨some 17, .pu (.mov (.t 1)), none⟩, ⟨some 18, .pu (.fa 5 (.t 2)), none⟩, ⟨some 19, .ld false 1 (.t 18), none⟩, ⟨some 20, .pu (.bin .eql (.t 17) (.t 19)), none⟩, ⟨some 16, .pu (.mov (.t 20)), none⟩]) (.cond (.t 16) (.region [⟨some 21, .pu (.fa 6 (.t 2)), none⟩, ⟨none, .ef (.store 1 (.t 21) (.c (.i .i64 2))), none⟩]) (.seq (.region o51_6) c51_3))))
def o51_8 : List IOp := [⟨some 14, .pu (.pick (.t 11) (.t 13) (.c (.b false))), none⟩, ⟨some 6, .pu (.mov (.t 14)), none⟩] ++ []
def o51_9 : List IOp := [⟨some 12, .pu (.fa 7 (.t 2)), some (11, true)⟩, ⟨some 13, .ld false 1 (.t 12), some (11, true)⟩] ++ o51_8
def o51_10 : List IOp := [⟨some 7, .pu (.mov (.t 1)), none⟩, ⟨some 8, .pu (.fa 5 (.t 2)), none⟩, ⟨some 9, .ld false 1 (.t 8), none⟩, ⟨some 10, .pu (.bin .eql (.t 7) (.t 9)), none⟩, ⟨some 11, .pu (.mov (.t 10)), none⟩] ++ o51_9
def c51 : IC := (.seq (.region [⟨some 2, .al (.box (.t 0)), none⟩, ⟨some 4, .al (.zero [(.i .i64 0), (.i .i64 0), (.i .u64 0), (.i .u64 0), (.i .u64 0), (.i .u64 0), (.i .i64 0), (.b false), (.b false)]), none⟩]) (.seq (.block 0 (.seq (.region o51_10) c51_2)) c51_1))
def ir51 : IFn := { ntmps := 33, results := rs51, body := c51 }
/-! cableway/ring.Stand -/
def rs52 : List RV := [(.t 4)]
def c52 : IC := (.seq (.region [⟨some 2, .al (.box (.t 0)), none⟩, ⟨some 4, .pu (.mov (.c (.i .i64 0))), none⟩]) (.seq (.seq (.region [⟨some 5, .ld true 2 (.t 2), none⟩, ⟨some 6, .ef (.call 39 [(.t 5)]), none⟩, ⟨some 7, .pu (.un .not (.t 6)), none⟩]) (.cond (.t 7) (.seq (.region [⟨some 4, .pu (.mov (.c (.i .i64 (-1)))), none⟩]) .ret) .skip)) (.seq (.region [⟨some 8, .ld true 2 (.t 2), none⟩, ⟨some 9, .pu (.mov (.t 1)), none⟩, ⟨some 10, .ef (.call 43 [(.t 8), (.t 9)]), none⟩, ⟨some 4, .pu (.mov (.t 10)), none⟩]) .ret)))
def ir52 : IFn := { ntmps := 11, results := rs52, body := c52 }
/-! (*cableway/arena.Arena).Swap -/
def rs53 : List RV := [(.t 8)]
def c53_1 : IC := (.seq (.region [⟨some 24, .pu (.mov (.t 0)), none⟩, ⟨some 25, .pu (.nilc (.t 24)), none⟩, ⟨some 26, .pu (.fa 0 (.t 25)), none⟩, ⟨some 27, .ld false 1 (.t 26), none⟩, ⟨some 28, .pu (.mov (.t 1)), none⟩, ⟨some 29, .pu (.mov (.t 3)), none⟩, ⟨some 30, .pu (.ia 1 (.t 27) (.t 28)), none⟩, ⟨none, .ef (.store 1 (.t 30) (.t 29)), none⟩]) (.seq (.region [⟨some 8, .pu (.mov (.c (.b true))), none⟩]) .ret))
def c53_2 : IC := (.cond (.t 23) (.seq (.region [⟨some 8, .pu (.mov (.c (.b false))), none⟩]) .ret) .skip)
def o53_3 : List IOp := [⟨some 23, .pu (.pick (.t 13) (.c (.b true)) (.t 22)), none⟩] ++ []
def o53_4 : List IOp := [⟨some 14, .pu (.mov (.t 0)), some (13, false)⟩, ⟨some 15, .pu (.nilc (.t 14)), some (13, false)⟩, ⟨some 16, .pu (.fa 0 (.t 15)), some (13, false)⟩, ⟨some 17, .ld false 1 (.t 16), some (13, false)⟩, ⟨some 18, .pu (.mov (.t 1)), some (13, false)⟩, ⟨some 19, .pu (.ia 1 (.t 17) (.t 18)), some (13, false)⟩, ⟨some 20, .ld false 1 (.t 19), some (13, false)⟩, ⟨some 21, .pu (.mov (.t 2)), some (13, false)⟩, ⟨some 22, .pu (.bin .neq (.t 20) (.t 21)), some (13, false)⟩] ++ o53_3
def o53_5 : List IOp := [⟨some 9, .pu (.mov (.t 0)), none⟩, ⟨some 10, .pu (.mov (.t 1)), none⟩, ⟨some 11, .ef (.call 70 [(.t 9), (.t 10)]), none⟩, ⟨some 12, .pu (.un .not (.t 11)), none⟩, ⟨some 13, .pu (.mov (.t 12)), none⟩] ++ o53_4
def c53 : IC := (.seq (.region [⟨some 8, .pu (.mov (.c (.b false))), none⟩]) (.seq (.seq (.region o53_5) c53_2) c53_1))
def ir53 : IFn := { ntmps := 31, results := rs53, body := c53 }
/-! cableway/ring.Data -/
def rs54 : List RV := [(.t 6)]
def c54_1 : IC := (.seq (.region [⟨some 18, .ld true 2 (.t 3), none⟩, ⟨some 19, .pu (.mov (.t 1)), none⟩, ⟨some 20, .ef (.call 43 [(.t 18), (.t 19)]), none⟩, ⟨some 21, .pu (.bin .add (.t 20) (.c (.i .i64 1))), none⟩, ⟨some 22, .pu (.mov (.t 2)), none⟩, ⟨some 23, .pu (.bin .add (.t 21) (.t 22)), none⟩, ⟨some 6, .pu (.mov (.t 23)), none⟩]) .ret)
def c54_2 : IC := (.cond (.t 17) (.seq (.region [⟨some 6, .pu (.mov (.c (.i .i64 (-1)))), none⟩]) .ret) .skip)
def o54_3 : List IOp := [⟨some 17, .pu (.pick (.t 14) (.c (.b true)) (.t 16)), none⟩] ++ []
def o54_4 : List IOp := [⟨some 15, .pu (.mov (.t 2)), some (14, false)⟩, ⟨some 16, .pu (.bin .geq (.t 15) (.c (.i .i64 3))), some (14, false)⟩] ++ o54_3
def o54_5 : List IOp := [⟨some 13, .pu (.pick (.t 10) (.c (.b true)) (.t 12)), none⟩, ⟨some 14, .pu (.mov (.t 13)), none⟩] ++ o54_4
def o54_6 : List IOp := [⟨some 11, .pu (.mov (.t 2)), some (10, false)⟩, ⟨some 12, .pu (.bin .lss (.t 11) (.c (.i .i64 0))), some (10, false)⟩] ++ o54_5
def o54_7 : List IOp := [⟨some 7, .ld true 2 (.t 3), none⟩, ⟨some 8, .ef (.call 39 [(.t 7)]), none⟩, ⟨some 9, .pu (.un .not (.t 8)), none⟩, ⟨some 10, .pu (.mov (.t 9)), none⟩] ++ o54_6
def c54 : IC := (.seq (.region [⟨some 3, .al (.box (.t 0)), none⟩, ⟨some 6, .pu (.mov (.c (.i .i64 0))), none⟩]) (.seq (.seq (.region o54_7) c54_2) c54_1))
def ir54 : IFn := { ntmps := 24, results := rs54, body := c54 }
/-! (cableway/field.Field).Get -/
def rs55 : List RV := [(.t 4)]
def c55 : IC := (.seq (.region [⟨some 2, .al (.box (.t 0)), none⟩, ⟨some 4, .pu (.mov (.c (.i .u64 0))), none⟩]) (.seq (.seq (.region [⟨some 5, .ld true 2 (.t 2), none⟩, ⟨some 6, .ef (.call 72 [(.t 5)]), none⟩, ⟨some 7, .pu (.un .not (.t 6)), none⟩]) (.cond (.t 7) (.seq (.region [⟨some 4, .pu (.mov (.c (.i .u64 0))), none⟩]) .ret) .skip)) (.seq (.draw [⟨some 8, .pu (.mov (.t 1)), none⟩, ⟨some 9, .pu (.fa 0 (.t 2)), none⟩, ⟨some 10, .ld false 1 (.t 9), none⟩, ⟨some 11, .pu (.bin .shr (.t 8) (.t 10)), none⟩, ⟨some 12, .ld true 2 (.t 2), none⟩, ⟨some 13, .ef (.call 74 [(.t 12)]), none⟩, ⟨some 14, .pu (.bin .and (.t 11) (.t 13)), none⟩, ⟨some 4, .pu (.mov (.t 14)), none⟩] [(2, 5)]) .ret)))
def ir55 : IFn := { ntmps := 15, results := rs55, body := c55 }
/-! cableway/field.Rest -/
def rs56 : List RV := [(.t 4)]
def c56_1 : IC := (.seq (.region [⟨some 18, .pu (.mov (.t 0)), none⟩, ⟨some 4, .pu (.mov (.t 18)), none⟩]) .ret)
def c56_2 : IC := (.seq (.region [⟨some 10, .pu (.bin .lss (.t 9) (.t 8)), none⟩]) (.seq (.cond (.t 10) .skip (.exit 0)) (.seq (.block 1 (.seq (.region [⟨some 11, .pu (.ia 2 (.t 7) (.t 9)), none⟩, ⟨some 12, .ld true 2 (.t 11), none⟩, ⟨some 6, .al (.zero [(.i .i64 0), (.i .i64 0)]), none⟩, ⟨none, .ef (.store 2 (.t 6) (.t 12)), none⟩]) (.region [⟨some 13, .pu (.mov (.t 0)), none⟩, ⟨some 14, .ld true 2 (.t 6), none⟩, ⟨some 15, .ef (.call 73 [(.t 14)]), none⟩, ⟨some 16, .pu (.bin .andNot (.t 13) (.t 15)), none⟩, ⟨some 0, .pu (.mov (.t 16)), none⟩]))) (.region [⟨some 17, .pu (.bin .add (.t 9) (.c (.i .i64 1))), none⟩, ⟨some 9, .pu (.mov (.t 17)), none⟩]))))
def c56 : IC := (.seq (.region [⟨some 4, .pu (.mov (.c (.i .u64 0))), none⟩]) (.seq (.seq (.region [⟨some 7, .pu (.mov (.t 1)), none⟩, ⟨some 8, .pu (.lens (.t 7)), none⟩, ⟨some 9, .pu (.mov (.c (.i .i64 0))), none⟩]) (.block 0 (.loop c56_2))) c56_1))
def ir56 : IFn := { ntmps := 19, results := rs56, body := c56 }
/-! (*cableway/wheel.Wheel).Advance -/
def rs57 : List RV := []
def c57_3 : IC := (.seq (.seq (.region [⟨some 26, .pu (.mov (.t 0)), none⟩, ⟨some 27, .pu (.nilc (.t 26)), none⟩, ⟨some 28, .pu (.fa 0 (.t 27)), none⟩, ⟨some 29, .ld false 1 (.t 28), none⟩, ⟨some 30, .pu (.mov (.t 1)), none⟩, ⟨some 31, .pu (.bin .lss (.t 29) (.t 30)), none⟩]) (.cond (.t 31) .skip (.exit 0))) (.block 1 (.region [⟨some 32, .pu (.mov (.t 0)), none⟩, ⟨some 33, .ef (.call 76 [(.t 32)]), none⟩])))
def c57_2 : IC := (.block 0 (.loop c57_3))
def c57_1 : IC := (.seq (.seq (.region [⟨some 16, .pu (.mov (.t 1)), none⟩, ⟨some 17, .pu (.mov (.t 0)), none⟩, ⟨some 18, .pu (.nilc (.t 17)), none⟩, ⟨some 19, .pu (.fa 0 (.t 18)), none⟩, ⟨some 20, .ld false 1 (.t 19), none⟩, ⟨some 21, .pu (.bin .sub (.t 16) (.t 20)), none⟩, ⟨some 22, .pu (.bin .geq (.t 21) (.c (.i .i64 4096))), none⟩]) (.cond (.t 22) (.region [⟨some 23, .pu (.mov (.t 0)), none⟩, ⟨some 24, .pu (.mov (.t 1)), none⟩, ⟨some 25, .ef (.call 75 [(.t 23), (.t 24)]), none⟩]) .skip)) c57_2)
def c57_4 : IC := (.cond (.t 15) .ret .skip)
def o57_5 : List IOp := [⟨some 15, .pu (.pick (.t 8) (.c (.b true)) (.t 14)), none⟩] ++ []
def o57_6 : List IOp := [⟨some 9, .pu (.mov (.t 1)), some (8, false)⟩, ⟨some 10, .pu (.mov (.t 0)), some (8, false)⟩, ⟨some 11, .pu (.nilc (.t 10)), some (8, false)⟩, ⟨some 12, .pu (.fa 0 (.t 11)), some (8, false)⟩, ⟨some 13, .ld false 1 (.t 12), some (8, false)⟩, ⟨some 14, .pu (.bin .leq (.t 9) (.t 13)), some (8, false)⟩] ++ o57_5
def o57_7 : List IOp := [⟨some 6, .pu (.mov (.t 0)), none⟩, ⟨some 7, .pu (.eqz false .p (.t 6) (.c (.p none))), none⟩, ⟨some 8, .pu (.mov (.t 7)), none⟩] ++ o57_6
def c57 : IC := (.seq (.region [⟨some 4, .pu (.mov (.t 1)), none⟩, ⟨some 5, .ef (.call 69 [(.t 4)]), none⟩, ⟨some 1, .pu (.mov (.t 5)), none⟩]) (.seq (.seq (.region o57_7) c57_4) c57_1))
def ir57 : IFn := { ntmps := 34, results := rs57, body := c57 }
/-! (*cableway/wheel.Wheel).Take -/
def rs58 : List RV := [(.c 2 true 5), (.t 3)]
def c58_1 : IC := (.seq (.region [⟨some 33, .pu (.mov (.t 0)), none⟩, ⟨some 34, .pu (.nilc (.t 33)), none⟩, ⟨some 35, .pu (.fa 50 (.t 34)), none⟩, ⟨some 36, .ld false 1 (.t 35), none⟩, ⟨some 37, .pu (.mov (.t 4)), none⟩, ⟨some 38, .pu (.ia 6 (.t 36) (.t 37)), none⟩, ⟨some 39, .ld true 6 (.t 38), none⟩, ⟨some 7, .al (.zero [(.i .i64 0), (.i .i64 0), (.i .i64 0), (.i .i64 0), (.i .i64 0), (.i .i64 0)]), none⟩, ⟨none, .ef (.store 6 (.t 7) (.t 39)), none⟩]) (.seq (.draw [⟨some 40, .pu (.mov (.t 0)), none⟩, ⟨some 41, .pu (.mov (.t 0)), none⟩, ⟨some 42, .pu (.nilc (.t 41)), none⟩, ⟨some 43, .pu (.fa 50 (.t 42)), none⟩, ⟨some 44, .ld false 1 (.t 43), none⟩, ⟨some 45, .pu (.mov (.t 4)), none⟩, ⟨some 46, .pu (.mov (.t 4)), none⟩, ⟨some 47, .pu (.sls 6 (.t 44) none (some (.t 45)) (some (.t 46))), none⟩, ⟨some 48, .pu (.mov (.t 0)), none⟩, ⟨some 49, .pu (.nilc (.t 48)), none⟩, ⟨some 50, .pu (.fa 50 (.t 49)), none⟩, ⟨some 51, .ld false 1 (.t 50), none⟩, ⟨some 52, .pu (.mov (.t 4)), none⟩, ⟨some 53, .pu (.bin .add (.t 52) (.c (.i .i64 1))), none⟩, ⟨some 54, .pu (.sls 6 (.t 51) (some (.t 53)) none none), none⟩, ⟨some 55, .ef (.app 6 48 (.t 47) (.t 54)), none⟩, ⟨some 56, .pu (.nilc (.t 40)), none⟩, ⟨some 57, .pu (.fa 50 (.t 56)), none⟩, ⟨none, .ef (.store 1 (.t 57) (.t 55)), none⟩] []) (.seq (.region [⟨some 58, .pu (.mov (.t 0)), none⟩, ⟨some 59, .pu (.nilc (.t 58)), none⟩, ⟨some 60, .pu (.fa 51 (.t 59)), none⟩, ⟨some 61, .ld false 1 (.t 60), none⟩, ⟨some 62, .pu (.bin .sub (.t 61) (.c (.i .i64 1))), none⟩, ⟨some 63, .pu (.nilc (.t 58)), none⟩, ⟨some 64, .pu (.fa 51 (.t 63)), none⟩, ⟨none, .ef (.store 1 (.t 64) (.t 62)), none⟩]) (.seq (.region [⟨some 65, .pu (.fa 0 (.t 7)), none⟩, ⟨some 66, .ld true 5 (.t 65), none⟩, ⟨none, .ef (.store 5 (.t 2) (.t 66)), none⟩, ⟨some 3, .pu (.mov (.c (.b true))), none⟩]) .ret))))
def c58_3 : IC := (.region [⟨some 32, .pu (.bin .add (.t 17) (.c (.i .i64 1))), none⟩, ⟨some 17, .pu (.mov (.t 32)), none⟩])
def c58_2 : IC := (.seq (.region [⟨some 18, .pu (.bin .lss (.t 17) (.t 16)), none⟩]) (.seq (.cond (.t 18) .skip (.exit 0)) (.seq (.block 1 (.seq (.region [⟨some 19, .pu (.mov (.t 17)), none⟩, ⟨some 20, .pu (.ia 6 (.t 15) (.t 17)), none⟩, ⟨some 21, .ld true 6 (.t 20), none⟩, ⟨some 6, .al (.zero [(.i .i64 0), (.i .i64 0), (.i .i64 0), (.i .i64 0), (.i .i64 0), (.i .i64 0)]), none⟩, ⟨some 5, .pu (.mov (.t 19)), none⟩, ⟨none, .ef (.store 6 (.t 6) (.t 21)), none⟩]) (.seq (.draw [⟨some 22, .ld true 6 (.t 6), none⟩, ⟨some 23, .pu (.mov (.t 0)), none⟩, ⟨some 24, .pu (.nilc (.t 23)), none⟩, ⟨some 25, .pu (.fa 50 (.t 24)), none⟩, ⟨some 26, .ld false 1 (.t 25), none⟩, ⟨some 27, .pu (.mov (.t 4)), none⟩, ⟨some 28, .pu (.ia 6 (.t 26) (.t 27)), none⟩, ⟨some 29, .ld true 6 (.t 28), none⟩, ⟨some 30, .ef (.call 78 [(.t 22), (.t 29)]), none⟩] []) (.cond (.t 30) (.region [⟨some 31, .pu (.mov (.t 5)), none⟩, ⟨some 4, .pu (.mov (.t 31)), none⟩]) .skip)))) c58_3)))
def c58 : IC := (.seq (.region [⟨some 2, .al (.zero [(.i .i64 0), (.i .i64 0), (.i .i64 0), (.i .i64 0), (.i .i64 0)]), none⟩, ⟨some 3, .pu (.mov (.c (.b false))), none⟩]) (.seq (.seq (.region [⟨some 8, .pu (.mov (.t 0)), none⟩, ⟨some 9, .ef (.call 77 [(.t 8)]), none⟩, ⟨some 10, .pu (.bin .eql (.t 9) (.c (.i .i64 0))), none⟩]) (.cond (.t 10) (.seq (.region [⟨some 11, .pu (.bld [(.i .i64 0), (.i .i64 0), (.i .i64 0), (.i .i64 0), (.i .i64 0)] []), none⟩, ⟨none, .ef (.store 5 (.t 2) (.t 11)), none⟩, ⟨some 3, .pu (.mov (.c (.b false))), none⟩]) .ret) .skip)) (.seq (.region [⟨some 4, .pu (.mov (.c (.i .i64 0))), none⟩]) (.seq (.seq (.region [⟨some 12, .pu (.mov (.t 0)), none⟩, ⟨some 13, .pu (.nilc (.t 12)), none⟩, ⟨some 14, .pu (.fa 50 (.t 13)), none⟩, ⟨some 15, .ld false 1 (.t 14), none⟩, ⟨some 16, .pu (.lens (.t 15)), none⟩, ⟨some 17, .pu (.mov (.c (.i .i64 0))), none⟩]) (.block 0 (.loop c58_2))) c58_1))))
def ir58 : IFn := { ntmps := 67, results := rs58, body := c58 }
/-! slices.DeleteFunc[[]cableway/api.Alarm,cableway/api.Alarm] -/
def rs59 : List RV := [(.t 4)]
def c59_1 : IC := (.seq (.region [⟨some 36, .pu (.mov (.t 0)), none⟩, ⟨some 37, .pu (.mov (.t 5)), none⟩, ⟨some 38, .pu (.sls 5 (.t 36) (some (.t 37)) none none), none⟩, ⟨none, .ef (.clear [(.i .i64 0), (.i .i64 0), (.i .i64 0), (.i .i64 0), (.i .i64 0)] (.t 38)), none⟩]) (.seq (.region [⟨some 39, .pu (.mov (.t 0)), none⟩, ⟨some 40, .pu (.mov (.t 5)), none⟩, ⟨some 41, .pu (.sls 5 (.t 39) none (some (.t 40)) none), none⟩, ⟨some 4, .pu (.mov (.t 41)), none⟩]) .ret))
def c59_3 : IC := (.region [⟨some 20, .pu (.mov (.t 6)), none⟩, ⟨some 21, .pu (.bin .add (.t 20) (.c (.i .i64 1))), none⟩, ⟨some 6, .pu (.mov (.t 21)), none⟩])
def c59_2 : IC := (.seq (.seq (.region [⟨some 16, .pu (.mov (.t 6)), none⟩, ⟨some 17, .pu (.mov (.t 0)), none⟩, ⟨some 18, .pu (.lens (.t 17)), none⟩, ⟨some 19, .pu (.bin .lss (.t 16) (.t 18)), none⟩]) (.cond (.t 19) .skip (.exit 0))) (.seq (.block 1 (.seq (.region [⟨some 22, .pu (.mov (.t 0)), none⟩, ⟨some 23, .pu (.mov (.t 6)), none⟩, ⟨some 24, .pu (.ia 5 (.t 22) (.t 23)), none⟩, ⟨some 25, .ld true 5 (.t 24), none⟩, ⟨some 7, .al (.zero [(.i .i64 0), (.i .i64 0), (.i .i64 0), (.i .i64 0), (.i .i64 0)]), none⟩, ⟨none, .ef (.store 5 (.t 7) (.t 25)), none⟩]) (.seq (.region [⟨some 26, .pu (.mov (.t 1)), none⟩, ⟨some 27, .ld true 5 (.t 7), none⟩, ⟨some 28, .ef (.callv (.t 26) [(.t 27)]), none⟩, ⟨some 29, .pu (.un .not (.t 28)), none⟩]) (.cond (.t 29) (.seq (.region [⟨some 30, .pu (.mov (.t 0)), none⟩, ⟨some 31, .pu (.mov (.t 5)), none⟩, ⟨some 32, .ld true 5 (.t 7), none⟩, ⟨some 33, .pu (.ia 5 (.t 30) (.t 31)), none⟩, ⟨none, .ef (.store 5 (.t 33) (.t 32)), none⟩]) (.region [⟨some 34, .pu (.mov (.t 5)), none⟩, ⟨some 35, .pu (.bin .add (.t 34) (.c (.i .i64 1))), none⟩, ⟨some 5, .pu (.mov (.t 35)), none⟩])) .skip)))) c59_3))
def c59 : IC := (.seq (.region [⟨some 4, .pu (.mov (.c .nsl)), none⟩]) (.seq (.region [⟨some 8, .pu (.mov (.t 0)), none⟩, ⟨some 9, .pu (.mov (.t 1)), none⟩, ⟨some 10, .ef (.call 79 [(.t 8), (.t 9)]), none⟩, ⟨some 5, .pu (.mov (.t 10)), none⟩]) (.seq (.seq (.region [⟨some 11, .pu (.mov (.t 5)), none⟩, ⟨some 12, .pu (.bin .eql (.t 11) (.c (.i .i64 (-1)))), none⟩]) (.cond (.t 12) (.seq (.region [⟨some 13, .pu (.mov (.t 0)), none⟩, ⟨some 4, .pu (.mov (.t 13)), none⟩]) .ret) .skip)) (.seq (.seq (.region [⟨some 14, .pu (.mov (.t 5)), none⟩, ⟨some 15, .pu (.bin .add (.t 14) (.c (.i .i64 1))), none⟩, ⟨some 6, .pu (.mov (.t 15)), none⟩]) (.block 0 (.loop c59_2))) c59_1))))
def ir59 : IFn := { ntmps := 42, results := rs59, body := c59 }
/-! slices.Clone[[]cableway/api.Alarm,cableway/api.Alarm] -/
def rs61 : List RV := [(.t 2)]
def c61 : IC := (.seq (.region [⟨some 2, .pu (.mov (.c .nsl)), none⟩]) (.seq (.seq (.region [⟨some 3, .pu (.mov (.t 0)), none⟩, ⟨some 4, .pu (.eqz false .s (.t 3) (.c .nsl)), none⟩]) (.cond (.t 4) (.seq (.region [⟨some 2, .pu (.mov (.c .nsl)), none⟩]) .ret) .skip)) (.seq (.region [⟨some 5, .al (.sl 0 [] []), none⟩, ⟨some 6, .pu (.mov (.t 0)), none⟩, ⟨some 7, .ef (.app 5 40 (.t 5) (.t 6)), none⟩, ⟨some 2, .pu (.mov (.t 7)), none⟩]) .ret)))
def ir61 : IFn := { ntmps := 8, results := rs61, body := c61 }
/-! cableway/alarm.Tell -/
def rs62 : List RV := [(.c 2 true 11)]
def c62 : IC := (.seq (.region [⟨some 1, .al (.box (.t 0)), none⟩, ⟨some 2, .al (.zero [(.i .i64 0), (.i .i64 0), (.i .i64 0), (.i .i64 0), (.i .i64 0), (.i .u32 0), (.i .i64 0), (.b false), (.b false), (.i .i64 0), (.i .u32 0)]), none⟩]) (.seq (.region [⟨some 3, .pu (.fa 1 (.t 1)), none⟩, ⟨some 4, .ld false 1 (.t 3), none⟩, ⟨some 5, .pu (.fa 2 (.t 1)), none⟩, ⟨some 6, .ld false 1 (.t 5), none⟩, ⟨some 7, .pu (.fa 3 (.t 1)), none⟩, ⟨some 8, .ld false 1 (.t 7), none⟩, ⟨some 9, .pu (.fa 4 (.t 1)), none⟩, ⟨some 10, .ld false 1 (.t 9), none⟩, ⟨some 11, .pu (.bld [(.i .i64 0), (.i .i64 0), (.i .i64 0), (.i .i64 0), (.i .i64 0), (.i .u32 0), (.i .i64 0), (.b false), (.b false), (.i .i64 0), (.i .u32 0)] [(0, 1, (.c (.i .i64 10))), (1, 1, (.t 4)), (3, 1, (.t 6)), (4, 1, (.t 8)), (6, 1, (.t 10))]), none⟩, ⟨none, .ef (.store 11 (.t 2) (.t 11)), none⟩]) .ret))
def ir62 : IFn := { ntmps := 12, results := rs62, body := c62 }
/-! cableway/send.Lone -/
def rs63 : List RV := [(.c 6 true 9)]
def c63 : IC := (.seq (.region [⟨some 3, .al (.box (.t 0)), none⟩, ⟨some 4, .al (.box (.t 1)), none⟩, ⟨some 6, .al (.zero [(.i .i64 0), (.i .i64 0), (.i .u64 0), (.i .u64 0), (.i .u64 0), (.i .u64 0), (.i .i64 0), (.b false), (.b false)]), none⟩]) (.seq (.region [⟨some 7, .ld true 2 (.t 3), none⟩, ⟨some 8, .ld true 3 (.t 4), none⟩, ⟨some 9, .pu (.mov (.t 2)), none⟩, ⟨some 10, .pu (.bld [(.i .i64 0), (.i .i64 0), (.i .u64 0), (.i .u64 0), (.i .u64 0), (.i .u64 0), (.i .i64 0), (.b false), (.b false)] [(0, 2, (.t 7)), (2, 3, (.t 8)), (5, 1, (.t 9)), (6, 1, (.c (.i .i64 1))), (7, 1, (.c (.b true)))]), none⟩, ⟨none, .ef (.store 9 (.t 6) (.t 10)), none⟩]) .ret))
def ir63 : IFn := { ntmps := 11, results := rs63, body := c63 }
/-! cableway/alarm.Of -/
def rs64 : List RV := [(.c 2 true 5), (.t 3)]
def c64 : IC := (.seq (.region [⟨some 1, .al (.box (.t 0)), none⟩, ⟨some 2, .al (.zero [(.i .i64 0), (.i .i64 0), (.i .i64 0), (.i .i64 0), (.i .i64 0)]), none⟩, ⟨some 3, .pu (.mov (.c (.b false))), none⟩]) (.seq (.seq (.region [⟨some 5, .pu (.fa 0 (.t 1)), none⟩, ⟨some 6, .ld false 1 (.t 5), none⟩, ⟨some 7, .pu (.bin .neq (.t 6) (.c (.i .i64 9))), none⟩]) (.cond (.t 7) (.seq (.region [⟨some 8, .pu (.bld [(.i .i64 0), (.i .i64 0), (.i .i64 0), (.i .i64 0), (.i .i64 0)] []), none⟩, ⟨none, .ef (.store 5 (.t 2) (.t 8)), none⟩, ⟨some 3, .pu (.mov (.c (.b false))), none⟩]) .ret) .skip)) (.seq (.draw [⟨some 9, .ld true 11 (.t 1), none⟩, ⟨some 10, .ef (.call 80 [(.t 9)]), none⟩, ⟨some 11, .pu (.fa 1 (.t 1)), none⟩, ⟨some 12, .ld false 1 (.t 11), none⟩, ⟨some 13, .pu (.fa 3 (.t 1)), none⟩, ⟨some 14, .ld false 1 (.t 13), none⟩, ⟨some 15, .pu (.fa 4 (.t 1)), none⟩, ⟨some 16, .ld false 1 (.t 15), none⟩, ⟨some 17, .pu (.fa 6 (.t 1)), none⟩, ⟨some 18, .ld false 1 (.t 17), none⟩, ⟨some 19, .pu (.bld [(.i .i64 0), (.i .i64 0), (.i .i64 0), (.i .i64 0), (.i .i64 0)] [(0, 1, (.t 10)), (1, 1, (.t 12)), (2, 1, (.t 14)), (3, 1, (.t 16)), (4, 1, (.t 18))]), none⟩, ⟨some 4, .al (.zero [(.i .i64 0), (.i .i64 0), (.i .i64 0), (.i .i64 0), (.i .i64 0)]), none⟩, ⟨none, .ef (.store 5 (.t 4) (.t 19)), none⟩] [(3, 1), (5, 1), (7, 1), (9, 1)]) (.seq (.draw [⟨some 20, .ld true 5 (.t 4), none⟩, ⟨some 21, .ld true 5 (.t 4), none⟩, ⟨some 22, .ef (.call 44 [(.t 21)]), none⟩, ⟨none, .ef (.store 5 (.t 2) (.t 20)), none⟩, ⟨some 3, .pu (.mov (.t 22)), none⟩] [(0, 2)]) .ret))))
def ir64 : IFn := { ntmps := 23, results := rs64, body := c64 }
/-! (*cableway/wheel.Wheel).Put -/
def rs65 : List RV := [(.t 4)]
def c65_1 : IC := (.seq (.region [⟨some 16, .pu (.mov (.t 0)), none⟩, ⟨some 17, .ld true 5 (.t 3), none⟩, ⟨some 18, .ef (.call 81 [(.t 16), (.t 17)]), none⟩]) (.seq (.seq (.region [⟨some 19, .pu (.mov (.t 0)), none⟩, ⟨some 20, .pu (.nilc (.t 19)), none⟩, ⟨some 21, .pu (.fa 51 (.t 20)), none⟩, ⟨some 22, .ld false 1 (.t 21), none⟩, ⟨some 23, .pu (.bin .geq (.t 22) (.c (.i .i64 256))), none⟩]) (.cond (.t 23) (.seq (.region [⟨some 4, .pu (.mov (.c (.b false))), none⟩]) .ret) .skip)) (.seq (.region [⟨some 24, .pu (.mov (.t 0)), none⟩, ⟨some 25, .pu (.nilc (.t 24)), none⟩, ⟨some 26, .pu (.fa 51 (.t 25)), none⟩, ⟨some 27, .ld false 1 (.t 26), none⟩, ⟨some 28, .pu (.bin .add (.t 27) (.c (.i .i64 1))), none⟩, ⟨some 29, .pu (.nilc (.t 24)), none⟩, ⟨some 30, .pu (.fa 51 (.t 29)), none⟩, ⟨none, .ef (.store 1 (.t 30) (.t 28)), none⟩]) (.seq (.region [⟨some 31, .pu (.mov (.t 0)), none⟩, ⟨some 32, .pu (.nilc (.t 31)), none⟩, ⟨some 33, .pu (.fa 52 (.t 32)), none⟩, ⟨some 34, .ld false 1 (.t 33), none⟩, ⟨some 35, .pu (.bin .add (.t 34) (.c (.i .i64 1))), none⟩, ⟨some 36, .pu (.nilc (.t 31)), none⟩, ⟨some 37, .pu (.fa 52 (.t 36)), none⟩, ⟨none, .ef (.store 1 (.t 37) (.t 35)), none⟩]) (.seq (.draw [⟨some 38, .pu (.mov (.t 0)), none⟩, ⟨some 39, .ld true 5 (.t 3), none⟩, ⟨some 40, .pu (.mov (.t 0)), none⟩, ⟨some 41, .pu (.nilc (.t 40)), none⟩, ⟨some 42, .pu (.fa 52 (.t 41)), none⟩, ⟨some 43, .ld false 1 (.t 42), none⟩, ⟨some 44, .pu (.bld [(.i .i64 0), (.i .i64 0), (.i .i64 0), (.i .i64 0), (.i .i64 0), (.i .i64 0)] [(0, 5, (.t 39)), (5, 1, (.t 43))]), none⟩, ⟨some 45, .ef (.call 82 [(.t 38), (.t 44)]), none⟩] []) (.seq (.region [⟨some 4, .pu (.mov (.c (.b true))), none⟩]) .ret))))))
def c65_2 : IC := (.cond (.t 15) (.seq (.region [⟨some 4, .pu (.mov (.c (.b false))), none⟩]) .ret) .skip)
def o65_3 : List IOp := [⟨some 15, .pu (.pick (.t 11) (.c (.b true)) (.t 14)), none⟩] ++ []
def o65_4 : List IOp := [⟨some 12, .pu (.fa 0 (.t 3)), some (11, false)⟩, ⟨some 13, .ld false 1 (.t 12), some (11, false)⟩, ⟨some 14, .pu (.bin .eql (.t 13) (.c (.i .i64 1099511627776))), some (11, false)⟩] ++ o65_3
def o65_5 : List IOp := [⟨some 9, .pu (.mov (.t 0)), none⟩, ⟨some 10, .pu (.eqz false .p (.t 9) (.c (.p none))), none⟩, ⟨some 11, .pu (.mov (.t 10)), none⟩] ++ o65_4
def c65 : IC := (.seq (.region [⟨some 3, .al (.box (.t 1)), none⟩, ⟨some 4, .pu (.mov (.c (.b false))), none⟩]) (.seq (.region [⟨some 5, .pu (.fa 0 (.t 3)), none⟩, ⟨some 6, .ld false 1 (.t 5), none⟩, ⟨some 7, .ef (.call 69 [(.t 6)]), none⟩, ⟨some 8, .pu (.fa 0 (.t 3)), none⟩, ⟨none, .ef (.store 1 (.t 8) (.t 7)), none⟩]) (.seq (.seq (.region o65_5) c65_2) c65_1)))
def ir65 : IFn := { ntmps := 46, results := rs65, body := c65 }
/-! cableway/ticks.Clamp -/
def rs69 : List RV := [(.t 2)]
def c69 : IC := (.seq (.region [⟨some 2, .pu (.mov (.c (.i .i64 0))), none⟩]) (.seq (.region [⟨some 3, .pu (.mov (.t 0)), none⟩, ⟨some 4, .pu (.max (.t 3) [(.c (.i .i64 0))]), none⟩, ⟨some 5, .pu (.min (.t 4) [(.c (.i .i64 1099511627776))]), none⟩, ⟨some 2, .pu (.mov (.t 5)), none⟩]) .ret))
def ir69 : IFn := { ntmps := 6, results := rs69, body := c69 }
/-! (*cableway/arena.Arena).touch -/
def rs70 : List RV := [(.t 4)]
def c70_2 : IC := (.seq (.region [⟨some 4, .pu (.mov (.c (.b true))), none⟩]) .ret)
def c70_1 : IC := (.seq (.seq (.region [⟨some 25, .pu (.mov (.t 0)), none⟩, ⟨some 26, .pu (.nilc (.t 25)), none⟩, ⟨some 27, .pu (.fa 1 (.t 26)), none⟩, ⟨some 28, .ld false 1 (.t 27), none⟩, ⟨some 29, .pu (.mov (.t 1)), none⟩, ⟨some 30, .ef (.call 85 [(.t 28), (.t 29)]), none⟩, ⟨some 31, .pu (.un .not (.t 30)), none⟩]) (.cond (.t 31) (.region [⟨some 32, .pu (.mov (.t 0)), none⟩, ⟨some 33, .pu (.mov (.t 0)), none⟩, ⟨some 34, .pu (.nilc (.t 33)), none⟩, ⟨some 35, .pu (.fa 1 (.t 34)), none⟩, ⟨some 36, .ld false 1 (.t 35), none⟩, ⟨some 37, .pu (.mov (.t 1)), none⟩, ⟨some 38, .al (.sl 1 [(.i .i64 0)] [(0, 1, (.t 37))]), none⟩, ⟨some 39, .ef (.app 1 8 (.t 36) (.t 38)), none⟩, ⟨some 40, .pu (.nilc (.t 32)), none⟩, ⟨some 41, .pu (.fa 1 (.t 40)), none⟩, ⟨none, .ef (.store 1 (.t 41) (.t 39)), none⟩]) .skip)) c70_2)
def c70_3 : IC := (.cond (.t 17) (.seq (.region [⟨some 18, .pu (.mov (.t 0)), none⟩, ⟨some 19, .pu (.nilc (.t 18)), none⟩, ⟨some 20, .pu (.fa 2 (.t 19)), none⟩, ⟨some 21, .ld false 1 (.t 20), none⟩, ⟨some 22, .pu (.bin .add (.t 21) (.c (.i .i64 1))), none⟩, ⟨some 23, .pu (.nilc (.t 18)), none⟩, ⟨some 24, .pu (.fa 2 (.t 23)), none⟩, ⟨none, .ef (.store 1 (.t 24) (.t 22)), none⟩]) (.seq (.region [⟨some 4, .pu (.mov (.c (.b false))), none⟩]) .ret)) .skip)
def o70_4 : List IOp := [⟨some 17, .pu (.pick (.t 9) (.c (.b true)) (.t 16)), none⟩] ++ []
def o70_5 : List IOp := [⟨some 10, .pu (.mov (.t 1)), some (9, false)⟩, ⟨some 11, .pu (.mov (.t 0)), some (9, false)⟩, ⟨some 12, .pu (.nilc (.t 11)), some (9, false)⟩, ⟨some 13, .pu (.fa 0 (.t 12)), some (9, false)⟩, ⟨some 14, .ld false 1 (.t 13), some (9, false)⟩, ⟨some 15, .pu (.lens (.t 14)), some (9, false)⟩, ⟨some 16, .pu (.bin .geq (.t 10) (.t 15)), some (9, false)⟩] ++ o70_4
def o70_6 : List IOp := [⟨some 7, .pu (.mov (.t 1)), none⟩, ⟨some 8, .pu (.bin .lss (.t 7) (.c (.i .i64 0))), none⟩, ⟨some 9, .pu (.mov (.t 8)), none⟩] ++ o70_5
def c70 : IC := (.seq (.region [⟨some 4, .pu (.mov (.c (.b false))), none⟩]) (.seq (.seq (.region [⟨some 5, .pu (.mov (.t 0)), none⟩, ⟨some 6, .pu (.eqz false .p (.t 5) (.c (.p none))), none⟩]) (.cond (.t 6) (.seq (.region [⟨some 4, .pu (.mov (.c (.b false))), none⟩]) .ret) .skip)) (.seq (.seq (.region o70_6) c70_3) c70_1)))
def ir70 : IFn := { ntmps := 42, results := rs70, body := c70 }
/-! cableway/frame.within -/
def rs71 : List RV := [(.t 4)]
def o71_1 : List IOp := [⟨some 11, .pu (.pick (.t 7) (.t 10) (.c (.b false))), none⟩, ⟨some 4, .pu (.mov (.t 11)), none⟩] ++ []
def o71_2 : List IOp := [⟨some 8, .pu (.mov (.t 0)), some (7, true)⟩, ⟨some 9, .pu (.mov (.t 1)), some (7, true)⟩, ⟨some 10, .pu (.bin .leq (.t 8) (.t 9)), some (7, true)⟩] ++ o71_1
def o71_3 : List IOp := [⟨some 5, .pu (.mov (.t 0)), none⟩, ⟨some 6, .pu (.bin .geq (.t 5) (.c (.i .i64 0))), none⟩, ⟨some 7, .pu (.mov (.t 6)), none⟩] ++ o71_2
def c71 : IC := (.seq (.region [⟨some 4, .pu (.mov (.c (.b false))), none⟩]) (.seq (.region o71_3) .ret))
def ir71 : IFn := { ntmps := 12, results := rs71, body := c71 }
/-! (cableway/field.Field).May -/
def rs72 : List RV := [(.t 2)]
def o72_1 : List IOp := [⟨some 23, .pu (.pick (.t 16) (.t 22) (.c (.b false))), none⟩, ⟨some 2, .pu (.mov (.t 23)), none⟩] ++ []
def o72_2 : List IOp := [⟨some 17, .pu (.fa 1 (.t 1)), some (16, true)⟩, ⟨some 18, .ld false 1 (.t 17), some (16, true)⟩, ⟨some 19, .pu (.fa 0 (.t 1)), some (16, true)⟩, ⟨some 20, .ld false 1 (.t 19), some (16, true)⟩, ⟨some 21, .pu (.bin .sub (.c (.i .i64 64)) (.t 20)), some (16, true)⟩, ⟨some 22, .pu (.bin .leq (.t 18) (.t 21)), some (16, true)⟩] ++ o72_1
def o72_3 : List IOp := [⟨some 15, .pu (.pick (.t 11) (.t 14) (.c (.b false))), none⟩, ⟨some 16, .pu (.mov (.t 15)), none⟩] ++ o72_2
def o72_4 : List IOp := [⟨some 12, .pu (.fa 0 (.t 1)), some (11, true)⟩, ⟨some 13, .ld false 1 (.t 12), some (11, true)⟩, ⟨some 14, .pu (.bin .lss (.t 13) (.c (.i .i64 64))), some (11, true)⟩] ++ o72_3
def o72_5 : List IOp := [⟨some 10, .pu (.pick (.t 6) (.t 9) (.c (.b false))), none⟩, ⟨some 11, .pu (.mov (.t 10)), none⟩] ++ o72_4
def o72_6 : List IOp := [⟨some 7, .pu (.fa 1 (.t 1)), some (6, true)⟩, ⟨some 8, .ld false 1 (.t 7), some (6, true)⟩, ⟨some 9, .pu (.bin .geq (.t 8) (.c (.i .i64 1))), some (6, true)⟩] ++ o72_5
def o72_7 : List IOp := [⟨some 3, .pu (.fa 0 (.t 1)), none⟩, ⟨some 4, .ld false 1 (.t 3), none⟩, ⟨some 5, .pu (.bin .geq (.t 4) (.c (.i .i64 0))), none⟩, ⟨some 6, .pu (.mov (.t 5)), none⟩] ++ o72_6
def c72 : IC := (.seq (.region [⟨some 1, .al (.box (.t 0)), none⟩, ⟨some 2, .pu (.mov (.c (.b false))), none⟩]) (.seq (.region o72_7) .ret))
def ir72 : IFn := { ntmps := 24, results := rs72, body := c72 }
/-! (cableway/field.Field).mask -/
def rs73 : List RV := [(.t 2)]
def c73 : IC := (.seq (.region [⟨some 1, .al (.box (.t 0)), none⟩, ⟨some 2, .pu (.mov (.c (.i .u64 0))), none⟩]) (.seq (.seq (.region [⟨some 3, .ld true 2 (.t 1), none⟩, ⟨some 4, .ef (.call 72 [(.t 3)]), none⟩, ⟨some 5, .pu (.un .not (.t 4)), none⟩]) (.cond (.t 5) (.seq (.region [⟨some 2, .pu (.mov (.c (.i .u64 0))), none⟩]) .ret) .skip)) (.seq (.draw [⟨some 6, .ld true 2 (.t 1), none⟩, ⟨some 7, .ef (.call 74 [(.t 6)]), none⟩, ⟨some 8, .pu (.fa 0 (.t 1)), none⟩, ⟨some 9, .ld false 1 (.t 8), none⟩, ⟨some 10, .pu (.bin .shl (.t 7) (.t 9)), none⟩, ⟨some 2, .pu (.mov (.t 10)), none⟩] [(3, 1)]) .ret)))
def ir73 : IFn := { ntmps := 11, results := rs73, body := c73 }
/-! (cableway/field.Field).Most -/
def rs74 : List RV := [(.t 2)]
def c74 : IC := (.seq (.region [⟨some 1, .al (.box (.t 0)), none⟩, ⟨some 2, .pu (.mov (.c (.i .u64 0))), none⟩]) (.seq (.seq (.region [⟨some 3, .ld true 2 (.t 1), none⟩, ⟨some 4, .ef (.call 72 [(.t 3)]), none⟩, ⟨some 5, .pu (.un .not (.t 4)), none⟩]) (.cond (.t 5) (.seq (.region [⟨some 2, .pu (.mov (.c (.i .u64 0))), none⟩]) .ret) .skip)) (.seq (.region [⟨some 6, .pu (.fa 1 (.t 1)), none⟩, ⟨some 7, .ld false 1 (.t 6), none⟩, ⟨some 8, .pu (.bin .sub (.c (.i .i64 64)) (.t 7)), none⟩, ⟨some 9, .pu (.bin .shr (.c (.i .u64 18446744073709551615)) (.t 8)), none⟩, ⟨some 2, .pu (.mov (.t 9)), none⟩]) .ret)))
def ir74 : IFn := { ntmps := 10, results := rs74, body := c74 }
/-! (*cableway/wheel.Wheel).tick -/
def rs76 : List RV := []
def c76_3 : IC := (.region [⟨some 20, .pu (.mov (.t 2)), none⟩, ⟨some 21, .pu (.bin .sub (.t 20) (.c (.i .i64 1))), none⟩, ⟨some 2, .pu (.mov (.t 21)), none⟩])
def c76_2 : IC := (.seq (.seq (.region [⟨some 18, .pu (.mov (.t 2)), none⟩, ⟨some 19, .pu (.bin .geq (.t 18) (.c (.i .i64 0))), none⟩]) (.cond (.t 19) .skip (.exit 0))) (.seq (.block 1 (.seq (.draw [⟨some 22, .pu (.mov (.t 0)), none⟩, ⟨some 23, .pu (.nilc (.t 22)), none⟩, ⟨some 24, .pu (.fa 0 (.t 23)), none⟩, ⟨some 25, .ld false 1 (.t 24), none⟩, ⟨some 26, .pu (.mov (.t 2)), none⟩, ⟨some 27, .ef (.call 88 [(.t 26)]), none⟩, ⟨some 28, .pu (.bin .rem (.t 25) (.t 27)), none⟩, ⟨some 29, .pu (.bin .eql (.t 28) (.c (.i .i64 0))), none⟩] [(3, 5)]) (.cond (.t 29) (.draw [⟨some 30, .pu (.mov (.t 0)), none⟩, ⟨some 31, .pu (.mov (.t 2)), none⟩, ⟨some 32, .pu (.mov (.t 0)), none⟩, ⟨some 33, .pu (.nilc (.t 32)), none⟩, ⟨some 34, .pu (.fa 0 (.t 33)), none⟩, ⟨some 35, .ld false 1 (.t 34), none⟩, ⟨some 36, .pu (.mov (.t 2)), none⟩, ⟨some 37, .ef (.call 88 [(.t 36)]), none⟩, ⟨some 38, .ef (.call 89 [(.t 35), (.t 37), (.c (.i .i64 16))]), none⟩, ⟨some 39, .ef (.call 87 [(.t 30), (.t 31), (.t 38)]), none⟩] [(5, 7)]) .skip))) c76_3))
def c76_1 : IC := (.seq (.region [⟨some 2, .pu (.mov (.c (.i .i64 2))), none⟩]) (.block 0 (.loop c76_2)))
def c76 : IC := (.seq (.region [⟨some 3, .pu (.mov (.t 0)), none⟩, ⟨some 4, .pu (.nilc (.t 3)), none⟩, ⟨some 5, .pu (.fa 0 (.t 4)), none⟩, ⟨some 6, .ld false 1 (.t 5), none⟩, ⟨some 7, .pu (.bin .add (.t 6) (.c (.i .i64 1))), none⟩, ⟨some 8, .pu (.nilc (.t 3)), none⟩, ⟨some 9, .pu (.fa 0 (.t 8)), none⟩, ⟨none, .ef (.store 1 (.t 9) (.t 7)), none⟩]) (.seq (.seq (.region [⟨some 10, .pu (.mov (.t 0)), none⟩, ⟨some 11, .pu (.nilc (.t 10)), none⟩, ⟨some 12, .pu (.fa 49 (.t 11)), none⟩, ⟨some 13, .ld false 1 (.t 12), none⟩, ⟨some 14, .pu (.lens (.t 13)), none⟩, ⟨some 15, .pu (.bin .gtr (.t 14) (.c (.i .i64 0))), none⟩]) (.cond (.t 15) (.region [⟨some 16, .pu (.mov (.t 0)), none⟩, ⟨some 17, .ef (.call 86 [(.t 16)]), none⟩]) .skip)) c76_1))
def ir76 : IFn := { ntmps := 40, results := rs76, body := c76 }
/-! (*cableway/wheel.Wheel).Come -/
def rs77 : List RV := [(.t 2)]
def c77 : IC := (.seq (.region [⟨some 2, .pu (.mov (.c (.i .i64 0))), none⟩]) (.seq (.seq (.region [⟨some 3, .pu (.mov (.t 0)), none⟩, ⟨some 4, .pu (.eqz false .p (.t 3) (.c (.p none))), none⟩]) (.cond (.t 4) (.seq (.region [⟨some 2, .pu (.mov (.c (.i .i64 0))), none⟩]) .ret) .skip)) (.seq (.region [⟨some 5, .pu (.mov (.t 0)), none⟩, ⟨some 6, .pu (.nilc (.t 5)), none⟩, ⟨some 7, .pu (.fa 50 (.t 6)), none⟩, ⟨some 8, .ld false 1 (.t 7), none⟩, ⟨some 9, .pu (.lens (.t 8)), none⟩, ⟨some 2, .pu (.mov (.t 9)), none⟩]) .ret)))
def ir77 : IFn := { ntmps := 10, results := rs77, body := c77 }
/-! (cableway/wheel.entry).ahead -/
def rs78 : List RV := [(.t 4)]
def o78_1 : List IOp := [⟨some 27, .pu (.pick (.t 12) (.c (.b true)) (.t 26)), none⟩, ⟨some 4, .pu (.mov (.t 27)), none⟩] ++ []
def o78_2 : List IOp := [⟨some 26, .pu (.pick (.t 20) (.t 25) (.c (.b false))), some (12, false)⟩] ++ o78_1
def o78_3 : List IOp := [⟨some 21, .pu (.fa 5 (.t 2)), some (20, true)⟩, ⟨some 22, .ld false 1 (.t 21), some (20, true)⟩, ⟨some 23, .pu (.fa 5 (.t 3)), some (20, true)⟩, ⟨some 24, .ld false 1 (.t 23), some (20, true)⟩, ⟨some 25, .pu (.bin .lss (.t 22) (.t 24)), some (20, true)⟩] ++ o78_2
def o78_4 : List IOp := [⟨some 13, .pu (.fa 0 (.t 2)), some (12, false)⟩, ⟨some 14, .pu (.fa 0 (.t 13)), some (12, false)⟩, ⟨some 15, .ld false 1 (.t 14), some (12, false)⟩, ⟨some 16, .pu (.fa 0 (.t 3)), some (12, false)⟩, ⟨some 17, .pu (.fa 0 (.t 16)), some (12, false)⟩, ⟨some 18, .ld false 1 (.t 17), some (12, false)⟩, ⟨some 19, .pu (.bin .eql (.t 15) (.t 18)), some (12, false)⟩, ⟨some 20, .pu (.mov (.t 19)), some (12, false)⟩] ++ o78_3
def o78_5 : List IOp := [⟨some 5, .pu (.fa 0 (.t 2)), none⟩, ⟨some 6, .pu (.fa 0 (.t 5)), none⟩, ⟨some 7, .ld false 1 (.t 6), none⟩, ⟨some 8, .pu (.fa 0 (.t 3)), none⟩, ⟨some 9, .pu (.fa 0 (.t 8)), none⟩, ⟨some 10, .ld false 1 (.t 9), none⟩, ⟨some 11, .pu (.bin .lss (.t 7) (.t 10)), none⟩, ⟨some 12, .pu (.mov (.t 11)), none⟩] ++ o78_4
def c78 : IC := (.seq (.region [⟨some 2, .al (.box (.t 0)), none⟩, ⟨some 3, .al (.box (.t 1)), none⟩, ⟨some 4, .pu (.mov (.c (.b false))), none⟩]) (.seq (.region o78_5) .ret))
def ir78 : IFn := { ntmps := 28, results := rs78, body := c78 }
/-! slices.IndexFunc[[]cableway/api.Alarm,cableway/api.Alarm] -/
def rs79 : List RV := [(.t 4)]
def c79_1 : IC := (.seq (.region [⟨some 4, .pu (.mov (.c (.i .i64 (-1)))), none⟩]) .ret)
def c79_2 : IC := (.seq (.region [⟨some 9, .pu (.bin .lss (.t 8) (.t 7)), none⟩]) (.seq (.cond (.t 9) .skip (.exit 0)) (.seq (.block 1 (.seq (.region [⟨some 10, .pu (.mov (.t 8)), none⟩, ⟨some 5, .pu (.mov (.t 10)), none⟩]) (.seq (.region [⟨some 11, .pu (.mov (.t 1)), none⟩, ⟨some 12, .pu (.mov (.t 0)), none⟩, ⟨some 13, .pu (.mov (.t 5)), none⟩, ⟨some 14, .pu (.ia 5 (.t 12) (.t 13)), none⟩, ⟨some 15, .ld true 5 (.t 14), none⟩, ⟨some 16, .ef (.callv (.t 11) [(.t 15)]), none⟩]) (.cond (.t 16) (.seq (.region [⟨some 17, .pu (.mov (.t 5)), none⟩, ⟨some 4, .pu (.mov (.t 17)), none⟩]) .ret) .skip)))) (.region [⟨some 18, .pu (.bin .add (.t 8) (.c (.i .i64 1))), none⟩, ⟨some 8, .pu (.mov (.t 18)), none⟩]))))
def c79 : IC := (.seq (.region [⟨some 4, .pu (.mov (.c (.i .i64 0))), none⟩]) (.seq (.seq (.region [⟨some 6, .pu (.mov (.t 0)), none⟩, ⟨some 7, .pu (.lens (.t 6)), none⟩, ⟨some 8, .pu (.mov (.c (.i .i64 0))), none⟩]) (.block 0 (.loop c79_2))) c79_1))
def ir79 : IFn := { ntmps := 19, results := rs79, body := c79 }
/-! cableway/frame.When -/
def rs80 : List RV := [(.t 2)]
def c80 : IC := (.seq (.region [⟨some 1, .al (.box (.t 0)), none⟩, ⟨some 2, .pu (.mov (.c (.i .i64 0))), none⟩]) (.seq (.region [⟨some 3, .pu (.fa 10 (.t 1)), none⟩, ⟨some 4, .ld false 1 (.t 3), none⟩, ⟨some 5, .pu (.cvi .i64 (.t 4)), none⟩, ⟨some 6, .pu (.fa 9 (.t 1)), none⟩, ⟨some 7, .ld false 1 (.t 6), none⟩, ⟨some 8, .pu (.bin .and (.t 7) (.c (.i .i64 255))), none⟩, ⟨some 9, .pu (.bin .shl (.t 8) (.c (.i .u64 32))), none⟩, ⟨some 10, .pu (.bin .or (.t 5) (.t 9)), none⟩, ⟨some 11, .pu (.min (.t 10) [(.c (.i .i64 1099511627776))]), none⟩, ⟨some 2, .pu (.mov (.t 11)), none⟩]) .ret))
def ir80 : IFn := { ntmps := 12, results := rs80, body := c80 }
/-! (*cableway/wheel.Wheel).drop -/
def rs81 : List RV := []
def c81_2 : IC := (.region [⟨some 51, .pu (.bin .add (.t 26) (.c (.i .i64 1))), none⟩, ⟨some 26, .pu (.mov (.t 51)), none⟩])
def c81_3 : IC := (.seq (.region [⟨some 30, .pu (.bin .lss (.t 29) (.c (.i .i64 16))), none⟩]) (.seq (.cond (.t 30) .skip (.exit 2)) (.seq (.block 3 (.seq (.region [⟨some 31, .pu (.mov (.t 29)), none⟩, ⟨some 5, .pu (.mov (.t 31)), none⟩]) (.draw [⟨some 32, .pu (.mov (.t 0)), none⟩, ⟨some 33, .pu (.mov (.t 4)), none⟩, ⟨some 34, .pu (.mov (.t 5)), none⟩, ⟨some 35, .pu (.mov (.t 0)), none⟩, ⟨some 36, .pu (.mov (.t 0)), none⟩, ⟨some 37, .pu (.mov (.t 4)), none⟩, ⟨some 38, .pu (.mov (.t 5)), none⟩, ⟨some 39, .pu (.nilc (.t 36)), none⟩, ⟨some 40, .pu (.fa 1 (.t 39)), none⟩, ⟨some 41, .pu (.iaa 16 3 (.t 40) (.t 37)), none⟩, ⟨some 42, .pu (.iaa 1 16 (.t 41) (.t 38)), none⟩, ⟨some 43, .ld false 1 (.t 42), none⟩, ⟨some 44, .ld true 5 (.t 3), none⟩, ⟨some 45, .ef (.call 90 [(.t 35), (.t 43), (.t 44)]), none⟩, ⟨some 46, .pu (.nilc (.t 32)), none⟩, ⟨some 47, .pu (.fa 1 (.t 46)), none⟩, ⟨some 48, .pu (.iaa 16 3 (.t 47) (.t 33)), none⟩, ⟨some 49, .pu (.iaa 1 16 (.t 48) (.t 34)), none⟩, ⟨none, .ef (.store 1 (.t 49) (.t 45)), none⟩] []))) (.region [⟨some 50, .pu (.bin .add (.t 29) (.c (.i .i64 1))), none⟩, ⟨some 29, .pu (.mov (.t 50)), none⟩]))))
def c81_1 : IC := (.seq (.region [⟨some 27, .pu (.bin .lss (.t 26) (.c (.i .i64 3))), none⟩]) (.seq (.cond (.t 27) .skip (.exit 0)) (.seq (.block 1 (.seq (.region [⟨some 28, .pu (.mov (.t 26)), none⟩, ⟨some 4, .pu (.mov (.t 28)), none⟩]) (.seq (.region [⟨some 29, .pu (.mov (.c (.i .i64 0))), none⟩]) (.block 2 (.loop c81_3))))) c81_2)))
def c81 : IC := (.seq (.region [⟨some 3, .al (.box (.t 1)), none⟩]) (.seq (.draw [⟨some 6, .pu (.mov (.t 0)), none⟩, ⟨some 7, .pu (.mov (.t 0)), none⟩, ⟨some 8, .pu (.mov (.t 0)), none⟩, ⟨some 9, .pu (.nilc (.t 8)), none⟩, ⟨some 10, .pu (.fa 50 (.t 9)), none⟩, ⟨some 11, .ld false 1 (.t 10), none⟩, ⟨some 12, .ld true 5 (.t 3), none⟩, ⟨some 13, .ef (.call 90 [(.t 7), (.t 11), (.t 12)]), none⟩, ⟨some 14, .pu (.nilc (.t 6)), none⟩, ⟨some 15, .pu (.fa 50 (.t 14)), none⟩, ⟨none, .ef (.store 1 (.t 15) (.t 13)), none⟩] []) (.seq (.draw [⟨some 16, .pu (.mov (.t 0)), none⟩, ⟨some 17, .pu (.mov (.t 0)), none⟩, ⟨some 18, .pu (.mov (.t 0)), none⟩, ⟨some 19, .pu (.nilc (.t 18)), none⟩, ⟨some 20, .pu (.fa 49 (.t 19)), none⟩, ⟨some 21, .ld false 1 (.t 20), none⟩, ⟨some 22, .ld true 5 (.t 3), none⟩, ⟨some 23, .ef (.call 90 [(.t 17), (.t 21), (.t 22)]), none⟩, ⟨some 24, .pu (.nilc (.t 16)), none⟩, ⟨some 25, .pu (.fa 49 (.t 24)), none⟩, ⟨none, .ef (.store 1 (.t 25) (.t 23)), none⟩] []) (.seq (.region [⟨some 26, .pu (.mov (.c (.i .i64 0))), none⟩]) (.block 0 (.loop c81_1))))))
def ir81 : IFn := { ntmps := 52, results := rs81, body := c81 }
/-! (*cableway/wheel.Wheel).lay -/
def rs82 : List RV := []
def c82 : IC := (.seq (.region [⟨some 3, .al (.box (.t 1)), none⟩]) (.seq (.seq (.draw [⟨some 6, .pu (.fa 0 (.t 3)), none⟩, ⟨some 7, .pu (.fa 0 (.t 6)), none⟩, ⟨some 8, .ld false 1 (.t 7), none⟩, ⟨some 9, .pu (.mov (.t 0)), none⟩, ⟨some 10, .pu (.nilc (.t 9)), none⟩, ⟨some 11, .pu (.fa 0 (.t 10)), none⟩, ⟨some 12, .ld false 1 (.t 11), none⟩, ⟨some 13, .pu (.bin .leq (.t 8) (.t 12)), none⟩] []) (.cond (.t 13) (.seq (.draw [⟨some 14, .pu (.mov (.t 0)), none⟩, ⟨some 15, .pu (.mov (.t 0)), none⟩, ⟨some 16, .pu (.nilc (.t 15)), none⟩, ⟨some 17, .pu (.fa 50 (.t 16)), none⟩, ⟨some 18, .ld false 1 (.t 17), none⟩, ⟨some 19, .ld true 6 (.t 3), none⟩, ⟨some 20, .al (.sl 1 [(.i .i64 0), (.i .i64 0), (.i .i64 0), (.i .i64 0), (.i .i64 0), (.i .i64 0)] [(0, 6, (.t 19))]), none⟩, ⟨some 21, .ef (.app 6 48 (.t 18) (.t 20)), none⟩, ⟨some 22, .pu (.nilc (.t 14)), none⟩, ⟨some 23, .pu (.fa 50 (.t 22)), none⟩, ⟨none, .ef (.store 1 (.t 23) (.t 21)), none⟩] []) .ret) .skip)) (.seq (.draw [⟨some 24, .pu (.fa 0 (.t 3)), none⟩, ⟨some 25, .pu (.fa 0 (.t 24)), none⟩, ⟨some 26, .ld false 1 (.t 25), none⟩, ⟨some 27, .pu (.mov (.t 0)), none⟩, ⟨some 28, .pu (.nilc (.t 27)), none⟩, ⟨some 29, .pu (.fa 0 (.t 28)), none⟩, ⟨some 30, .ld false 1 (.t 29), none⟩, ⟨some 31, .pu (.bin .sub (.t 26) (.t 30)), none⟩, ⟨some 32, .ef (.call 91 [(.t 31)]), none⟩, ⟨some 4, .pu (.mov (.t 32)), none⟩] []) (.seq (.seq (.region [⟨some 33, .pu (.mov (.t 4)), none⟩, ⟨some 34, .pu (.bin .eql (.t 33) (.c (.i .i64 3))), none⟩]) (.cond (.t 34) (.seq (.draw [⟨some 35, .pu (.mov (.t 0)), none⟩, ⟨some 36, .pu (.mov (.t 0)), none⟩, ⟨some 37, .pu (.nilc (.t 36)), none⟩, ⟨some 38, .pu (.fa 49 (.t 37)), none⟩, ⟨some 39, .ld false 1 (.t 38), none⟩, ⟨some 40, .ld true 6 (.t 3), none⟩, ⟨some 41, .al (.sl 1 [(.i .i64 0), (.i .i64 0), (.i .i64 0), (.i .i64 0), (.i .i64 0), (.i .i64 0)] [(0, 6, (.t 40))]), none⟩, ⟨some 42, .ef (.app 6 48 (.t 39) (.t 41)), none⟩, ⟨some 43, .pu (.nilc (.t 35)), none⟩, ⟨some 44, .pu (.fa 49 (.t 43)), none⟩, ⟨none, .ef (.store 1 (.t 44) (.t 42)), none⟩] []) .ret) .skip)) (.seq (.draw [⟨some 45, .pu (.fa 0 (.t 3)), none⟩, ⟨some 46, .pu (.fa 0 (.t 45)), none⟩, ⟨some 47, .ld false 1 (.t 46), none⟩, ⟨some 48, .pu (.mov (.t 4)), none⟩, ⟨some 49, .ef (.call 88 [(.t 48)]), none⟩, ⟨some 50, .ef (.call 89 [(.t 47), (.t 49), (.c (.i .i64 16))]), none⟩, ⟨some 5, .pu (.mov (.t 50)), none⟩] [(2, 4)]) (.draw [⟨some 51, .pu (.mov (.t 0)), none⟩, ⟨some 52, .pu (.mov (.t 4)), none⟩, ⟨some 53, .pu (.mov (.t 5)), none⟩, ⟨some 54, .pu (.mov (.t 0)), none⟩, ⟨some 55, .pu (.mov (.t 4)), none⟩, ⟨some 56, .pu (.mov (.t 5)), none⟩, ⟨some 57, .pu (.nilc (.t 54)), none⟩, ⟨some 58, .pu (.fa 1 (.t 57)), none⟩, ⟨some 59, .pu (.iaa 16 3 (.t 58) (.t 55)), none⟩, ⟨some 60, .pu (.iaa 1 16 (.t 59) (.t 56)), none⟩, ⟨some 61, .ld false 1 (.t 60), none⟩, ⟨some 62, .ld true 6 (.t 3), none⟩, ⟨some 63, .al (.sl 1 [(.i .i64 0), (.i .i64 0), (.i .i64 0), (.i .i64 0), (.i .i64 0), (.i .i64 0)] [(0, 6, (.t 62))]), none⟩, ⟨some 64, .ef (.app 6 48 (.t 61) (.t 63)), none⟩, ⟨some 65, .pu (.nilc (.t 51)), none⟩, ⟨some 66, .pu (.fa 1 (.t 65)), none⟩, ⟨some 67, .pu (.iaa 16 3 (.t 66) (.t 52)), none⟩, ⟨some 68, .pu (.iaa 1 16 (.t 67) (.t 53)), none⟩, ⟨none, .ef (.store 1 (.t 68) (.t 64)), none⟩] []))))))
def ir82 : IFn := { ntmps := 69, results := rs82, body := c82 }
/-! slices.Contains[[]int,int] -/
def rs85 : List RV := [(.t 4)]
def c85 : IC := (.seq (.region [⟨some 4, .pu (.mov (.c (.b false))), none⟩]) (.seq (.region [⟨some 5, .pu (.mov (.t 0)), none⟩, ⟨some 6, .pu (.mov (.t 1)), none⟩, ⟨some 7, .ef (.call 93 [(.t 5), (.t 6)]), none⟩, ⟨some 8, .pu (.bin .geq (.t 7) (.c (.i .i64 0))), none⟩, ⟨some 4, .pu (.mov (.t 8)), none⟩]) .ret))
def ir85 : IFn := { ntmps := 9, results := rs85, body := c85 }
/-! (*cableway/wheel.Wheel).again -/
def rs87 : List RV := []
def c87_1 : IC := (.seq (.region [⟨some 27, .pu (.bin .lss (.t 26) (.t 25)), none⟩]) (.seq (.cond (.t 27) .skip (.exit 0)) (.seq (.block 1 (.seq (.region [⟨some 28, .pu (.ia 6 (.t 24) (.t 26)), none⟩, ⟨some 29, .ld true 6 (.t 28), none⟩, ⟨some 8, .al (.zero [(.i .i64 0), (.i .i64 0), (.i .i64 0), (.i .i64 0), (.i .i64 0), (.i .i64 0)]), none⟩, ⟨none, .ef (.store 6 (.t 8) (.t 29)), none⟩]) (.region [⟨some 30, .pu (.mov (.t 0)), none⟩, ⟨some 31, .ld true 6 (.t 8), none⟩, ⟨some 32, .ef (.call 82 [(.t 30), (.t 31)]), none⟩]))) (.region [⟨some 33, .pu (.bin .add (.t 26) (.c (.i .i64 1))), none⟩, ⟨some 26, .pu (.mov (.t 33)), none⟩]))))
def c87 : IC := (.seq (.region [⟨some 9, .pu (.mov (.t 0)), none⟩, ⟨some 10, .pu (.mov (.t 1)), none⟩, ⟨some 11, .pu (.mov (.t 2)), none⟩, ⟨some 12, .pu (.nilc (.t 9)), none⟩, ⟨some 13, .pu (.fa 1 (.t 12)), none⟩, ⟨some 14, .pu (.iaa 16 3 (.t 13) (.t 10)), none⟩, ⟨some 15, .pu (.iaa 1 16 (.t 14) (.t 11)), none⟩, ⟨some 16, .ld false 1 (.t 15), none⟩, ⟨some 6, .pu (.mov (.t 16)), none⟩]) (.seq (.region [⟨some 17, .pu (.mov (.t 0)), none⟩, ⟨some 18, .pu (.mov (.t 1)), none⟩, ⟨some 19, .pu (.mov (.t 2)), none⟩, ⟨some 20, .pu (.nilc (.t 17)), none⟩, ⟨some 21, .pu (.fa 1 (.t 20)), none⟩, ⟨some 22, .pu (.iaa 16 3 (.t 21) (.t 18)), none⟩, ⟨some 23, .pu (.iaa 1 16 (.t 22) (.t 19)), none⟩, ⟨none, .ef (.store 1 (.t 23) (.c .nsl)), none⟩]) (.seq (.region [⟨some 24, .pu (.mov (.t 6)), none⟩, ⟨some 25, .pu (.lens (.t 24)), none⟩, ⟨some 26, .pu (.mov (.c (.i .i64 0))), none⟩]) (.block 0 (.loop c87_1)))))
def ir87 : IFn := { ntmps := 34, results := rs87, body := c87 }
/-! cableway/wheel.width -/
def rs88 : List RV := [(.t 2)]
def c88 : IC := (.seq (.region [⟨some 2, .pu (.mov (.c (.i .i64 0))), none⟩]) (.seq (.region [⟨some 3, .pu (.mov (.t 0)), none⟩, ⟨some 4, .pu (.bin .mul (.c (.i .i64 4)) (.t 3)), none⟩, ⟨some 5, .pu (.bin .shl (.c (.i .i64 1)) (.t 4)), none⟩, ⟨some 2, .pu (.mov (.t 5)), none⟩]) .ret))
def ir88 : IFn := { ntmps := 6, results := rs88, body := c88 }
/-! cableway/ticks.Slot -/
def rs89 : List RV := [(.t 6)]
def c89_1 : IC := (.seq (.region [⟨some 13, .pu (.mov (.t 0)), none⟩, ⟨some 14, .ef (.call 69 [(.t 13)]), none⟩, ⟨some 15, .pu (.mov (.t 1)), none⟩, ⟨some 16, .pu (.bin .quo (.t 14) (.t 15)), none⟩, ⟨some 17, .pu (.mov (.t 2)), none⟩, ⟨some 18, .pu (.bin .rem (.t 16) (.t 17)), none⟩, ⟨some 6, .pu (.mov (.t 18)), none⟩]) .ret)
def c89_2 : IC := (.cond (.t 12) (.seq (.region [⟨some 6, .pu (.mov (.c (.i .i64 0))), none⟩]) .ret) .skip)
def o89_3 : List IOp := [⟨some 12, .pu (.pick (.t 9) (.c (.b true)) (.t 11)), none⟩] ++ []
def o89_4 : List IOp := [⟨some 10, .pu (.mov (.t 2)), some (9, false)⟩, ⟨some 11, .pu (.bin .lss (.t 10) (.c (.i .i64 1))), some (9, false)⟩] ++ o89_3
def o89_5 : List IOp := [⟨some 7, .pu (.mov (.t 1)), none⟩, ⟨some 8, .pu (.bin .lss (.t 7) (.c (.i .i64 1))), none⟩, ⟨some 9, .pu (.mov (.t 8)), none⟩] ++ o89_4
def c89 : IC := (.seq (.region [⟨some 6, .pu (.mov (.c (.i .i64 0))), none⟩]) (.seq (.seq (.region o89_5) c89_2) c89_1))
def ir89 : IFn := { ntmps := 19, results := rs89, body := c89 }
/-! (*cableway/wheel.Wheel).without -/
def rs90 : List RV := [(.t 6)]
def c90 : IC := (.seq (.region [⟨some 5, .al (.box (.t 2)), none⟩, ⟨some 6, .pu (.mov (.c .nsl)), none⟩]) (.seq (.region [⟨some 8, .pu (.mov (.t 1)), none⟩, ⟨some 9, .pu (.mkf 95 [(.t 5)]), none⟩, ⟨some 10, .ef (.call 94 [(.t 8), (.t 9)]), none⟩, ⟨some 7, .pu (.mov (.t 10)), none⟩]) (.seq (.region [⟨some 11, .pu (.mov (.t 0)), none⟩, ⟨some 12, .pu (.nilc (.t 11)), none⟩, ⟨some 13, .pu (.fa 51 (.t 12)), none⟩, ⟨some 14, .ld false 1 (.t 13), none⟩, ⟨some 15, .pu (.mov (.t 1)), none⟩, ⟨some 16, .pu (.lens (.t 15)), none⟩, ⟨some 17, .pu (.mov (.t 7)), none⟩, ⟨some 18, .pu (.lens (.t 17)), none⟩, ⟨some 19, .pu (.bin .sub (.t 16) (.t 18)), none⟩, ⟨some 20, .pu (.bin .sub (.t 14) (.t 19)), none⟩, ⟨some 21, .pu (.nilc (.t 11)), none⟩, ⟨some 22, .pu (.fa 51 (.t 21)), none⟩, ⟨none, .ef (.store 1 (.t 22) (.t 20)), none⟩]) (.seq (.region [⟨some 23, .pu (.mov (.t 7)), none⟩, ⟨some 6, .pu (.mov (.t 23)), none⟩]) .ret))))
def ir90 : IFn := { ntmps := 24, results := rs90, body := c90 }
/-! cableway/wheel.level -/
def rs91 : List RV := [(.t 2)]
def c91_1 : IC := (.seq (.region [⟨some 15, .pu (.mov (.t 3)), none⟩, ⟨some 2, .pu (.mov (.t 15)), none⟩]) .ret)
def c91_3 : IC := (.block 1 (.region [⟨some 13, .pu (.mov (.t 3)), none⟩, ⟨some 14, .pu (.bin .add (.t 13) (.c (.i .i64 1))), none⟩, ⟨some 3, .pu (.mov (.t 14)), none⟩]))
def c91_4 : IC := (.cond (.t 12) .skip (.exit 0))
def o91_5 : List IOp := [⟨some 12, .pu (.pick (.t 6) (.t 11) (.c (.b false))), none⟩] ++ []
def o91_6 : List IOp := [⟨some 7, .pu (.mov (.t 0)), some (6, true)⟩, ⟨some 8, .pu (.mov (.t 3)), some (6, true)⟩, ⟨some 9, .pu (.bin .add (.t 8) (.c (.i .i64 1))), some (6, true)⟩, ⟨some 10, .ef (.call 88 [(.t 9)]), some (6, true)⟩, ⟨some 11, .pu (.bin .geq (.t 7) (.t 10)), some (6, true)⟩] ++ o91_5
def o91_7 : List IOp := [⟨some 4, .pu (.mov (.t 3)), none⟩, ⟨some 5, .pu (.bin .lss (.t 4) (.c (.i .i64 3))), none⟩, ⟨some 6, .pu (.mov (.t 5)), none⟩] ++ o91_6
def c91_2 : IC := (.seq (.seq (.region o91_7) c91_4) c91_3)
def c91 : IC := (.seq (.region [⟨some 2, .pu (.mov (.c (.i .i64 0))), none⟩]) (.seq (.region [⟨some 3, .pu (.mov (.c (.i .i64 0))), none⟩]) (.seq (.block 0 (.loop c91_2)) c91_1)))
def ir91 : IFn := { ntmps := 16, results := rs91, body := c91 }
/-! slices.Index[[]int,int] -/
def rs93 : List RV := [(.t 4)]
def c93_1 : IC := (.seq (.region [⟨some 4, .pu (.mov (.c (.i .i64 (-1)))), none⟩]) .ret)
def c93_2 : IC := (.seq (.region [⟨some 9, .pu (.bin .lss (.t 8) (.t 7)), none⟩]) (.seq (.cond (.t 9) .skip (.exit 0)) (.seq (.block 1 (.seq (.region [⟨some 10, .pu (.mov (.t 8)), none⟩, ⟨some 5, .pu (.mov (.t 10)), none⟩]) (.seq (.region [⟨some 11, .pu (.mov (.t 1)), none⟩, ⟨some 12, .pu (.mov (.t 0)), none⟩, ⟨some 13, .pu (.mov (.t 5)), none⟩, ⟨some 14, .pu (.ia 1 (.t 12) (.t 13)), none⟩, ⟨some 15, .ld false 1 (.t 14), none⟩, ⟨some 16, .pu (.bin .eql (.t 11) (.t 15)), none⟩]) (.cond (.t 16) (.seq (.region [⟨some 17, .pu (.mov (.t 5)), none⟩, ⟨some 4, .pu (.mov (.t 17)), none⟩]) .ret) .skip)))) (.region [⟨some 18, .pu (.bin .add (.t 8) (.c (.i .i64 1))), none⟩, ⟨some 8, .pu (.mov (.t 18)), none⟩]))))
def c93 : IC := (.seq (.region [⟨some 4, .pu (.mov (.c (.i .i64 0))), none⟩]) (.seq (.seq (.region [⟨some 6, .pu (.mov (.t 0)), none⟩, ⟨some 7, .pu (.lens (.t 6)), none⟩, ⟨some 8, .pu (.mov (.c (.i .i64 0))), none⟩]) (.block 0 (.loop c93_2))) c93_1))
def ir93 : IFn := { ntmps := 19, results := rs93, body := c93 }
/-! slices.DeleteFunc[[]cableway/wheel.entry,cableway/wheel.entry] -/
def rs94 : List RV := [(.t 4)]
def c94_1 : IC := (.seq (.region [⟨some 36, .pu (.mov (.t 0)), none⟩, ⟨some 37, .pu (.mov (.t 5)), none⟩, ⟨some 38, .pu (.sls 6 (.t 36) (some (.t 37)) none none), none⟩, ⟨none, .ef (.clear [(.i .i64 0), (.i .i64 0), (.i .i64 0), (.i .i64 0), (.i .i64 0), (.i .i64 0)] (.t 38)), none⟩]) (.seq (.region [⟨some 39, .pu (.mov (.t 0)), none⟩, ⟨some 40, .pu (.mov (.t 5)), none⟩, ⟨some 41, .pu (.sls 6 (.t 39) none (some (.t 40)) none), none⟩, ⟨some 4, .pu (.mov (.t 41)), none⟩]) .ret))
def c94_3 : IC := (.region [⟨some 20, .pu (.mov (.t 6)), none⟩, ⟨some 21, .pu (.bin .add (.t 20) (.c (.i .i64 1))), none⟩, ⟨some 6, .pu (.mov (.t 21)), none⟩])
def c94_2 : IC := (.seq (.seq (.region [⟨some 16, .pu (.mov (.t 6)), none⟩, ⟨some 17, .pu (.mov (.t 0)), none⟩, ⟨some 18, .pu (.lens (.t 17)), none⟩, ⟨some 19, .pu (.bin .lss (.t 16) (.t 18)), none⟩]) (.cond (.t 19) .skip (.exit 0))) (.seq (.block 1 (.seq (.region [⟨some 22, .pu (.mov (.t 0)), none⟩, ⟨some 23, .pu (.mov (.t 6)), none⟩, ⟨some 24, .pu (.ia 6 (.t 22) (.t 23)), none⟩, ⟨some 25, .ld true 6 (.t 24), none⟩, ⟨some 7, .al (.zero [(.i .i64 0), (.i .i64 0), (.i .i64 0), (.i .i64 0), (.i .i64 0), (.i .i64 0)]), none⟩, ⟨none, .ef (.store 6 (.t 7) (.t 25)), none⟩]) (.seq (.region [⟨some 26, .pu (.mov (.t 1)), none⟩, ⟨some 27, .ld true 6 (.t 7), none⟩, ⟨some 28, .ef (.callv (.t 26) [(.t 27)]), none⟩, ⟨some 29, .pu (.un .not (.t 28)), none⟩]) (.cond (.t 29) (.seq (.region [⟨some 30, .pu (.mov (.t 0)), none⟩, ⟨some 31, .pu (.mov (.t 5)), none⟩, ⟨some 32, .ld true 6 (.t 7), none⟩, ⟨some 33, .pu (.ia 6 (.t 30) (.t 31)), none⟩, ⟨none, .ef (.store 6 (.t 33) (.t 32)), none⟩]) (.region [⟨some 34, .pu (.mov (.t 5)), none⟩, ⟨some 35, .pu (.bin .add (.t 34) (.c (.i .i64 1))), none⟩, ⟨some 5, .pu (.mov (.t 35)), none⟩])) .skip)))) c94_3))
def c94 : IC := (.seq (.region [⟨some 4, .pu (.mov (.c .nsl)), none⟩]) (.seq (.region [⟨some 8, .pu (.mov (.t 0)), none⟩, ⟨some 9, .pu (.mov (.t 1)), none⟩, ⟨some 10, .ef (.call 98 [(.t 8), (.t 9)]), none⟩, ⟨some 5, .pu (.mov (.t 10)), none⟩]) (.seq (.seq (.region [⟨some 11, .pu (.mov (.t 5)), none⟩, ⟨some 12, .pu (.bin .eql (.t 11) (.c (.i .i64 (-1)))), none⟩]) (.cond (.t 12) (.seq (.region [⟨some 13, .pu (.mov (.t 0)), none⟩, ⟨some 4, .pu (.mov (.t 13)), none⟩]) .ret) .skip)) (.seq (.seq (.region [⟨some 14, .pu (.mov (.t 5)), none⟩, ⟨some 15, .pu (.bin .add (.t 14) (.c (.i .i64 1))), none⟩, ⟨some 6, .pu (.mov (.t 15)), none⟩]) (.block 0 (.loop c94_2))) c94_1))))
def ir94 : IFn := { ntmps := 42, results := rs94, body := c94 }
/-! slices.IndexFunc[[]cableway/wheel.entry,cableway/wheel.entry] -/
def rs98 : List RV := [(.t 4)]
def c98_1 : IC := (.seq (.region [⟨some 4, .pu (.mov (.c (.i .i64 (-1)))), none⟩]) .ret)
def c98_2 : IC := (.seq (.region [⟨some 9, .pu (.bin .lss (.t 8) (.t 7)), none⟩]) (.seq (.cond (.t 9) .skip (.exit 0)) (.seq (.block 1 (.seq (.region [⟨some 10, .pu (.mov (.t 8)), none⟩, ⟨some 5, .pu (.mov (.t 10)), none⟩]) (.seq (.region [⟨some 11, .pu (.mov (.t 1)), none⟩, ⟨some 12, .pu (.mov (.t 0)), none⟩, ⟨some 13, .pu (.mov (.t 5)), none⟩, ⟨some 14, .pu (.ia 6 (.t 12) (.t 13)), none⟩, ⟨some 15, .ld true 6 (.t 14), none⟩, ⟨some 16, .ef (.callv (.t 11) [(.t 15)]), none⟩]) (.cond (.t 16) (.seq (.region [⟨some 17, .pu (.mov (.t 5)), none⟩, ⟨some 4, .pu (.mov (.t 17)), none⟩]) .ret) .skip)))) (.region [⟨some 18, .pu (.bin .add (.t 8) (.c (.i .i64 1))), none⟩, ⟨some 8, .pu (.mov (.t 18)), none⟩]))))
def c98 : IC := (.seq (.region [⟨some 4, .pu (.mov (.c (.i .i64 0))), none⟩]) (.seq (.seq (.region [⟨some 6, .pu (.mov (.t 0)), none⟩, ⟨some 7, .pu (.lens (.t 6)), none⟩, ⟨some 8, .pu (.mov (.c (.i .i64 0))), none⟩]) (.block 0 (.loop c98_2))) c98_1))
def ir98 : IFn := { ntmps := 19, results := rs98, body := c98 }
def tree : Tr IFn := (.n (.n (.n (.n (.n (.n (.n .l (some ir63) .l) (some ir31) .l) (some ir15) (.n (.n .l (some ir79) .l) (some ir47) .l)) (some ir7) (.n (.n (.n .l (some ir71) .l) (some ir39) .l) (some ir23) (.n (.n .l (some ir87) .l) (some ir55) .l))) none (.n (.n (.n .l (some ir35) .l) (some ir19) (.n .l (some ir51) .l)) (some ir11) (.n (.n .l (some ir43) .l) (some ir27) (.n (.n .l (some ir91) .l) (some ir59) .l)))) none (.n (.n (.n (.n (.n .l (some ir65) .l) (some ir33) .l) (some ir17) (.n (.n .l (some ir81) .l) (some ir49) .l)) (some ir9) (.n (.n (.n .l (some ir73) .l) (some ir41) .l) (some ir25) (.n (.n .l (some ir89) .l) (some ir57) .l))) (some ir5) (.n (.n (.n (.n .l (some ir69) .l) (some ir37) .l) (some ir21) (.n (.n .l (some ir85) .l) (some ir53) .l)) (some ir13) (.n (.n (.n .l (some ir77) .l) (some ir45) .l) (some ir29) (.n (.n .l (some ir93) .l) (some ir61) .l))))) none (.n (.n (.n (.n (.n (.n .l (some ir64) .l) (some ir32) .l) (some ir16) (.n (.n .l (some ir80) .l) (some ir48) .l)) none (.n (.n (.n .l (some ir72) .l) (some ir40) .l) (some ir24) (.n (.n .l (some ir88) .l) (some ir56) .l))) none (.n (.n (.n .l (some ir36) .l) (some ir20) (.n .l (some ir52) .l)) (some ir12) (.n (.n (.n .l (some ir76) .l) (some ir44) .l) (some ir28) .l))) none (.n (.n (.n (.n .l (some ir34) (.n .l (some ir98) .l)) (some ir18) (.n (.n .l (some ir82) .l) (some ir50) .l)) (some ir10) (.n (.n (.n .l (some ir74) .l) (some ir42) .l) (some ir26) (.n (.n .l (some ir90) .l) (some ir58) .l))) none (.n (.n (.n (.n .l (some ir70) .l) (some ir38) .l) (some ir22) (.n .l (some ir54) .l)) (some ir14) (.n (.n (.n .l (some ir78) .l) (some ir46) .l) (some ir30) (.n (.n .l (some ir94) .l) (some ir62) .l))))))
def IP (f : Nat) : Option IFn := tree.get f
theorem ok5 : ∃ fn, Tryd.prog.funcs[5]? = some fn ∧ trFn Tryd.prog 11 fn = some ir5 := ⟨_, Tryd.func5, by kernel_rfl⟩
theorem ok7 : ∃ fn, Tryd.prog.funcs[7]? = some fn ∧ trFn Tryd.prog 11 fn = some ir7 := ⟨_, Tryd.func7, by kernel_rfl⟩
theorem ok9 : ∃ fn, Tryd.prog.funcs[9]? = some fn ∧ trFn Tryd.prog 11 fn = some ir9 := ⟨_, Tryd.func9, by kernel_rfl⟩
theorem ok10 : ∃ fn, Tryd.prog.funcs[10]? = some fn ∧ trFn Tryd.prog 11 fn = some ir10 := ⟨_, Tryd.func10, by kernel_rfl⟩
theorem ok11 : ∃ fn, Tryd.prog.funcs[11]? = some fn ∧ trFn Tryd.prog 11 fn = some ir11 := ⟨_, Tryd.func11, by kernel_rfl⟩
theorem ok12 : ∃ fn, Tryd.prog.funcs[12]? = some fn ∧ trFn Tryd.prog 11 fn = some ir12 := ⟨_, Tryd.func12, by kernel_rfl⟩
theorem ok13 : ∃ fn, Tryd.prog.funcs[13]? = some fn ∧ trFn Tryd.prog 11 fn = some ir13 := ⟨_, Tryd.func13, by kernel_rfl⟩
theorem ok14 : ∃ fn, Tryd.prog.funcs[14]? = some fn ∧ trFn Tryd.prog 11 fn = some ir14 := ⟨_, Tryd.func14, by kernel_rfl⟩
theorem ok15 : ∃ fn, Tryd.prog.funcs[15]? = some fn ∧ trFn Tryd.prog 11 fn = some ir15 := ⟨_, Tryd.func15, by kernel_rfl⟩
theorem ok16 : ∃ fn, Tryd.prog.funcs[16]? = some fn ∧ trFn Tryd.prog 11 fn = some ir16 := ⟨_, Tryd.func16, by kernel_rfl⟩
theorem ok17 : ∃ fn, Tryd.prog.funcs[17]? = some fn ∧ trFn Tryd.prog 11 fn = some ir17 := ⟨_, Tryd.func17, by kernel_rfl⟩
theorem ok18 : ∃ fn, Tryd.prog.funcs[18]? = some fn ∧ trFn Tryd.prog 11 fn = some ir18 := ⟨_, Tryd.func18, by kernel_rfl⟩
theorem ok19 : ∃ fn, Tryd.prog.funcs[19]? = some fn ∧ trFn Tryd.prog 11 fn = some ir19 := ⟨_, Tryd.func19, by kernel_rfl⟩
theorem ok20 : ∃ fn, Tryd.prog.funcs[20]? = some fn ∧ trFn Tryd.prog 11 fn = some ir20 := ⟨_, Tryd.func20, by kernel_rfl⟩
theorem ok21 : ∃ fn, Tryd.prog.funcs[21]? = some fn ∧ trFn Tryd.prog 11 fn = some ir21 := ⟨_, Tryd.func21, by kernel_rfl⟩
theorem ok22 : ∃ fn, Tryd.prog.funcs[22]? = some fn ∧ trFn Tryd.prog 11 fn = some ir22 := ⟨_, Tryd.func22, by kernel_rfl⟩
theorem ok23 : ∃ fn, Tryd.prog.funcs[23]? = some fn ∧ trFn Tryd.prog 11 fn = some ir23 := ⟨_, Tryd.func23, by kernel_rfl⟩
theorem ok24 : ∃ fn, Tryd.prog.funcs[24]? = some fn ∧ trFn Tryd.prog 11 fn = some ir24 := ⟨_, Tryd.func24, by kernel_rfl⟩
theorem ok25 : ∃ fn, Tryd.prog.funcs[25]? = some fn ∧ trFn Tryd.prog 11 fn = some ir25 := ⟨_, Tryd.func25, by kernel_rfl⟩
theorem ok26 : ∃ fn, Tryd.prog.funcs[26]? = some fn ∧ trFn Tryd.prog 11 fn = some ir26 := ⟨_, Tryd.func26, by kernel_rfl⟩
theorem ok27 : ∃ fn, Tryd.prog.funcs[27]? = some fn ∧ trFn Tryd.prog 11 fn = some ir27 := ⟨_, Tryd.func27, by kernel_rfl⟩
theorem ok28 : ∃ fn, Tryd.prog.funcs[28]? = some fn ∧ trFn Tryd.prog 11 fn = some ir28 := ⟨_, Tryd.func28, by kernel_rfl⟩
theorem ok29 : ∃ fn, Tryd.prog.funcs[29]? = some fn ∧ trFn Tryd.prog 11 fn = some ir29 := ⟨_, Tryd.func29, by kernel_rfl⟩
theorem ok30 : ∃ fn, Tryd.prog.funcs[30]? = some fn ∧ trFn Tryd.prog 11 fn = some ir30 := ⟨_, Tryd.func30, by kernel_rfl⟩
theorem ok31 : ∃ fn, Tryd.prog.funcs[31]? = some fn ∧ trFn Tryd.prog 11 fn = some ir31 := ⟨_, Tryd.func31, by kernel_rfl⟩
theorem ok32 : ∃ fn, Tryd.prog.funcs[32]? = some fn ∧ trFn Tryd.prog 11 fn = some ir32 := ⟨_, Tryd.func32, by kernel_rfl⟩
theorem ok33 : ∃ fn, Tryd.prog.funcs[33]? = some fn ∧ trFn Tryd.prog 11 fn = some ir33 := ⟨_, Tryd.func33, by kernel_rfl⟩
theorem ok34 : ∃ fn, Tryd.prog.funcs[34]? = some fn ∧ trFn Tryd.prog 11 fn = some ir34 := ⟨_, Tryd.func34, by kernel_rfl⟩
theorem ok35 : ∃ fn, Tryd.prog.funcs[35]? = some fn ∧ trFn Tryd.prog 11 fn = some ir35 := ⟨_, Tryd.func35, by kernel_rfl⟩
theorem ok36 : ∃ fn, Tryd.prog.funcs[36]? = some fn ∧ trFn Tryd.prog 11 fn = some ir36 := ⟨_, Tryd.func36, by kernel_rfl⟩
theorem ok37 : ∃ fn, Tryd.prog.funcs[37]? = some fn ∧ trFn Tryd.prog 11 fn = some ir37 := ⟨_, Tryd.func37, by kernel_rfl⟩
theorem ok38 : ∃ fn, Tryd.prog.funcs[38]? = some fn ∧ trFn Tryd.prog 11 fn = some ir38 := ⟨_, Tryd.func38, by kernel_rfl⟩
theorem ok39 : ∃ fn, Tryd.prog.funcs[39]? = some fn ∧ trFn Tryd.prog 11 fn = some ir39 := ⟨_, Tryd.func39, by kernel_rfl⟩
theorem ok40 : ∃ fn, Tryd.prog.funcs[40]? = some fn ∧ trFn Tryd.prog 11 fn = some ir40 := ⟨_, Tryd.func40, by kernel_rfl⟩
theorem ok41 : ∃ fn, Tryd.prog.funcs[41]? = some fn ∧ trFn Tryd.prog 11 fn = some ir41 := ⟨_, Tryd.func41, by kernel_rfl⟩
theorem ok42 : ∃ fn, Tryd.prog.funcs[42]? = some fn ∧ trFn Tryd.prog 11 fn = some ir42 := ⟨_, Tryd.func42, by kernel_rfl⟩
theorem ok43 : ∃ fn, Tryd.prog.funcs[43]? = some fn ∧ trFn Tryd.prog 11 fn = some ir43 := ⟨_, Tryd.func43, by kernel_rfl⟩
theorem ok44 : ∃ fn, Tryd.prog.funcs[44]? = some fn ∧ trFn Tryd.prog 11 fn = some ir44 := ⟨_, Tryd.func44, by kernel_rfl⟩
theorem ok45 : ∃ fn, Tryd.prog.funcs[45]? = some fn ∧ trFn Tryd.prog 11 fn = some ir45 := ⟨_, Tryd.func45, by kernel_rfl⟩
theorem ok46 : ∃ fn, Tryd.prog.funcs[46]? = some fn ∧ trFn Tryd.prog 11 fn = some ir46 := ⟨_, Tryd.func46, by kernel_rfl⟩
theorem ok47 : ∃ fn, Tryd.prog.funcs[47]? = some fn ∧ trFn Tryd.prog 11 fn = some ir47 := ⟨_, Tryd.func47, by kernel_rfl⟩
theorem ok48 : ∃ fn, Tryd.prog.funcs[48]? = some fn ∧ trFn Tryd.prog 11 fn = some ir48 := ⟨_, Tryd.func48, by kernel_rfl⟩
theorem ok49 : ∃ fn, Tryd.prog.funcs[49]? = some fn ∧ trFn Tryd.prog 11 fn = some ir49 := ⟨_, Tryd.func49, by kernel_rfl⟩
theorem ok50 : ∃ fn, Tryd.prog.funcs[50]? = some fn ∧ trFn Tryd.prog 11 fn = some ir50 := ⟨_, Tryd.func50, by kernel_rfl⟩
theorem ok51 : ∃ fn, Tryd.prog.funcs[51]? = some fn ∧ trFn Tryd.prog 11 fn = some ir51 := ⟨_, Tryd.func51, by kernel_rfl⟩
theorem ok52 : ∃ fn, Tryd.prog.funcs[52]? = some fn ∧ trFn Tryd.prog 11 fn = some ir52 := ⟨_, Tryd.func52, by kernel_rfl⟩
theorem ok53 : ∃ fn, Tryd.prog.funcs[53]? = some fn ∧ trFn Tryd.prog 11 fn = some ir53 := ⟨_, Tryd.func53, by kernel_rfl⟩
theorem ok54 : ∃ fn, Tryd.prog.funcs[54]? = some fn ∧ trFn Tryd.prog 11 fn = some ir54 := ⟨_, Tryd.func54, by kernel_rfl⟩
theorem ok55 : ∃ fn, Tryd.prog.funcs[55]? = some fn ∧ trFn Tryd.prog 11 fn = some ir55 := ⟨_, Tryd.func55, by kernel_rfl⟩
theorem ok56 : ∃ fn, Tryd.prog.funcs[56]? = some fn ∧ trFn Tryd.prog 11 fn = some ir56 := ⟨_, Tryd.func56, by kernel_rfl⟩
theorem ok57 : ∃ fn, Tryd.prog.funcs[57]? = some fn ∧ trFn Tryd.prog 11 fn = some ir57 := ⟨_, Tryd.func57, by kernel_rfl⟩
theorem ok58 : ∃ fn, Tryd.prog.funcs[58]? = some fn ∧ trFn Tryd.prog 11 fn = some ir58 := ⟨_, Tryd.func58, by kernel_rfl⟩
theorem ok59 : ∃ fn, Tryd.prog.funcs[59]? = some fn ∧ trFn Tryd.prog 11 fn = some ir59 := ⟨_, Tryd.func59, by kernel_rfl⟩
theorem ok61 : ∃ fn, Tryd.prog.funcs[61]? = some fn ∧ trFn Tryd.prog 11 fn = some ir61 := ⟨_, Tryd.func61, by kernel_rfl⟩
theorem ok62 : ∃ fn, Tryd.prog.funcs[62]? = some fn ∧ trFn Tryd.prog 11 fn = some ir62 := ⟨_, Tryd.func62, by kernel_rfl⟩
theorem ok63 : ∃ fn, Tryd.prog.funcs[63]? = some fn ∧ trFn Tryd.prog 11 fn = some ir63 := ⟨_, Tryd.func63, by kernel_rfl⟩
theorem ok64 : ∃ fn, Tryd.prog.funcs[64]? = some fn ∧ trFn Tryd.prog 11 fn = some ir64 := ⟨_, Tryd.func64, by kernel_rfl⟩
theorem ok65 : ∃ fn, Tryd.prog.funcs[65]? = some fn ∧ trFn Tryd.prog 11 fn = some ir65 := ⟨_, Tryd.func65, by kernel_rfl⟩
theorem ok69 : ∃ fn, Tryd.prog.funcs[69]? = some fn ∧ trFn Tryd.prog 11 fn = some ir69 := ⟨_, Tryd.func69, by kernel_rfl⟩
theorem ok70 : ∃ fn, Tryd.prog.funcs[70]? = some fn ∧ trFn Tryd.prog 11 fn = some ir70 := ⟨_, Tryd.func70, by kernel_rfl⟩
theorem ok71 : ∃ fn, Tryd.prog.funcs[71]? = some fn ∧ trFn Tryd.prog 11 fn = some ir71 := ⟨_, Tryd.func71, by kernel_rfl⟩
theorem ok72 : ∃ fn, Tryd.prog.funcs[72]? = some fn ∧ trFn Tryd.prog 11 fn = some ir72 := ⟨_, Tryd.func72, by kernel_rfl⟩
theorem ok73 : ∃ fn, Tryd.prog.funcs[73]? = some fn ∧ trFn Tryd.prog 11 fn = some ir73 := ⟨_, Tryd.func73, by kernel_rfl⟩
theorem ok74 : ∃ fn, Tryd.prog.funcs[74]? = some fn ∧ trFn Tryd.prog 11 fn = some ir74 := ⟨_, Tryd.func74, by kernel_rfl⟩
theorem ok76 : ∃ fn, Tryd.prog.funcs[76]? = some fn ∧ trFn Tryd.prog 11 fn = some ir76 := ⟨_, Tryd.func76, by kernel_rfl⟩
theorem ok77 : ∃ fn, Tryd.prog.funcs[77]? = some fn ∧ trFn Tryd.prog 11 fn = some ir77 := ⟨_, Tryd.func77, by kernel_rfl⟩
theorem ok78 : ∃ fn, Tryd.prog.funcs[78]? = some fn ∧ trFn Tryd.prog 11 fn = some ir78 := ⟨_, Tryd.func78, by kernel_rfl⟩
theorem ok79 : ∃ fn, Tryd.prog.funcs[79]? = some fn ∧ trFn Tryd.prog 11 fn = some ir79 := ⟨_, Tryd.func79, by kernel_rfl⟩
theorem ok80 : ∃ fn, Tryd.prog.funcs[80]? = some fn ∧ trFn Tryd.prog 11 fn = some ir80 := ⟨_, Tryd.func80, by kernel_rfl⟩
theorem ok81 : ∃ fn, Tryd.prog.funcs[81]? = some fn ∧ trFn Tryd.prog 11 fn = some ir81 := ⟨_, Tryd.func81, by kernel_rfl⟩
theorem ok82 : ∃ fn, Tryd.prog.funcs[82]? = some fn ∧ trFn Tryd.prog 11 fn = some ir82 := ⟨_, Tryd.func82, by kernel_rfl⟩
theorem ok85 : ∃ fn, Tryd.prog.funcs[85]? = some fn ∧ trFn Tryd.prog 11 fn = some ir85 := ⟨_, Tryd.func85, by kernel_rfl⟩
theorem ok87 : ∃ fn, Tryd.prog.funcs[87]? = some fn ∧ trFn Tryd.prog 11 fn = some ir87 := ⟨_, Tryd.func87, by kernel_rfl⟩
theorem ok88 : ∃ fn, Tryd.prog.funcs[88]? = some fn ∧ trFn Tryd.prog 11 fn = some ir88 := ⟨_, Tryd.func88, by kernel_rfl⟩
theorem ok89 : ∃ fn, Tryd.prog.funcs[89]? = some fn ∧ trFn Tryd.prog 11 fn = some ir89 := ⟨_, Tryd.func89, by kernel_rfl⟩
theorem ok90 : ∃ fn, Tryd.prog.funcs[90]? = some fn ∧ trFn Tryd.prog 11 fn = some ir90 := ⟨_, Tryd.func90, by kernel_rfl⟩
theorem ok91 : ∃ fn, Tryd.prog.funcs[91]? = some fn ∧ trFn Tryd.prog 11 fn = some ir91 := ⟨_, Tryd.func91, by kernel_rfl⟩
theorem ok93 : ∃ fn, Tryd.prog.funcs[93]? = some fn ∧ trFn Tryd.prog 11 fn = some ir93 := ⟨_, Tryd.func93, by kernel_rfl⟩
theorem ok94 : ∃ fn, Tryd.prog.funcs[94]? = some fn ∧ trFn Tryd.prog 11 fn = some ir94 := ⟨_, Tryd.func94, by kernel_rfl⟩
theorem ok98 : ∃ fn, Tryd.prog.funcs[98]? = some fn ∧ trFn Tryd.prog 11 fn = some ir98 := ⟨_, Tryd.func98, by kernel_rfl⟩
theorem all : tree.All (fun f ir => ∃ fn, Tryd.prog.funcs[f]? = some fn ∧ trFn Tryd.prog 11 fn = some ir) 1 0 :=
  ⟨(fun _ h => by cases h), ⟨(fun _ h => by cases h), ⟨(fun _ h => by cases h), ⟨(fun _ h => by cases h; exact ok7), ⟨(fun _ h => by cases h; exact ok15), ⟨(fun _ h => by cases h; exact ok31), ⟨(fun _ h => by cases h; exact ok63), trivial, trivial⟩, trivial⟩, ⟨(fun _ h => by cases h; exact ok47), ⟨(fun _ h => by cases h; exact ok79), trivial, trivial⟩, trivial⟩⟩, ⟨(fun _ h => by cases h; exact ok23), ⟨(fun _ h => by cases h; exact ok39), ⟨(fun _ h => by cases h; exact ok71), trivial, trivial⟩, trivial⟩, ⟨(fun _ h => by cases h; exact ok55), ⟨(fun _ h => by cases h; exact ok87), trivial, trivial⟩, trivial⟩⟩⟩, ⟨(fun _ h => by cases h; exact ok11), ⟨(fun _ h => by cases h; exact ok19), ⟨(fun _ h => by cases h; exact ok35), trivial, trivial⟩, ⟨(fun _ h => by cases h; exact ok51), trivial, trivial⟩⟩, ⟨(fun _ h => by cases h; exact ok27), ⟨(fun _ h => by cases h; exact ok43), trivial, trivial⟩, ⟨(fun _ h => by cases h; exact ok59), ⟨(fun _ h => by cases h; exact ok91), trivial, trivial⟩, trivial⟩⟩⟩⟩, ⟨(fun _ h => by cases h; exact ok5), ⟨(fun _ h => by cases h; exact ok9), ⟨(fun _ h => by cases h; exact ok17), ⟨(fun _ h => by cases h; exact ok33), ⟨(fun _ h => by cases h; exact ok65), trivial, trivial⟩, trivial⟩, ⟨(fun _ h => by cases h; exact ok49), ⟨(fun _ h => by cases h; exact ok81), trivial, trivial⟩, trivial⟩⟩, ⟨(fun _ h => by cases h; exact ok25), ⟨(fun _ h => by cases h; exact ok41), ⟨(fun _ h => by cases h; exact ok73), trivial, trivial⟩, trivial⟩, ⟨(fun _ h => by cases h; exact ok57), ⟨(fun _ h => by cases h; exact ok89), trivial, trivial⟩, trivial⟩⟩⟩, ⟨(fun _ h => by cases h; exact ok13), ⟨(fun _ h => by cases h; exact ok21), ⟨(fun _ h => by cases h; exact ok37), ⟨(fun _ h => by cases h; exact ok69), trivial, trivial⟩, trivial⟩, ⟨(fun _ h => by cases h; exact ok53), ⟨(fun _ h => by cases h; exact ok85), trivial, trivial⟩, trivial⟩⟩, ⟨(fun _ h => by cases h; exact ok29), ⟨(fun _ h => by cases h; exact ok45), ⟨(fun _ h => by cases h; exact ok77), trivial, trivial⟩, trivial⟩, ⟨(fun _ h => by cases h; exact ok61), ⟨(fun _ h => by cases h; exact ok93), trivial, trivial⟩, trivial⟩⟩⟩⟩⟩, ⟨(fun _ h => by cases h), ⟨(fun _ h => by cases h), ⟨(fun _ h => by cases h), ⟨(fun _ h => by cases h; exact ok16), ⟨(fun _ h => by cases h; exact ok32), ⟨(fun _ h => by cases h; exact ok64), trivial, trivial⟩, trivial⟩, ⟨(fun _ h => by cases h; exact ok48), ⟨(fun _ h => by cases h; exact ok80), trivial, trivial⟩, trivial⟩⟩, ⟨(fun _ h => by cases h; exact ok24), ⟨(fun _ h => by cases h; exact ok40), ⟨(fun _ h => by cases h; exact ok72), trivial, trivial⟩, trivial⟩, ⟨(fun _ h => by cases h; exact ok56), ⟨(fun _ h => by cases h; exact ok88), trivial, trivial⟩, trivial⟩⟩⟩, ⟨(fun _ h => by cases h; exact ok12), ⟨(fun _ h => by cases h; exact ok20), ⟨(fun _ h => by cases h; exact ok36), trivial, trivial⟩, ⟨(fun _ h => by cases h; exact ok52), trivial, trivial⟩⟩, ⟨(fun _ h => by cases h; exact ok28), ⟨(fun _ h => by cases h; exact ok44), ⟨(fun _ h => by cases h; exact ok76), trivial, trivial⟩, trivial⟩, trivial⟩⟩⟩, ⟨(fun _ h => by cases h), ⟨(fun _ h => by cases h; exact ok10), ⟨(fun _ h => by cases h; exact ok18), ⟨(fun _ h => by cases h; exact ok34), trivial, ⟨(fun _ h => by cases h; exact ok98), trivial, trivial⟩⟩, ⟨(fun _ h => by cases h; exact ok50), ⟨(fun _ h => by cases h; exact ok82), trivial, trivial⟩, trivial⟩⟩, ⟨(fun _ h => by cases h; exact ok26), ⟨(fun _ h => by cases h; exact ok42), ⟨(fun _ h => by cases h; exact ok74), trivial, trivial⟩, trivial⟩, ⟨(fun _ h => by cases h; exact ok58), ⟨(fun _ h => by cases h; exact ok90), trivial, trivial⟩, trivial⟩⟩⟩, ⟨(fun _ h => by cases h; exact ok14), ⟨(fun _ h => by cases h; exact ok22), ⟨(fun _ h => by cases h; exact ok38), ⟨(fun _ h => by cases h; exact ok70), trivial, trivial⟩, trivial⟩, ⟨(fun _ h => by cases h; exact ok54), trivial, trivial⟩⟩, ⟨(fun _ h => by cases h; exact ok30), ⟨(fun _ h => by cases h; exact ok46), ⟨(fun _ h => by cases h; exact ok78), trivial, trivial⟩, trivial⟩, ⟨(fun _ h => by cases h; exact ok62), ⟨(fun _ h => by cases h; exact ok94), trivial, trivial⟩, trivial⟩⟩⟩⟩⟩⟩
theorem bare : @AllBare ⟨11⟩ IP := @allBare ⟨11⟩ tree (by kernel_rfl)
theorem prog : ProgOK Tryd.prog 11 IP := progOK_of_tree (by kernel_rfl) all
theorem ip5 : IP 5 = some ir5 := rfl
def Q5 [q : Hid (V → H → Prop)] : X → E → H → Prop := Qr rs5 q.un
def S5_10 [q : Hid (V → H → Prop)] : E → H → Prop := ((Qx (den IP .ret (@Q5 q)) (@Q5 q)) X.normal)
def K5_10 (x30 x42 : V) (h : H) [q : Hid (V → H → Prop)] : Prop := @Bnd V (vPick x30 x42 (.b false)) ⟨fun v1 => @Hid.un (V → H → Prop) q v1 h⟩
def J5_10 [q : Hid (V → H → Prop)] : E → H → Prop := fun e h => @K5_10 (e 30) (e 42) h q
theorem p5_10 [q : Hid (V → H → Prop)] : denOps IP o5_1 (@S5_10 q) = (@J5_10 q) := by
  refine Eq.trans (app_eq rfl rfl) ?_
  kernel_rfl
def S5_11 [q : Hid (V → H → Prop)] : E → H → Prop := ((Qx (den IP .ret (@Q5 q)) (@Q5 q)) X.normal)
def K5_11 (x30 x35 x38 x40 : V) (h : H) [q : Hid (V → H → Prop)] : Prop := @Grd x30 true ⟨@Bnd V (vPick x38 x40 (.b false)) ⟨fun v1 => @Bnd V (vEqz false .b x35 v1) ⟨fun v2 => @K5_10 x30 v2 h q⟩⟩⟩ ⟨@K5_10 x30 undefV h q⟩
def J5_11 [q : Hid (V → H → Prop)] : E → H → Prop := fun e h => @K5_11 (e 30) (e 35) (e 38) (e 40) h q
theorem p5_11 [q : Hid (V → H → Prop)] : denOps IP o5_2 (@S5_11 q) = (@J5_11 q) := by
  refine Eq.trans (grp_eq2 30 true rfl (@p5_10 q) rfl) ?_
  kernel_rfl
def S5_12 [q : Hid (V → H → Prop)] : E → H → Prop := ((Qx (den IP .ret (@Q5 q)) (@Q5 q)) X.normal)
def K5_12 (x7 x30 x35 x38 : V) (h : H) [q : Hid (V → H → Prop)] : Prop := @Grd x38 true ⟨@Bnd V (bin .leq x7 (.i .i64 4)) ⟨fun v1 => @K5_11 x30 x35 x38 v1 h q⟩⟩ ⟨@K5_11 x30 x35 x38 undefV h q⟩
def J5_12 [q : Hid (V → H → Prop)] : E → H → Prop := fun e h => @K5_12 (e 7) (e 30) (e 35) (e 38) h q
theorem p5_12 [q : Hid (V → H → Prop)] : denOps IP o5_3 (@S5_12 q) = (@J5_12 q) := by
  refine Eq.trans (grp_eq2 38 true rfl (@p5_11 q) rfl) ?_
  kernel_rfl
def S5_13 [q : Hid (V → H → Prop)] : E → H → Prop := ((Qx (den IP .ret (@Q5 q)) (@Q5 q)) X.normal)
def K5_13 (x7 x24 x28 : V) (h : H) [q : Hid (V → H → Prop)] : Prop := @Bnd V (vPick x24 x28 (.b false)) ⟨fun v1 => @Grd v1 true ⟨@Bnd V (vBld [(.i .i64 0), (.i .i64 0)] [(1, 1, (.i .i64 2))]) ⟨fun v2 => @Bnd (V × H) (vMake 16 [(.i .i64 0), (.i .i64 0)] x7 h) ⟨fun r3 => @wF IP 18 [v2, r3.1] r3.2 ⟨fun v4 h5 => @Bnd V (vEqz true .p v4 (.p none)) ⟨fun v6 => @Bnd V (bin .geq x7 (.i .i64 1)) ⟨fun v7 => @K5_12 x7 v1 v6 v7 h5 q⟩⟩⟩⟩⟩⟩ ⟨@K5_12 x7 v1 undefV undefV h q⟩⟩
def J5_13 [q : Hid (V → H → Prop)] : E → H → Prop := fun e h => @K5_13 (e 7) (e 24) (e 28) h q
theorem p5_13 [q : Hid (V → H → Prop)] : denOps IP o5_5 (@S5_13 q) = (@J5_13 q) := by
  refine Eq.trans (app_eq (grp_eq2 30 true rfl (@p5_12 q) rfl) rfl) ?_
  kernel_rfl
def S5_14 [q : Hid (V → H → Prop)] : E → H → Prop := ((Qx (den IP .ret (@Q5 q)) (@Q5 q)) X.normal)
def K5_14 (x6 x7 x16 x22 : V) (h : H) [q : Hid (V → H → Prop)] : Prop := @Bnd V (vPick x16 x22 (.b false)) ⟨fun v1 => @Grd v1 true ⟨@wF IP 17 [x6] h ⟨fun v2 h3 => @Bnd V (vLens v2) ⟨fun v4 => @Bnd V (bin .eql v4 (.i .i64 0)) ⟨fun v5 => @K5_13 x7 v1 v5 h3 q⟩⟩⟩⟩ ⟨@K5_13 x7 v1 undefV h q⟩⟩
def J5_14 [q : Hid (V → H → Prop)] : E → H → Prop := fun e h => @K5_14 (e 6) (e 7) (e 16) (e 22) h q
theorem p5_14 [q : Hid (V → H → Prop)] : denOps IP o5_7 (@S5_14 q) = (@J5_14 q) := by
  refine Eq.trans (app_eq (grp_eq2 24 true rfl (@p5_13 q) rfl) rfl) ?_
  kernel_rfl
def K5 (x0 x1 : V) (h : H) [q : Hid (V → H → Prop)] : Prop := @wF IP 15 [(.i .i64 3)] h ⟨fun v1 h2 => @wF IP 16 [(.p none), v1, x1] h2 ⟨fun v3 h4 => @Bnd V (bin .and x0 (.i .i64 7)) ⟨fun v5 => @wF IP 12 [] h4 ⟨fun v6 h7 => @Grd v6 true ⟨@wF IP 13 [(.p none)] h7 ⟨fun v8 h9 => @wF IP 14 [(.p none)] h9 ⟨fun v10 h11 => @Bnd V (bin .add v8 v10) ⟨fun v12 => @Bnd V (bin .eql v12 (.i .i64 0)) ⟨fun v13 => @K5_14 v1 v5 v6 v13 h11 q⟩⟩⟩⟩⟩ ⟨@K5_14 v1 v5 v6 undefV h7 q⟩⟩⟩⟩⟩
theorem p5 [q : Hid (V → H → Prop)] : den IP c5 (@Q5 q) = fun e h => @K5 (e 0) (e 1) h q := by
  refine Eq.trans (seq_eq (seq_eq (seq_eq (seq_eq (seq_eq (seq_eq rfl (region_eq (app_eq (grp_eq2 16 true rfl (@p5_14 q) rfl) rfl))) rfl) rfl) rfl) rfl) rfl) ?_
  kernel_rfl
theorem f5 (a0 a1 : V) (h : H) (Q : V → H → Prop) : @wF IP 5 [a0, a1] h ⟨Q⟩ ↔ @K5 a0 a1 h ⟨Q⟩ := (Fnc_den (ip5) (by kernel_rfl) (by kernel_rfl) h Q).trans (iff_of_eq (congrFun (congrFun (@p5 ⟨Q⟩) _) h))
theorem ip7 : IP 7 = some ir7 := rfl
def rQ7 (C : Nat → List V → H → Rr) (k : Nat) : X → E → H → Rr := Qrr rs7
def rK7 (C : Nat → List V → H → Rr) (k : Nat) (x0 : V) (h : H) : Rr := (rB (some (.p (some (H.nx h, 0)), H.new h ⟨false, [(.p none), (.p none), (.i .i64 0), (.i .i64 0), (.i .i64 0), (.i .i64 0), (.i .i64 0), (.i .i64 0), (.i .i64 0), (.i .u64 0), (.i .u64 0), (.b false)]⟩)) fun r1 => (rB (bin .mul (.i .i64 4) x0) fun v2 => (rB (bin .add (.i .i64 1) v2) fun v3 => (rB (bin .mul (.i .i64 3) v3) fun v4 => (rK (C 15 [v4] r1.2) fun v5 h6 => (rB (vBld [(.i .i64 0), (.i .i64 0)] [(1, 1, x0)]) fun v7 => (rB (vBld [(.i .i64 0), (.i .i64 0)] [(0, 1, v3), (1, 1, x0)]) fun v8 => (rB (bin .mul (.i .i64 2) v3) fun v9 => (rB (vBld [(.i .i64 0), (.i .i64 0)] [(0, 1, v9), (1, 1, x0)]) fun v10 => (rB (vBld [(.i .i64 0), (.i .i64 0), (.i .i64 0), (.i .i64 0)] [(0, 2, v8), (2, 2, v10)]) fun v11 => (rB (vBld [(.p none), (.p none), (.i .i64 0), (.i .i64 0), (.i .i64 0), (.i .i64 0), (.i .i64 0), (.i .i64 0), (.i .i64 0), (.i .u64 0), (.i .u64 0), (.b false)] [(1, 1, v5), (2, 2, v7), (4, 4, v11), (11, 1, (.b true))]) fun v12 => (rB (some (.p (some (H.nx h6, 0)), H.new h6 ⟨false, [(.p none), (.p none), (.i .i64 0), (.i .i64 0), (.i .i64 0), (.i .i64 0), (.i .i64 0), (.i .i64 0), (.i .i64 0), (.i .u64 0), (.i .u64 0), (.b false)]⟩)) fun r13 => (rB (vStore r13.2 12 r13.1 v12) fun r14 => (rB (vFa 1 r13.1) fun v15 => (rB (vLd1 r14.2 v15) fun v16 => (rB (vFa 2 r13.1) fun v17 => (rB (vLdA r14.2 2 v17) fun v18 => (rK (C 19 [v16, v18] r14.2) fun v19 h20 => (rB (vFa 1 r13.1) fun v21 => (rB (vLd1 h20 v21) fun v22 => (rB (vFa 4 r13.1) fun v23 => (rB (vIaa 2 2 v23 (.i .i64 0)) fun v24 => (rB (vLdA h20 2 v24) fun v25 => (rK (C 19 [v22, v25] h20) fun v26 h27 => (rB (vFa 1 r13.1) fun v28 => (rB (vLd1 h27 v28) fun v29 => (rB (vFa 4 r13.1) fun v30 => (rB (vIaa 2 2 v30 (.i .i64 1)) fun v31 => (rB (vLdA h27 2 v31) fun v32 => (rK (C 19 [v29, v32] h27) fun v33 h34 => (rB (vFa 2 r13.1) fun v35 => (rB (vLdA h34 2 v35) fun v36 => (rB (vFa 4 r13.1) fun v37 => (rB (vSla 2 2 v37 none none none) fun v38 => (rK (C 18 [v36, v38] h34) fun v39 h40 => (rB (vFa 0 r13.1) fun v41 => (rB (vStore h40 1 v41 v39) fun r42 => (rB (vLdA r42.2 12 r13.1) fun v43 => (rB (vStore r42.2 12 r1.1 v43) fun r44 => (rB (vLdA r44.2 12 r1.1) fun v45 => (some (v45, r44.2))))))))))))))))))))))))))))))))))))))))))
theorem rp7 (C : Nat → List V → H → Rr) (k : Nat) : dn C k c7 (rQ7 C k) = fun e h => (rK7 C k (e 0) h) := by kernel_rfl
def F7 : RF := fun C k a h => match a with
  | [a0] => rK7 C k a0 h
  | _ => none
theorem ro7 : RunOK IP 7 F7 := ⟨ir7, ip7, by kernel_rfl, fun C k a h r e => by
  unfold F7 at e
  split at e
  · exact ⟨by kernel_rfl, (congrFun (congrFun (rp7 C k) _) h).trans e⟩
  · cases e⟩
theorem ip9 : IP 9 = some ir9 := rfl
def rQ9 (C : Nat → List V → H → Rr) (k : Nat) : X → E → H → Rr := Qrr rs9
def rQ9_1 (C : Nat → List V → H → Rr) (k : Nat) : X → E → H → Rr := (rQ9 C k)
def rS9_5 (C : Nat → List V → H → Rr) (k : Nat) : E → H → Rr := ((Qxr (dn C k .ret (rQ9_1 C k)) (rQ9_1 C k)) X.normal)
def rK9_5 (C : Nat → List V → H → Rr) (k : Nat) (x4 x41 x43 x45 : V) (h : H) : Rr := (rB (vPick x43 x45 (.b false)) fun v1 => (rB (vStore h 12 x4 x41) fun r2 => (rB (vLdA r2.2 12 x4) fun v3 => (some ((.tup [v3, v1]), r2.2)))))
def rJ9_5 (C : Nat → List V → H → Rr) (k : Nat) : E → H → Rr := fun e h => (rK9_5 C k (e 4) (e 41) (e 43) (e 45) h)
theorem rp9_5 (C : Nat → List V → H → Rr) (k : Nat) : dnOps C o9_2 (rS9_5 C k) = (rJ9_5 C k) := by
  refine Eq.trans (rapp_eq rfl rfl) ?_
  kernel_rfl
def rK9_1 (C : Nat → List V → H → Rr) (k : Nat) (x2 x4 x10 : V) (h : H) : Rr := (rB (vLdA h 9 x10) fun v1 => (rK (C 24 [v1] h) fun v2 h3 => (rB (vExt v2 0) fun v4 => (rB (vExt v2 1) fun v5 => (rB (vLdA h3 12 x2) fun v6 => (rG v5 true (rB (bin .eql v4 (.i .i64 0)) fun v7 => (rK9_5 C k x4 v6 v5 v7 h3)) (rK9_5 C k x4 v6 v5 undefV h3)))))))
def rJ9_1 (C : Nat → List V → H → Rr) (k : Nat) : E → H → Rr := fun e h => (rK9_1 C k (e 2) (e 4) (e 10) h)
theorem rp9_1 (C : Nat → List V → H → Rr) (k : Nat) : dn C k c9_1 (rQ9_1 C k) = (rJ9_1 C k) := by
  refine Eq.trans (rseq_eq (rseq_eq rfl (rregion_eq (rapp_eq (rgrp_eq2 43 true rfl (rp9_5 C k) rfl) rfl))) rfl) ?_
  kernel_rfl
def rR9_6 (C : Nat → List V → H → Rr) (k : Nat) : X → E → H → Rr := (Qbr 0 (Qxr (rJ9_1 C k) (rQ9 C k)))
def rQ9_6 (C : Nat → List V → H → Rr) (k : Nat) (g9_6 : V → V → V → V → H → Rr) : X → E → H → Rr := Qxr (fun e h => g9_6 (e 2) (e 4) (e 10) (e 11) h) (rR9_6 C k)
def rL9_6 (C : Nat → List V → H → Rr) (k : Nat) (g9_6 : V → V → V → V → H → Rr) (x2 x4 x10 x11 : V) (h : H) : Rr := (rB (bin .lss x11 (.i .i64 9)) fun v1 => (rS v1 (rB (vLdA h 9 x10) fun v2 => (rB (vFa 1 x2) fun v3 => (rB (vLd1 h v3) fun v4 => (rK (C 23 [v2, v4] h) fun v5 h6 => (rB (vStore h6 9 x10 v5) fun r7 => (rB (bin .add x11 (.i .i64 1)) fun v8 => (g9_6 x2 x4 x10 v8 r7.2))))))) (rK9_1 C k x2 x4 x10 h)))
theorem rp9_6 (C : Nat → List V → H → Rr) (k : Nat) (g9_6 : V → V → V → V → H → Rr) : dn C k c9_6 (rQ9_6 C k g9_6) = fun e h => (rL9_6 C k g9_6 (e 2) (e 4) (e 10) (e 11) h) := by kernel_rfl
def rW9_6 (C : Nat → List V → H → Rr) (k : Nat) (x2 x4 x10 x11 : V) (h : H) : Rr := rFix k (fun (g : V × V × V × V × Unit → H → Rr) (x : V × V × V × V × Unit) h => rL9_6 C k (fun y2 y4 y10 y11 h => g (y2, y4, y10, y11, ()) h) x.1 x.2.1 x.2.2.1 x.2.2.2.1 h) (x2, x4, x10, x11, ()) h
theorem rn9_6 (C : Nat → List V → H → Rr) (k : Nat) : ∀ g : V × V × V × V × Unit → H → Rr, dn C k c9_6 (Qxr (fun e h => g ((fun e : E => ((e 2, e 4, e 10, e 11, ()) : V × V × V × V × Unit)) e) h) (rR9_6 C k)) = fun e h => (fun (g : V × V × V × V × Unit → H → Rr) (x : V × V × V × V × Unit) h => rL9_6 C k (fun y2 y4 y10 y11 h => g (y2, y4, y10, y11, ()) h) x.1 x.2.1 x.2.2.1 x.2.2.2.1 h) g ((fun e : E => ((e 2, e 4, e 10, e 11, ()) : V × V × V × V × Unit)) e) h := fun g => rp9_6 C k (fun y2 y4 y10 y11 h => g (y2, y4, y10, y11, ()) h)
theorem rw9_6 (C : Nat → List V → H → Rr) (k : Nat) : dn C k (.loop c9_6) (rR9_6 C k) = fun e h => (rW9_6 C k (e 2) (e 4) (e 10) (e 11) h) := rloop_eq (fun e : E => ((e 2, e 4, e 10, e 11, ()) : V × V × V × V × Unit)) (fun (g : V × V × V × V × Unit → H → Rr) (x : V × V × V × V × Unit) h => rL9_6 C k (fun y2 y4 y10 y11 h => g (y2, y4, y10, y11, ()) h) x.1 x.2.1 x.2.2.1 x.2.2.2.1 h) (rn9_6 C k)
def rK9 (C : Nat → List V → H → Rr) (k : Nat) (x0 x1 : V) (h : H) : Rr := (rB (vBox x0 h) fun r1 => (rB (vBox x1 r1.2) fun r2 => (rB (some (.p (some (H.nx r2.2, 0)), H.new r2.2 ⟨false, [(.p none), (.p none), (.i .i64 0), (.i .i64 0), (.i .i64 0), (.i .i64 0), (.i .i64 0), (.i .i64 0), (.i .i64 0), (.i .u64 0), (.i .u64 0), (.b false)]⟩)) fun r3 => (rB (vLdA r3.2 5 r2.1) fun v4 => (rK (C 20 [v4] r3.2) fun v5 h6 => (rB (vExt v5 0) fun v7 => (rB (vExt v5 1) fun v8 => (rB (some (.p (some (H.nx h6, 0)), H.new h6 ⟨false, [(.i .i64 0), (.i .i64 0), (.i .i64 0), (.i .i64 0), (.i .i64 0), (.i .u32 0), (.i .i64 0), (.b false), (.b false), (.i .i64 0), (.i .u32 0)]⟩)) fun r9 => (rB (vStore r9.2 11 r9.1 v7) fun r10 => (rB (vLdA r10.2 11 r9.1) fun v11 => (rK (C 21 [v11] r10.2) fun v12 h13 => (rB (vExt v12 0) fun v14 => (rB (vExt v12 1) fun v15 => (rB (some (.p (some (H.nx h13, 0)), H.new h13 ⟨false, [(.i .u64 0), (.i .u64 0), (.i .u64 0)]⟩)) fun r16 => (rB (vStore r16.2 3 r16.1 v14) fun r17 => (rB (vFa 2 r1.1) fun v18 => (rB (vLdA r17.2 2 v18) fun v19 => (rB (vLdA r17.2 3 r16.1) fun v20 => (rK (C 22 [v19, v20] r17.2) fun v21 h22 => (rB (some (.p (some (H.nx h22, 0)), H.new h22 ⟨false, [(.i .i64 0), (.i .i64 0), (.i .u64 0), (.i .u64 0), (.i .u64 0), (.i .u64 0), (.i .i64 0), (.b false), (.b false)]⟩)) fun r23 => (rB (vStore r23.2 9 r23.1 v21) fun r24 => (rW9_6 C k r1.1 r3.1 r23.1 (.i .i64 0) r24.2))))))))))))))))))))))
theorem rp9 (C : Nat → List V → H → Rr) (k : Nat) : dn C k c9 (rQ9 C k) = fun e h => (rK9 C k (e 0) (e 1) h) := by
  refine Eq.trans (rseq_eq (rseq_eq (rseq_eq (rseq_eq (rseq_eq (rp9_1 C k) (rseq_eq (rblock_eq (rw9_6 C k)) rfl)) rfl) rfl) rfl) rfl) ?_
  kernel_rfl
def F9 : RF := fun C k a h => match a with
  | [a0, a1] => rK9 C k a0 a1 h
  | _ => none
theorem ro9 : RunOK IP 9 F9 := ⟨ir9, ip9, by kernel_rfl, fun C k a h r e => by
  unfold F9 at e
  split at e
  · exact ⟨by kernel_rfl, (congrFun (congrFun (rp9 C k) _) h).trans e⟩
  · cases e⟩
theorem ip10 : IP 10 = some ir10 := rfl
def rQ10 (C : Nat → List V → H → Rr) (k : Nat) : X → E → H → Rr := Qrr rs10
def rQ10_1 (C : Nat → List V → H → Rr) (k : Nat) : X → E → H → Rr := (rQ10 C k)
def rK10_1 (C : Nat → List V → H → Rr) (k : Nat) (x3 x6 : V) (h : H) : Rr := (rB (vLdA h 12 x3) fun v1 => (rB (vStore h 12 x6 v1) fun r2 => (rB (vLdA r2.2 12 x6) fun v3 => (some (v3, r2.2)))))
def rJ10_1 (C : Nat → List V → H → Rr) (k : Nat) : E → H → Rr := fun e h => (rK10_1 C k (e 3) (e 6) h)
theorem rp10_1 (C : Nat → List V → H → Rr) (k : Nat) : dn C k c10_1 (rQ10_1 C k) = (rJ10_1 C k) := by kernel_rfl
def rR10_2 (C : Nat → List V → H → Rr) (k : Nat) : X → E → H → Rr := (Qbr 0 (Qxr (rJ10_1 C k) (rQ10 C k)))
def rQ10_2 (C : Nat → List V → H → Rr) (k : Nat) (g10_2 : V → V → V → V → V → H → Rr) : X → E → H → Rr := Qxr (fun e h => g10_2 (e 1) (e 2) (e 3) (e 6) (e 7) h) (rR10_2 C k)
def rQ10_3 (C : Nat → List V → H → Rr) (k : Nat) (g10_2 : V → V → V → V → V → H → Rr) : X → E → H → Rr := (rQ10_2 C k g10_2)
def rK10_3 (C : Nat → List V → H → Rr) (k : Nat) (g10_2 : V → V → V → V → V → H → Rr) (x1 x2 x3 x6 x7 : V) (h : H) : Rr := (rB (bin .add x7 (.i .i64 1)) fun v1 => (g10_2 x1 x2 x3 x6 v1 h))
def rJ10_3 (C : Nat → List V → H → Rr) (k : Nat) (g10_2 : V → V → V → V → V → H → Rr) : E → H → Rr := fun e h => (rK10_3 C k g10_2 (e 1) (e 2) (e 3) (e 6) (e 7) h)
theorem rp10_3 (C : Nat → List V → H → Rr) (k : Nat) (g10_2 : V → V → V → V → V → H → Rr) : dn C k c10_3 (rQ10_3 C k g10_2) = (rJ10_3 C k g10_2) := by kernel_rfl
def rS10_7 (C : Nat → List V → H → Rr) (k : Nat) (g10_2 : V → V → V → V → V → H → Rr) : E → H → Rr := ((Qbr 1 (Qxr (rJ10_3 C k g10_2) (rQ10_2 C k g10_2))) X.normal)
def rK10_7 (C : Nat → List V → H → Rr) (k : Nat) (g10_2 : V → V → V → V → V → H → Rr) (x1 x2 x3 x6 x7 x24 x29 : V) (h : H) : Rr := (rB (vPick x24 x29 (.b false)) fun v1 => (rB (vFa 11 x3) fun v2 => (rB (vStore h 1 v2 v1) fun r3 => (rK10_3 C k g10_2 x1 x2 x3 x6 x7 r3.2))))
def rJ10_7 (C : Nat → List V → H → Rr) (k : Nat) (g10_2 : V → V → V → V → V → H → Rr) : E → H → Rr := fun e h => (rK10_7 C k g10_2 (e 1) (e 2) (e 3) (e 6) (e 7) (e 24) (e 29) h)
theorem rp10_7 (C : Nat → List V → H → Rr) (k : Nat) (g10_2 : V → V → V → V → V → H → Rr) : dnOps C o10_4 (rS10_7 C k g10_2) = (rJ10_7 C k g10_2) := by
  refine Eq.trans (rapp_eq rfl rfl) ?_
  kernel_rfl
def rL10_2 (C : Nat → List V → H → Rr) (k : Nat) (g10_2 : V → V → V → V → V → H → Rr) (x1 x2 x3 x6 x7 : V) (h : H) : Rr := (rB (bin .lss x7 x1) fun v1 => (rS v1 (rB (vFa 1 x3) fun v2 => (rB (vLd1 h v2) fun v3 => (rK (C 25 [v3] h) fun v4 h5 => (rB (vFa 0 x3) fun v6 => (rB (vLd1 h5 v6) fun v7 => (rB (vFa 1 x3) fun v8 => (rB (vLd1 h5 v8) fun v9 => (rK (C 16 [v7, v9, x2] h5) fun v10 h11 => (rB (vFa 11 x3) fun v12 => (rB (vLd1 h11 v12) fun v13 => (rG v13 true (rB (vFa 1 x3) fun v14 => (rB (vLd1 h11 v14) fun v15 => (rK (C 17 [v15] h11) fun v16 h17 => (rB (vLens v16) fun v18 => (rB (bin .leq v18 (.i .i64 1)) fun v19 => (rK10_7 C k g10_2 x1 x2 x3 x6 x7 v13 v19 h17)))))) (rK10_7 C k g10_2 x1 x2 x3 x6 x7 v13 undefV h11)))))))))))) (rK10_1 C k x3 x6 h)))
theorem rp10_2 (C : Nat → List V → H → Rr) (k : Nat) (g10_2 : V → V → V → V → V → H → Rr) : dn C k c10_2 (rQ10_2 C k g10_2) = fun e h => (rL10_2 C k g10_2 (e 1) (e 2) (e 3) (e 6) (e 7) h) := by
  refine Eq.trans (rseq_eq (rseq_eq (rp10_3 C k g10_2) (rblock_eq (rseq_eq (rseq_eq (rregion_eq (rapp_eq (rgrp_eq2 24 true rfl (rp10_7 C k g10_2) rfl) rfl)) rfl) rfl))) rfl) ?_
  kernel_rfl
def rW10_2 (C : Nat → List V → H → Rr) (k : Nat) (x1 x2 x3 x6 x7 : V) (h : H) : Rr := rFix k (fun (g : V × V × V × V × V × Unit → H → Rr) (x : V × V × V × V × V × Unit) h => rL10_2 C k (fun y1 y2 y3 y6 y7 h => g (y1, y2, y3, y6, y7, ()) h) x.1 x.2.1 x.2.2.1 x.2.2.2.1 x.2.2.2.2.1 h) (x1, x2, x3, x6, x7, ()) h
theorem rn10_2 (C : Nat → List V → H → Rr) (k : Nat) : ∀ g : V × V × V × V × V × Unit → H → Rr, dn C k c10_2 (Qxr (fun e h => g ((fun e : E => ((e 1, e 2, e 3, e 6, e 7, ()) : V × V × V × V × V × Unit)) e) h) (rR10_2 C k)) = fun e h => (fun (g : V × V × V × V × V × Unit → H → Rr) (x : V × V × V × V × V × Unit) h => rL10_2 C k (fun y1 y2 y3 y6 y7 h => g (y1, y2, y3, y6, y7, ()) h) x.1 x.2.1 x.2.2.1 x.2.2.2.1 x.2.2.2.2.1 h) g ((fun e : E => ((e 1, e 2, e 3, e 6, e 7, ()) : V × V × V × V × V × Unit)) e) h := fun g => rp10_2 C k (fun y1 y2 y3 y6 y7 h => g (y1, y2, y3, y6, y7, ()) h)
theorem rw10_2 (C : Nat → List V → H → Rr) (k : Nat) : dn C k (.loop c10_2) (rR10_2 C k) = fun e h => (rW10_2 C k (e 1) (e 2) (e 3) (e 6) (e 7) h) := rloop_eq (fun e : E => ((e 1, e 2, e 3, e 6, e 7, ()) : V × V × V × V × V × Unit)) (fun (g : V × V × V × V × V × Unit → H → Rr) (x : V × V × V × V × V × Unit) h => rL10_2 C k (fun y1 y2 y3 y6 y7 h => g (y1, y2, y3, y6, y7, ()) h) x.1 x.2.1 x.2.2.1 x.2.2.2.1 x.2.2.2.2.1 h) (rn10_2 C k)
def rK10 (C : Nat → List V → H → Rr) (k : Nat) (x0 x1 x2 : V) (h : H) : Rr := (rB (vBox x0 h) fun r1 => (rB (some (.p (some (H.nx r1.2, 0)), H.new r1.2 ⟨false, [(.p none), (.p none), (.i .i64 0), (.i .i64 0), (.i .i64 0), (.i .i64 0), (.i .i64 0), (.i .i64 0), (.i .i64 0), (.i .u64 0), (.i .u64 0), (.b false)]⟩)) fun r2 => (rW10_2 C k x1 x2 r1.1 r2.1 (.i .i64 0) r2.2)))
theorem rp10 (C : Nat → List V → H → Rr) (k : Nat) : dn C k c10 (rQ10 C k) = fun e h => (rK10 C k (e 0) (e 1) (e 2) h) := by
  refine Eq.trans (rseq_eq (rseq_eq (rp10_1 C k) (rseq_eq (rblock_eq (rw10_2 C k)) rfl)) rfl) ?_
  kernel_rfl
def F10 : RF := fun C k a h => match a with
  | [a0, a1, a2] => rK10 C k a0 a1 a2 h
  | _ => none
theorem ro10 : RunOK IP 10 F10 := ⟨ir10, ip10, by kernel_rfl, fun C k a h r e => by
  unfold F10 at e
  split at e
  · exact ⟨by kernel_rfl, (congrFun (congrFun (rp10 C k) _) h).trans e⟩
  · cases e⟩
theorem ip11 : IP 11 = some ir11 := rfl
def rQ11 (C : Nat → List V → H → Rr) (k : Nat) : X → E → H → Rr := Qrr rs11
def rQ11_1 (C : Nat → List V → H → Rr) (k : Nat) : X → E → H → Rr := (rQ11 C k)
def rK11_1 (C : Nat → List V → H → Rr) (k : Nat) (x1 x2 x4 x5 x7 : V) (h : H) : Rr := (rB (vLdA h 8 x7) fun v1 => (rK (C 28 [v1] h) fun v2 h3 => (rB (vExt v2 0) fun v4 => (rB (vExt v2 1) fun v5 => (rB (bin .neq v4 (.i .i64 0)) fun v6 => (rS v6 (rB (vLdA h3 12 x2) fun v7 => (rB (vBld [(.i .i64 0), (.i .i64 0), (.i .i64 0), (.i .i64 0), (.i .i64 0), (.i .u32 0), (.i .i64 0), (.b false), (.b false), (.i .i64 0), (.i .u32 0)] []) fun v8 => (rB (vStore h3 12 x4 v7) fun r9 => (rB (vStore r9.2 11 x5 v8) fun r10 => (rB (vLdA r10.2 12 x4) fun v11 => (rB (vLdA r10.2 11 x5) fun v12 => (some ((.tup [v11, v12, (.b false)]), r10.2)))))))) (rB (vFa 9 x2) fun v13 => (rB (vIaa 1 2 v13 x1) fun v14 => (rB (vLd1 h3 v14) fun v15 => (rB (bin .add v15 (.i .u64 1)) fun v16 => (rB (vFa 9 x2) fun v17 => (rB (vIaa 1 2 v17 x1) fun v18 => (rB (vStore h3 1 v18 v16) fun r19 => (rB (vLdA r19.2 8 x7) fun v20 => (rK (C 30 [v20] r19.2) fun v21 h22 => (rK (C 29 [v21] h22) fun v23 h24 => (rB (vExt v23 0) fun v25 => (rB (vExt v23 1) fun v26 => (rB (some (.p (some (H.nx h24, 0)), H.new h24 ⟨false, [(.i .i64 0), (.i .i64 0), (.i .i64 0), (.i .i64 0), (.i .i64 0), (.i .u32 0), (.i .i64 0), (.b false), (.b false), (.i .i64 0), (.i .u32 0)]⟩)) fun r27 => (rB (vStore r27.2 11 r27.1 v25) fun r28 => (rB (vLdA r28.2 12 x2) fun v29 => (rB (vLdA r28.2 11 r27.1) fun v30 => (rB (bin .eql v26 (.i .i64 0)) fun v31 => (rB (vStore r28.2 12 x4 v29) fun r32 => (rB (vStore r32.2 11 x5 v30) fun r33 => (rC (stdy true 11 r27.1 r28.2 r32.2) (rB (vLdA r33.2 12 x4) fun v34 => (rB (vLdA r33.2 11 x5) fun v35 => (some ((.tup [v34, v35, v31]), r33.2))))))))))))))))))))))))))))))
def rJ11_1 (C : Nat → List V → H → Rr) (k : Nat) : E → H → Rr := fun e h => (rK11_1 C k (e 1) (e 2) (e 4) (e 5) (e 7) h)
theorem rp11_1 (C : Nat → List V → H → Rr) (k : Nat) : dn C k c11_1 (rQ11_1 C k) = (rJ11_1 C k) := by kernel_rfl
def rR11_2 (C : Nat → List V → H → Rr) (k : Nat) : X → E → H → Rr := (Qbr 0 (Qxr (rJ11_1 C k) (rQ11 C k)))
def rQ11_2 (C : Nat → List V → H → Rr) (k : Nat) (g11_2 : V → V → V → V → V → V → H → Rr) : X → E → H → Rr := Qxr (fun e h => g11_2 (e 1) (e 2) (e 4) (e 5) (e 7) (e 8) h) (rR11_2 C k)
def rL11_2 (C : Nat → List V → H → Rr) (k : Nat) (g11_2 : V → V → V → V → V → V → H → Rr) (x1 x2 x4 x5 x7 x8 : V) (h : H) : Rr := (rB (bin .lss x8 (.i .i64 6)) fun v1 => (rS v1 (rB (vLdA h 8 x7) fun v2 => (rB (vFa 1 x2) fun v3 => (rB (vLd1 h v3) fun v4 => (rK (C 27 [v2, v4] h) fun v5 h6 => (rB (vStore h6 8 x7 v5) fun r7 => (rB (bin .add x8 (.i .i64 1)) fun v8 => (g11_2 x1 x2 x4 x5 x7 v8 r7.2))))))) (rK11_1 C k x1 x2 x4 x5 x7 h)))
theorem rp11_2 (C : Nat → List V → H → Rr) (k : Nat) (g11_2 : V → V → V → V → V → V → H → Rr) : dn C k c11_2 (rQ11_2 C k g11_2) = fun e h => (rL11_2 C k g11_2 (e 1) (e 2) (e 4) (e 5) (e 7) (e 8) h) := by kernel_rfl
def rW11_2 (C : Nat → List V → H → Rr) (k : Nat) (x1 x2 x4 x5 x7 x8 : V) (h : H) : Rr := rFix k (fun (g : V × V × V × V × V × V × Unit → H → Rr) (x : V × V × V × V × V × V × Unit) h => rL11_2 C k (fun y1 y2 y4 y5 y7 y8 h => g (y1, y2, y4, y5, y7, y8, ()) h) x.1 x.2.1 x.2.2.1 x.2.2.2.1 x.2.2.2.2.1 x.2.2.2.2.2.1 h) (x1, x2, x4, x5, x7, x8, ()) h
theorem rn11_2 (C : Nat → List V → H → Rr) (k : Nat) : ∀ g : V × V × V × V × V × V × Unit → H → Rr, dn C k c11_2 (Qxr (fun e h => g ((fun e : E => ((e 1, e 2, e 4, e 5, e 7, e 8, ()) : V × V × V × V × V × V × Unit)) e) h) (rR11_2 C k)) = fun e h => (fun (g : V × V × V × V × V × V × Unit → H → Rr) (x : V × V × V × V × V × V × Unit) h => rL11_2 C k (fun y1 y2 y4 y5 y7 y8 h => g (y1, y2, y4, y5, y7, y8, ()) h) x.1 x.2.1 x.2.2.1 x.2.2.2.1 x.2.2.2.2.1 x.2.2.2.2.2.1 h) g ((fun e : E => ((e 1, e 2, e 4, e 5, e 7, e 8, ()) : V × V × V × V × V × V × Unit)) e) h := fun g => rp11_2 C k (fun y1 y2 y4 y5 y7 y8 h => g (y1, y2, y4, y5, y7, y8, ()) h)
theorem rw11_2 (C : Nat → List V → H → Rr) (k : Nat) : dn C k (.loop c11_2) (rR11_2 C k) = fun e h => (rW11_2 C k (e 1) (e 2) (e 4) (e 5) (e 7) (e 8) h) := rloop_eq (fun e : E => ((e 1, e 2, e 4, e 5, e 7, e 8, ()) : V × V × V × V × V × V × Unit)) (fun (g : V × V × V × V × V × V × Unit → H → Rr) (x : V × V × V × V × V × V × Unit) h => rL11_2 C k (fun y1 y2 y4 y5 y7 y8 h => g (y1, y2, y4, y5, y7, y8, ()) h) x.1 x.2.1 x.2.2.1 x.2.2.2.1 x.2.2.2.2.1 x.2.2.2.2.2.1 h) (rn11_2 C k)
def rK11 (C : Nat → List V → H → Rr) (k : Nat) (x0 x1 : V) (h : H) : Rr := (rB (vBox x0 h) fun r1 => (rB (some (.p (some (H.nx r1.2, 0)), H.new r1.2 ⟨false, [(.p none), (.p none), (.i .i64 0), (.i .i64 0), (.i .i64 0), (.i .i64 0), (.i .i64 0), (.i .i64 0), (.i .i64 0), (.i .u64 0), (.i .u64 0), (.b false)]⟩)) fun r2 => (rB (some (.p (some (H.nx r2.2, 0)), H.new r2.2 ⟨false, [(.i .i64 0), (.i .i64 0), (.i .i64 0), (.i .i64 0), (.i .i64 0), (.i .u32 0), (.i .i64 0), (.b false), (.b false), (.i .i64 0), (.i .u32 0)]⟩)) fun r3 => (rB (vFa 4 r1.1) fun v4 => (rB (vIaa 2 2 v4 x1) fun v5 => (rB (vLdA r3.2 2 v5) fun v6 => (rB (vFa 9 r1.1) fun v7 => (rB (vIaa 1 2 v7 x1) fun v8 => (rB (vLd1 r3.2 v8) fun v9 => (rK (C 26 [v6, v9] r3.2) fun v10 h11 => (rB (some (.p (some (H.nx h11, 0)), H.new h11 ⟨false, [(.i .i64 0), (.i .i64 0), (.i .u64 0), (.i .u64 0), (.i .u64 0), (.i .u64 0), (.i .i64 0), (.b false)]⟩)) fun r12 => (rB (vStore r12.2 8 r12.1 v10) fun r13 => (rW11_2 C k x1 r1.1 r2.1 r3.1 r12.1 (.i .i64 0) r13.2)))))))))))))
theorem rp11 (C : Nat → List V → H → Rr) (k : Nat) : dn C k c11 (rQ11 C k) = fun e h => (rK11 C k (e 0) (e 1) h) := by
  refine Eq.trans (rseq_eq (rseq_eq (rseq_eq (rp11_1 C k) (rseq_eq (rblock_eq (rw11_2 C k)) rfl)) rfl) rfl) ?_
  kernel_rfl
def F11 : RF := fun C k a h => match a with
  | [a0, a1] => rK11 C k a0 a1 h
  | _ => none
theorem ro11 : RunOK IP 11 F11 := ⟨ir11, ip11, by kernel_rfl, fun C k a h r e => by
  unfold F11 at e
  split at e
  · exact ⟨by kernel_rfl, (congrFun (congrFun (rp11 C k) _) h).trans e⟩
  · cases e⟩
theorem ip12 : IP 12 = some ir12 := rfl
def rQ12 (C : Nat → List V → H → Rr) (k : Nat) : X → E → H → Rr := Qrr rs12
def rS12_14 (C : Nat → List V → H → Rr) (k : Nat) : E → H → Rr := ((Qxr (dn C k .ret (rQ12 C k)) (rQ12 C k)) X.normal)
def rK12_14 (C : Nat → List V → H → Rr) (k : Nat) (x52 x56 : V) (h : H) : Rr := (rB (vPick x52 x56 (.b false)) fun v1 => (some (v1, h)))
def rJ12_14 (C : Nat → List V → H → Rr) (k : Nat) : E → H → Rr := fun e h => (rK12_14 C k (e 52) (e 56) h)
theorem rp12_14 (C : Nat → List V → H → Rr) (k : Nat) : dnOps C o12_1 (rS12_14 C k) = (rJ12_14 C k) := by
  refine Eq.trans (rapp_eq rfl rfl) ?_
  kernel_rfl
def rS12_15 (C : Nat → List V → H → Rr) (k : Nat) : E → H → Rr := ((Qxr (dn C k .ret (rQ12 C k)) (rQ12 C k)) X.normal)
def rK12_15 (C : Nat → List V → H → Rr) (k : Nat) (x1 x47 x50 : V) (h : H) : Rr := (rB (vPick x47 x50 (.b false)) fun v1 => (rG v1 true (rB (vFa 0 x1) fun v2 => (rB (vLd1 h v2) fun v3 => (rK (C 13 [v3] h) fun v4 h5 => (rB (bin .eql v4 (.i .i64 0)) fun v6 => (rK12_14 C k v1 v6 h5))))) (rK12_14 C k v1 undefV h)))
def rJ12_15 (C : Nat → List V → H → Rr) (k : Nat) : E → H → Rr := fun e h => (rK12_15 C k (e 1) (e 47) (e 50) h)
theorem rp12_15 (C : Nat → List V → H → Rr) (k : Nat) : dnOps C o12_3 (rS12_15 C k) = (rJ12_15 C k) := by
  refine Eq.trans (rapp_eq (rgrp_eq2 52 true rfl (rp12_14 C k) rfl) rfl) ?_
  kernel_rfl
def rS12_16 (C : Nat → List V → H → Rr) (k : Nat) : E → H → Rr := ((Qxr (dn C k .ret (rQ12 C k)) (rQ12 C k)) X.normal)
def rK12_16 (C : Nat → List V → H → Rr) (k : Nat) (x1 x5 x42 x45 : V) (h : H) : Rr := (rB (vPick x42 x45 (.b false)) fun v1 => (rG v1 true (rB (vFa 4 x5) fun v2 => (rB (vLd1 h v2) fun v3 => (rB (bin .eql v3 (.i .i64 3)) fun v4 => (rK12_15 C k x1 v1 v4 h)))) (rK12_15 C k x1 v1 undefV h)))
def rJ12_16 (C : Nat → List V → H → Rr) (k : Nat) : E → H → Rr := fun e h => (rK12_16 C k (e 1) (e 5) (e 42) (e 45) h)
theorem rp12_16 (C : Nat → List V → H → Rr) (k : Nat) : dnOps C o12_5 (rS12_16 C k) = (rJ12_16 C k) := by
  refine Eq.trans (rapp_eq (rgrp_eq2 47 true rfl (rp12_15 C k) rfl) rfl) ?_
  kernel_rfl
def rS12_17 (C : Nat → List V → H → Rr) (k : Nat) : E → H → Rr := ((Qxr (dn C k .ret (rQ12 C k)) (rQ12 C k)) X.normal)
def rK12_17 (C : Nat → List V → H → Rr) (k : Nat) (x1 x5 x37 x40 : V) (h : H) : Rr := (rB (vPick x37 x40 (.b false)) fun v1 => (rG v1 true (rB (vFa 3 x5) fun v2 => (rB (vLd1 h v2) fun v3 => (rB (bin .eql v3 (.i .i64 2)) fun v4 => (rK12_16 C k x1 x5 v1 v4 h)))) (rK12_16 C k x1 x5 v1 undefV h)))
def rJ12_17 (C : Nat → List V → H → Rr) (k : Nat) : E → H → Rr := fun e h => (rK12_17 C k (e 1) (e 5) (e 37) (e 40) h)
theorem rp12_17 (C : Nat → List V → H → Rr) (k : Nat) : dnOps C o12_7 (rS12_17 C k) = (rJ12_17 C k) := by
  refine Eq.trans (rapp_eq (rgrp_eq2 42 true rfl (rp12_16 C k) rfl) rfl) ?_
  kernel_rfl
def rS12_18 (C : Nat → List V → H → Rr) (k : Nat) : E → H → Rr := ((Qxr (dn C k .ret (rQ12 C k)) (rQ12 C k)) X.normal)
def rK12_18 (C : Nat → List V → H → Rr) (k : Nat) (x1 x5 x34 x35 : V) (h : H) : Rr := (rB (vPick x34 x35 (.b false)) fun v1 => (rG v1 true (rB (vFa 0 x5) fun v2 => (rB (vLd1 h v2) fun v3 => (rB (bin .eql v3 (.i .i64 10)) fun v4 => (rK12_17 C k x1 x5 v1 v4 h)))) (rK12_17 C k x1 x5 v1 undefV h)))
def rJ12_18 (C : Nat → List V → H → Rr) (k : Nat) : E → H → Rr := fun e h => (rK12_18 C k (e 1) (e 5) (e 34) (e 35) h)
theorem rp12_18 (C : Nat → List V → H → Rr) (k : Nat) : dnOps C o12_9 (rS12_18 C k) = (rJ12_18 C k) := by
  refine Eq.trans (rapp_eq (rgrp_eq2 37 true rfl (rp12_17 C k) rfl) rfl) ?_
  kernel_rfl
def rS12_19 (C : Nat → List V → H → Rr) (k : Nat) : E → H → Rr := ((Qxr (dn C k .ret (rQ12 C k)) (rQ12 C k)) X.normal)
def rK12_19 (C : Nat → List V → H → Rr) (k : Nat) (x1 x5 x6 x30 x32 : V) (h : H) : Rr := (rB (vPick x30 x32 (.b false)) fun v1 => (rG v1 true (rK12_18 C k x1 x5 v1 x6 h) (rK12_18 C k x1 x5 v1 undefV h)))
def rJ12_19 (C : Nat → List V → H → Rr) (k : Nat) : E → H → Rr := fun e h => (rK12_19 C k (e 1) (e 5) (e 6) (e 30) (e 32) h)
theorem rp12_19 (C : Nat → List V → H → Rr) (k : Nat) : dnOps C o12_11 (rS12_19 C k) = (rJ12_19 C k) := by
  refine Eq.trans (rapp_eq (rgrp_eq2 34 true rfl (rp12_18 C k) rfl) rfl) ?_
  kernel_rfl
def rK12 (C : Nat → List V → H → Rr) (k : Nat) (h : H) : Rr := (rK (C 7 [(.i .i64 2)] h) fun v1 h2 => (rB (vBld [(.i .i64 0), (.i .i64 0), (.i .i64 0), (.i .i64 0), (.i .i64 0)] [(0, 1, (.i .i64 5)), (1, 1, (.i .i64 1)), (2, 1, (.i .i64 2)), (3, 1, (.i .i64 3)), (4, 1, (.i .i64 1))]) fun v3 => (rK (C 9 [v1, v3] h2) fun v4 h5 => (rB (vExt v4 0) fun v6 => (rB (vExt v4 1) fun v7 => (rB (some (.p (some (H.nx h5, 0)), H.new h5 ⟨false, [(.p none), (.p none), (.i .i64 0), (.i .i64 0), (.i .i64 0), (.i .i64 0), (.i .i64 0), (.i .i64 0), (.i .i64 0), (.i .u64 0), (.i .u64 0), (.b false)]⟩)) fun r8 => (rB (vStore r8.2 12 r8.1 v6) fun r9 => (rB (vLdA r9.2 12 r8.1) fun v10 => (rK (C 10 [v10, (.i .i64 30), (.i .i64 4)] r9.2) fun v11 h12 => (rB (vStore h12 12 r8.1 v11) fun r13 => (rB (vLdA r13.2 12 r8.1) fun v14 => (rK (C 11 [v14, (.i .i64 1)] r13.2) fun v15 h16 => (rB (vExt v15 0) fun v17 => (rB (vExt v15 1) fun v18 => (rB (vExt v15 2) fun v19 => (rB (some (.p (some (H.nx h16, 0)), H.new h16 ⟨false, [(.i .i64 0), (.i .i64 0), (.i .i64 0), (.i .i64 0), (.i .i64 0), (.i .u32 0), (.i .i64 0), (.b false), (.b false), (.i .i64 0), (.i .u32 0)]⟩)) fun r20 => (rB (vStore r20.2 12 r8.1 v17) fun r21 => (rB (vStore r21.2 11 r20.1 v18) fun r22 => (rB (vLdA r22.2 12 r8.1) fun v23 => (rK (C 10 [v23, (.i .i64 30), (.i .i64 5)] r22.2) fun v24 h25 => (rB (vStore h25 12 r8.1 v24) fun r26 => (rB (vLdA r26.2 12 r8.1) fun v27 => (rK (C 11 [v27, (.i .i64 1)] r26.2) fun v28 h29 => (rB (vExt v28 0) fun v30 => (rB (vExt v28 1) fun v31 => (rB (vExt v28 2) fun v32 => (rB (some (.p (some (H.nx h29, 0)), H.new h29 ⟨false, [(.i .i64 0), (.i .i64 0), (.i .i64 0), (.i .i64 0), (.i .i64 0), (.i .u32 0), (.i .i64 0), (.b false), (.b false), (.i .i64 0), (.i .u32 0)]⟩)) fun r33 => (rB (vStore r33.2 12 r8.1 v30) fun r34 => (rB (vStore r34.2 11 r33.1 v31) fun r35 => (rG v7 true (rB (un .not v19) fun v36 => (rK12_19 C k r8.1 r33.1 v32 v7 v36 r35.2)) (rK12_19 C k r8.1 r33.1 v32 v7 undefV r35.2)))))))))))))))))))))))))))))))
theorem rp12 (C : Nat → List V → H → Rr) (k : Nat) : dn C k c12 (rQ12 C k) = fun e h => (rK12 C k h) := by
  refine Eq.trans (rseq_eq (rseq_eq (rseq_eq (rseq_eq (rseq_eq (rseq_eq (rseq_eq rfl (rregion_eq (rapp_eq (rgrp_eq2 30 true rfl (rp12_19 C k) rfl) rfl))) rfl) rfl) rfl) rfl) rfl) rfl) ?_
  kernel_rfl
def F12 : RF := fun C k a h => match a with
  | [] => rK12 C k h
  | _ => none
theorem ro12 : RunOK IP 12 F12 := ⟨ir12, ip12, by kernel_rfl, fun C k a h r e => by
  unfold F12 at e
  split at e
  · exact ⟨by kernel_rfl, (congrFun (congrFun (rp12 C k) _) h).trans e⟩
  · cases e⟩
theorem ip13 : IP 13 = some ir13 := rfl
def Q13 [q : Hid (V → H → Prop)] : X → E → H → Prop := Qr rs13 q.un
def K13 (x0 : V) (h : H) [q : Hid (V → H → Prop)] : Prop := @Bnd V (vEqz false .p x0 (.p none)) ⟨fun v1 => @Sel v1 ⟨@Hid.un (V → H → Prop) q (.i .i64 0) h⟩ ⟨@Bnd V (vNilc x0) ⟨fun v2 => @Bnd V (vFa 3 v2) ⟨fun v3 => @Bnd V (vLd1 h v3) ⟨fun v4 => @wF IP 31 [v4] h ⟨fun v5 h6 => @wF IP 14 [x0] h6 ⟨fun v7 h8 => @Bnd V (bin .add v5 v7) ⟨fun v9 => @Hid.un (V → H → Prop) q v9 h8⟩⟩⟩⟩⟩⟩⟩⟩
theorem p13 [q : Hid (V → H → Prop)] : den IP c13 (@Q13 q) = fun e h => @K13 (e 0) h q := by kernel_rfl
theorem f13 (a0 : V) (h : H) (Q : V → H → Prop) : @wF IP 13 [a0] h ⟨Q⟩ ↔ @K13 a0 h ⟨Q⟩ := (Fnc_den (ip13) (by kernel_rfl) (by kernel_rfl) h Q).trans (iff_of_eq (congrFun (congrFun (@p13 ⟨Q⟩) _) h))
def rQ13 (C : Nat → List V → H → Rr) (k : Nat) : X → E → H → Rr := Qrr rs13
def rK13 (C : Nat → List V → H → Rr) (k : Nat) (x0 : V) (h : H) : Rr := (rB (vEqz false .p x0 (.p none)) fun v1 => (rS v1 (some ((.i .i64 0), h)) (rB (vNilc x0) fun v2 => (rB (vFa 3 v2) fun v3 => (rB (vLd1 h v3) fun v4 => (rK (C 31 [v4] h) fun v5 h6 => (rK (C 14 [x0] h6) fun v7 h8 => (rB (bin .add v5 v7) fun v9 => (some (v9, h8))))))))))
theorem rp13 (C : Nat → List V → H → Rr) (k : Nat) : dn C k c13 (rQ13 C k) = fun e h => (rK13 C k (e 0) h) := by kernel_rfl
def F13 : RF := fun C k a h => match a with
  | [a0] => rK13 C k a0 h
  | _ => none
theorem ro13 : RunOK IP 13 F13 := ⟨ir13, ip13, by kernel_rfl, fun C k a h r e => by
  unfold F13 at e
  split at e
  · exact ⟨by kernel_rfl, (congrFun (congrFun (rp13 C k) _) h).trans e⟩
  · cases e⟩
theorem ip14 : IP 14 = some ir14 := rfl
def Q14 [q : Hid (V → H → Prop)] : X → E → H → Prop := Qr rs14 q.un
def Q14_1 [q : Hid (V → H → Prop)] : X → E → H → Prop := (@Q14 q)
def Q14_2 [q : Hid (V → H → Prop)] : X → E → H → Prop := (@Q14_1 q)
def K14_2 (x3 : V) (h : H) [q : Hid (V → H → Prop)] : Prop := @Hid.un (V → H → Prop) q x3 h
def J14_2 [q : Hid (V → H → Prop)] : E → H → Prop := fun e h => @K14_2 (e 3) h q
theorem p14_2 [q : Hid (V → H → Prop)] : den IP c14_2 (@Q14_2 q) = (@J14_2 q) := by kernel_rfl
def K14_1 (x0 x3 : V) (h : H) [q : Hid (V → H → Prop)] : Prop := @Bnd V (vNilc x0) ⟨fun v1 => @Bnd V (vFa 9 v1) ⟨fun v2 => @Bnd V (vLd1 h v2) ⟨fun v3 => @Bnd V (bin .eql v3 (.i .i64 2)) ⟨fun v4 => @Sel v4 ⟨@Bnd V (bin .add x3 (.i .i64 1)) ⟨fun v5 => @K14_2 v5 h q⟩⟩ ⟨@K14_2 x3 h q⟩⟩⟩⟩⟩
def J14_1 [q : Hid (V → H → Prop)] : E → H → Prop := fun e h => @K14_1 (e 0) (e 3) h q
theorem p14_1 [q : Hid (V → H → Prop)] : den IP c14_1 (@Q14_1 q) = (@J14_1 q) := by
  refine Eq.trans (seq_eq (@p14_2 q) rfl) ?_
  kernel_rfl
def R14_3 [q : Hid (V → H → Prop)] : X → E → H → Prop := (Qb 0 (Qx (@J14_1 q) (@Q14 q)))
def Q14_3 [q : Hid (V → H → Prop)] [g14_3 : Hid (V → V → V → V → V → H → Prop)] : X → E → H → Prop := Qx (fun e h => g14_3.un (e 0) (e 3) (e 12) (e 13) (e 14) h) (@R14_3 q)
def L14_3 (x0 x3 x12 x13 x14 : V) (h : H) [q : Hid (V → H → Prop)] [g14_3 : Hid (V → V → V → V → V → H → Prop)] : Prop := @Bnd V (bin .lss x14 x13) ⟨fun v1 => @Sel v1 ⟨@Bnd V (vIa 1 x12 x14) ⟨fun v2 => @Bnd V (vLd1 h v2) ⟨fun v3 => @Bnd V (vLens v3) ⟨fun v4 => @Bnd V (bin .add x3 v4) ⟨fun v5 => @Bnd V (bin .add x14 (.i .i64 1)) ⟨fun v6 => @Hid.un (V → V → V → V → V → H → Prop) g14_3 x0 v5 x12 x13 v6 h⟩⟩⟩⟩⟩⟩ ⟨@K14_1 x0 x3 h q⟩⟩
theorem p14_3 [q : Hid (V → H → Prop)] [g14_3 : Hid (V → V → V → V → V → H → Prop)] : den IP c14_3 (@Q14_3 q g14_3) = fun e h => @L14_3 (e 0) (e 3) (e 12) (e 13) (e 14) h q g14_3 := by kernel_rfl
def W14_3 (x0 x3 x12 x13 x14 : V) (h : H) [q : Hid (V → H → Prop)] : Prop := wFix (fun (g : V × V × V × V × V × Unit → H → Prop) (x : V × V × V × V × V × Unit) h => @L14_3 x.1 x.2.1 x.2.2.1 x.2.2.2.1 x.2.2.2.2.1 h q ⟨fun y0 y3 y12 y13 y14 h => g (y0, y3, y12, y13, y14, ()) h⟩) (x0, x3, x12, x13, x14, ()) h
theorem n14_3 [q : Hid (V → H → Prop)] : ∀ g : V × V × V × V × V × Unit → H → Prop, den IP c14_3 (Qx (fun e h => g ((fun e : E => ((e 0, e 3, e 12, e 13, e 14, ()) : V × V × V × V × V × Unit)) e) h) (@R14_3 q)) = fun e h => (fun (g : V × V × V × V × V × Unit → H → Prop) (x : V × V × V × V × V × Unit) h => @L14_3 x.1 x.2.1 x.2.2.1 x.2.2.2.1 x.2.2.2.2.1 h q ⟨fun y0 y3 y12 y13 y14 h => g (y0, y3, y12, y13, y14, ()) h⟩) g ((fun e : E => ((e 0, e 3, e 12, e 13, e 14, ()) : V × V × V × V × V × Unit)) e) h := fun g => @p14_3 q ⟨fun y0 y3 y12 y13 y14 h => g (y0, y3, y12, y13, y14, ()) h⟩
theorem w14_3 [q : Hid (V → H → Prop)] : den IP (.loop c14_3) (@R14_3 q) = fun e h => @W14_3 (e 0) (e 3) (e 12) (e 13) (e 14) h q := loop_eq (fun e : E => ((e 0, e 3, e 12, e 13, e 14, ()) : V × V × V × V × V × Unit)) (fun (g : V × V × V × V × V × Unit → H → Prop) (x : V × V × V × V × V × Unit) h => @L14_3 x.1 x.2.1 x.2.2.1 x.2.2.2.1 x.2.2.2.2.1 h q ⟨fun y0 y3 y12 y13 y14 h => g (y0, y3, y12, y13, y14, ()) h⟩) (@n14_3 q)
theorem m14_3 [q : Hid (V → H → Prop)] : Mono (fun (g : V × V × V × V × V × Unit → H → Prop) (x : V × V × V × V × V × Unit) h => @L14_3 x.1 x.2.1 x.2.2.1 x.2.2.2.1 x.2.2.2.2.1 h q ⟨fun y0 y3 y12 y13 y14 h => g (y0, y3, y12, y13, y14, ()) h⟩) := mono_of (p := (fun e : E => ((e 0, e 3, e 12, e 13, e 14, ()) : V × V × V × V × V × Unit))) (fun x : V × V × V × V × V × Unit => upd (upd (upd (upd (upd (fun _ => undefV) 14 (x.2.2.2.2.1)) 13 (x.2.2.2.1)) 12 (x.2.2.1)) 3 (x.2.1)) 0 (x.1)) (fun _ => rfl) (@n14_3 q)
theorem W14_3_inv {q : Hid (V → H → Prop)} (I : Nat → V → V → V → V → V → H → Prop) (step : ∀ n x0 x3 x12 x13 x14 h, I n x0 x3 x12 x13 x14 h → @L14_3 x0 x3 x12 x13 x14 h q ⟨fun y0 y3 y12 y13 y14 h => ∃ m, m < n ∧ I m y0 y3 y12 y13 y14 h⟩) (n : Nat) (x0 x3 x12 x13 x14 : V) (h : H) (hi : I n x0 x3 x12 x13 x14 h) : @W14_3 x0 x3 x12 x13 x14 h q :=
  wFix_inv (@m14_3 q) (fun n x h => I n x.1 x.2.1 x.2.2.1 x.2.2.2.1 x.2.2.2.2.1 h) (fun n x h hi => step n x.1 x.2.1 x.2.2.1 x.2.2.2.1 x.2.2.2.2.1 h hi) n (x0, x3, x12, x13, x14, ()) h hi
theorem W14_3_eq (x0 x3 x12 x13 x14 : V) (h : H) {q : Hid (V → H → Prop)} : @W14_3 x0 x3 x12 x13 x14 h q ↔ @L14_3 x0 x3 x12 x13 x14 h q ⟨fun y0 y3 y12 y13 y14 h => @W14_3 y0 y3 y12 y13 y14 h q⟩ := wFix_unroll (@m14_3 q) (x0, x3, x12, x13, x14, ()) h
def K14 (x0 : V) (h : H) [q : Hid (V → H → Prop)] : Prop := @Bnd V (vEqz false .p x0 (.p none)) ⟨fun v1 => @Sel v1 ⟨@Hid.un (V → H → Prop) q (.i .i64 0) h⟩ ⟨@Bnd V (vNilc x0) ⟨fun v2 => @Bnd V (vFa 6 v2) ⟨fun v3 => @Bnd V (vLd1 h v3) ⟨fun v4 => @Bnd V (vLens v4) ⟨fun v5 => @W14_3 x0 (.i .i64 0) v4 v5 (.i .i64 0) h q⟩⟩⟩⟩⟩⟩
theorem p14 [q : Hid (V → H → Prop)] : den IP c14 (@Q14 q) = fun e h => @K14 (e 0) h q := by
  refine Eq.trans (seq_eq (seq_eq (seq_eq (seq_eq (@p14_1 q) (seq_eq (block_eq (@w14_3 q)) rfl)) rfl) rfl) rfl) ?_
  kernel_rfl
theorem f14 (a0 : V) (h : H) (Q : V → H → Prop) : @wF IP 14 [a0] h ⟨Q⟩ ↔ @K14 a0 h ⟨Q⟩ := (Fnc_den (ip14) (by kernel_rfl) (by kernel_rfl) h Q).trans (iff_of_eq (congrFun (congrFun (@p14 ⟨Q⟩) _) h))
def rQ14 (C : Nat → List V → H → Rr) (k : Nat) : X → E → H → Rr := Qrr rs14
def rQ14_1 (C : Nat → List V → H → Rr) (k : Nat) : X → E → H → Rr := (rQ14 C k)
def rQ14_2 (C : Nat → List V → H → Rr) (k : Nat) : X → E → H → Rr := (rQ14_1 C k)
def rK14_2 (C : Nat → List V → H → Rr) (k : Nat) (x3 : V) (h : H) : Rr := (some (x3, h))
def rJ14_2 (C : Nat → List V → H → Rr) (k : Nat) : E → H → Rr := fun e h => (rK14_2 C k (e 3) h)
theorem rp14_2 (C : Nat → List V → H → Rr) (k : Nat) : dn C k c14_2 (rQ14_2 C k) = (rJ14_2 C k) := by kernel_rfl
def rK14_1 (C : Nat → List V → H → Rr) (k : Nat) (x0 x3 : V) (h : H) : Rr := (rB (vNilc x0) fun v1 => (rB (vFa 9 v1) fun v2 => (rB (vLd1 h v2) fun v3 => (rB (bin .eql v3 (.i .i64 2)) fun v4 => (rS v4 (rB (bin .add x3 (.i .i64 1)) fun v5 => (rK14_2 C k v5 h)) (rK14_2 C k x3 h))))))
def rJ14_1 (C : Nat → List V → H → Rr) (k : Nat) : E → H → Rr := fun e h => (rK14_1 C k (e 0) (e 3) h)
theorem rp14_1 (C : Nat → List V → H → Rr) (k : Nat) : dn C k c14_1 (rQ14_1 C k) = (rJ14_1 C k) := by
  refine Eq.trans (rseq_eq (rp14_2 C k) rfl) ?_
  kernel_rfl
def rR14_3 (C : Nat → List V → H → Rr) (k : Nat) : X → E → H → Rr := (Qbr 0 (Qxr (rJ14_1 C k) (rQ14 C k)))
def rQ14_3 (C : Nat → List V → H → Rr) (k : Nat) (g14_3 : V → V → V → V → V → H → Rr) : X → E → H → Rr := Qxr (fun e h => g14_3 (e 0) (e 3) (e 12) (e 13) (e 14) h) (rR14_3 C k)
def rL14_3 (C : Nat → List V → H → Rr) (k : Nat) (g14_3 : V → V → V → V → V → H → Rr) (x0 x3 x12 x13 x14 : V) (h : H) : Rr := (rB (bin .lss x14 x13) fun v1 => (rS v1 (rB (vIa 1 x12 x14) fun v2 => (rB (vLd1 h v2) fun v3 => (rB (vLens v3) fun v4 => (rB (bin .add x3 v4) fun v5 => (rB (bin .add x14 (.i .i64 1)) fun v6 => (g14_3 x0 v5 x12 x13 v6 h)))))) (rK14_1 C k x0 x3 h)))
theorem rp14_3 (C : Nat → List V → H → Rr) (k : Nat) (g14_3 : V → V → V → V → V → H → Rr) : dn C k c14_3 (rQ14_3 C k g14_3) = fun e h => (rL14_3 C k g14_3 (e 0) (e 3) (e 12) (e 13) (e 14) h) := by kernel_rfl
def rW14_3 (C : Nat → List V → H → Rr) (k : Nat) (x0 x3 x12 x13 x14 : V) (h : H) : Rr := rFix k (fun (g : V × V × V × V × V × Unit → H → Rr) (x : V × V × V × V × V × Unit) h => rL14_3 C k (fun y0 y3 y12 y13 y14 h => g (y0, y3, y12, y13, y14, ()) h) x.1 x.2.1 x.2.2.1 x.2.2.2.1 x.2.2.2.2.1 h) (x0, x3, x12, x13, x14, ()) h
theorem rn14_3 (C : Nat → List V → H → Rr) (k : Nat) : ∀ g : V × V × V × V × V × Unit → H → Rr, dn C k c14_3 (Qxr (fun e h => g ((fun e : E => ((e 0, e 3, e 12, e 13, e 14, ()) : V × V × V × V × V × Unit)) e) h) (rR14_3 C k)) = fun e h => (fun (g : V × V × V × V × V × Unit → H → Rr) (x : V × V × V × V × V × Unit) h => rL14_3 C k (fun y0 y3 y12 y13 y14 h => g (y0, y3, y12, y13, y14, ()) h) x.1 x.2.1 x.2.2.1 x.2.2.2.1 x.2.2.2.2.1 h) g ((fun e : E => ((e 0, e 3, e 12, e 13, e 14, ()) : V × V × V × V × V × Unit)) e) h := fun g => rp14_3 C k (fun y0 y3 y12 y13 y14 h => g (y0, y3, y12, y13, y14, ()) h)
theorem rw14_3 (C : Nat → List V → H → Rr) (k : Nat) : dn C k (.loop c14_3) (rR14_3 C k) = fun e h => (rW14_3 C k (e 0) (e 3) (e 12) (e 13) (e 14) h) := rloop_eq (fun e : E => ((e 0, e 3, e 12, e 13, e 14, ()) : V × V × V × V × V × Unit)) (fun (g : V × V × V × V × V × Unit → H → Rr) (x : V × V × V × V × V × Unit) h => rL14_3 C k (fun y0 y3 y12 y13 y14 h => g (y0, y3, y12, y13, y14, ()) h) x.1 x.2.1 x.2.2.1 x.2.2.2.1 x.2.2.2.2.1 h) (rn14_3 C k)
def rK14 (C : Nat → List V → H → Rr) (k : Nat) (x0 : V) (h : H) : Rr := (rB (vEqz false .p x0 (.p none)) fun v1 => (rS v1 (some ((.i .i64 0), h)) (rB (vNilc x0) fun v2 => (rB (vFa 6 v2) fun v3 => (rB (vLd1 h v3) fun v4 => (rB (vLens v4) fun v5 => (rW14_3 C k x0 (.i .i64 0) v4 v5 (.i .i64 0) h)))))))
theorem rp14 (C : Nat → List V → H → Rr) (k : Nat) : dn C k c14 (rQ14 C k) = fun e h => (rK14 C k (e 0) h) := by
  refine Eq.trans (rseq_eq (rseq_eq (rseq_eq (rseq_eq (rp14_1 C k) (rseq_eq (rblock_eq (rw14_3 C k)) rfl)) rfl) rfl) rfl) ?_
  kernel_rfl
def F14 : RF := fun C k a h => match a with
  | [a0] => rK14 C k a0 h
  | _ => none
theorem ro14 : RunOK IP 14 F14 := ⟨ir14, ip14, by kernel_rfl, fun C k a h r e => by
  unfold F14 at e
  split at e
  · exact ⟨by kernel_rfl, (congrFun (congrFun (rp14 C k) _) h).trans e⟩
  · cases e⟩
theorem ip15 : IP 15 = some ir15 := rfl
def Q15 [q : Hid (V → H → Prop)] : X → E → H → Prop := Qr rs15 q.un
def Q15_1 [q : Hid (V → H → Prop)] : X → E → H → Prop := (@Q15 q)
def K15_1 (x0 : V) (h : H) [q : Hid (V → H → Prop)] : Prop := @Bnd (V × H) (vMake 8 [(.i .u64 0)] x0 h) ⟨fun r1 => @Bnd V (vBld [.nsl, .nsl, (.i .i64 0)] [(0, 1, r1.1)]) ⟨fun v2 => @Bnd (V × H) (vBox v2 r1.2) ⟨fun r3 => @Hid.un (V → H → Prop) q r3.1 r3.2⟩⟩⟩
def J15_1 [q : Hid (V → H → Prop)] : E → H → Prop := fun e h => @K15_1 (e 0) h q
theorem p15_1 [q : Hid (V → H → Prop)] : den IP c15_1 (@Q15_1 q) = (@J15_1 q) := by kernel_rfl
def Q15_2 [q : Hid (V → H → Prop)] : X → E → H → Prop := (Qx (@J15_1 q) (@Q15 q))
def K15_2 (x0 x8 : V) (h : H) [q : Hid (V → H → Prop)] : Prop := @Sel x8 ⟨@Hid.un (V → H → Prop) q (.p none) h⟩ ⟨@K15_1 x0 h q⟩
def J15_2 [q : Hid (V → H → Prop)] : E → H → Prop := fun e h => @K15_2 (e 0) (e 8) h q
theorem p15_2 [q : Hid (V → H → Prop)] : den IP c15_2 (@Q15_2 q) = (@J15_2 q) := by kernel_rfl
def S15_6 [q : Hid (V → H → Prop)] : E → H → Prop := ((Qx (@J15_2 q) (Qx (@J15_1 q) (@Q15 q))) X.normal)
def K15_6 (x0 x5 x7 : V) (h : H) [q : Hid (V → H → Prop)] : Prop := @Bnd V (vPick x5 (.b true) x7) ⟨fun v1 => @K15_2 x0 v1 h q⟩
def J15_6 [q : Hid (V → H → Prop)] : E → H → Prop := fun e h => @K15_6 (e 0) (e 5) (e 7) h q
theorem p15_6 [q : Hid (V → H → Prop)] : denOps IP o15_3 (@S15_6 q) = (@J15_6 q) := by
  refine Eq.trans (app_eq rfl rfl) ?_
  kernel_rfl
def K15 (x0 : V) (h : H) [q : Hid (V → H → Prop)] : Prop := @Bnd V (bin .lss x0 (.i .i64 1)) ⟨fun v1 => @Grd v1 false ⟨@Bnd V (bin .gtr x0 (.i .i64 16384)) ⟨fun v2 => @K15_6 x0 v1 v2 h q⟩⟩ ⟨@K15_6 x0 v1 undefV h q⟩⟩
theorem p15 [q : Hid (V → H → Prop)] : den IP c15 (@Q15 q) = fun e h => @K15 (e 0) h q := by
  refine Eq.trans (seq_eq (seq_eq (@p15_1 q) (seq_eq (@p15_2 q) (region_eq (app_eq (grp_eq2 5 false rfl (@p15_6 q) rfl) rfl)))) rfl) ?_
  kernel_rfl
theorem f15 (a0 : V) (h : H) (Q : V → H → Prop) : @wF IP 15 [a0] h ⟨Q⟩ ↔ @K15 a0 h ⟨Q⟩ := (Fnc_den (ip15) (by kernel_rfl) (by kernel_rfl) h Q).trans (iff_of_eq (congrFun (congrFun (@p15 ⟨Q⟩) _) h))
def rQ15 (C : Nat → List V → H → Rr) (k : Nat) : X → E → H → Rr := Qrr rs15
def rQ15_1 (C : Nat → List V → H → Rr) (k : Nat) : X → E → H → Rr := (rQ15 C k)
def rK15_1 (C : Nat → List V → H → Rr) (k : Nat) (x0 : V) (h : H) : Rr := (rB (vMake 8 [(.i .u64 0)] x0 h) fun r1 => (rB (vBld [.nsl, .nsl, (.i .i64 0)] [(0, 1, r1.1)]) fun v2 => (rB (vBox v2 r1.2) fun r3 => (some (r3.1, r3.2)))))
def rJ15_1 (C : Nat → List V → H → Rr) (k : Nat) : E → H → Rr := fun e h => (rK15_1 C k (e 0) h)
theorem rp15_1 (C : Nat → List V → H → Rr) (k : Nat) : dn C k c15_1 (rQ15_1 C k) = (rJ15_1 C k) := by kernel_rfl
def rQ15_2 (C : Nat → List V → H → Rr) (k : Nat) : X → E → H → Rr := (Qxr (rJ15_1 C k) (rQ15 C k))
def rK15_2 (C : Nat → List V → H → Rr) (k : Nat) (x0 x8 : V) (h : H) : Rr := (rS x8 (some ((.p none), h)) (rK15_1 C k x0 h))
def rJ15_2 (C : Nat → List V → H → Rr) (k : Nat) : E → H → Rr := fun e h => (rK15_2 C k (e 0) (e 8) h)
theorem rp15_2 (C : Nat → List V → H → Rr) (k : Nat) : dn C k c15_2 (rQ15_2 C k) = (rJ15_2 C k) := by kernel_rfl
def rS15_6 (C : Nat → List V → H → Rr) (k : Nat) : E → H → Rr := ((Qxr (rJ15_2 C k) (Qxr (rJ15_1 C k) (rQ15 C k))) X.normal)
def rK15_6 (C : Nat → List V → H → Rr) (k : Nat) (x0 x5 x7 : V) (h : H) : Rr := (rB (vPick x5 (.b true) x7) fun v1 => (rK15_2 C k x0 v1 h))
def rJ15_6 (C : Nat → List V → H → Rr) (k : Nat) : E → H → Rr := fun e h => (rK15_6 C k (e 0) (e 5) (e 7) h)
theorem rp15_6 (C : Nat → List V → H → Rr) (k : Nat) : dnOps C o15_3 (rS15_6 C k) = (rJ15_6 C k) := by
  refine Eq.trans (rapp_eq rfl rfl) ?_
  kernel_rfl
def rK15 (C : Nat → List V → H → Rr) (k : Nat) (x0 : V) (h : H) : Rr := (rB (bin .lss x0 (.i .i64 1)) fun v1 => (rG v1 false (rB (bin .gtr x0 (.i .i64 16384)) fun v2 => (rK15_6 C k x0 v1 v2 h)) (rK15_6 C k x0 v1 undefV h)))
theorem rp15 (C : Nat → List V → H → Rr) (k : Nat) : dn C k c15 (rQ15 C k) = fun e h => (rK15 C k (e 0) h) := by
  refine Eq.trans (rseq_eq (rseq_eq (rp15_1 C k) (rseq_eq (rp15_2 C k) (rregion_eq (rapp_eq (rgrp_eq2 5 false rfl (rp15_6 C k) rfl) rfl)))) rfl) ?_
  kernel_rfl
def F15 : RF := fun C k a h => match a with
  | [a0] => rK15 C k a0 h
  | _ => none
theorem ro15 : RunOK IP 15 F15 := ⟨ir15, ip15, by kernel_rfl, fun C k a h r e => by
  unfold F15 at e
  split at e
  · exact ⟨by kernel_rfl, (congrFun (congrFun (rp15 C k) _) h).trans e⟩
  · cases e⟩
theorem ip16 : IP 16 = some ir16 := rfl
def Q16 [q : Hid (V → H → Prop)] : X → E → H → Prop := Qr rs16 q.un
def Q16_1 [q : Hid (V → H → Prop)] : X → E → H → Prop := (@Q16 q)
def Q16_2 [q : Hid (V → H → Prop)] : X → E → H → Prop := (@Q16_1 q)
def K16_2 (x0 x1 : V) (h : H) [q : Hid (V → H → Prop)] : Prop := @Bnd V (vNilc x0) ⟨fun v1 => @Bnd V (vFa 9 v1) ⟨fun v2 => @Bnd V (vLd1 h v2) ⟨fun v3 => @Bnd V (bin .eql v3 (.i .i64 1)) ⟨fun v4 => @Sel v4 ⟨@wF IP 34 [x0, x1] h ⟨fun v5 h6 => @Hid.un (V → H → Prop) q (.tup []) h6⟩⟩ ⟨@wF IP 35 [x0, x1] h ⟨fun v7 h8 => @Hid.un (V → H → Prop) q (.tup []) h8⟩⟩⟩⟩⟩⟩
def J16_2 [q : Hid (V → H → Prop)] : E → H → Prop := fun e h => @K16_2 (e 0) (e 1) h q
theorem p16_2 [q : Hid (V → H → Prop)] : den IP c16_2 (@Q16_2 q) = (@J16_2 q) := by kernel_rfl
def K16_1 (x0 x1 x2 : V) (h : H) [q : Hid (V → H → Prop)] : Prop := @wF IP 32 [x0, x2] h ⟨fun v1 h2 => @Bnd V (vNilc x0) ⟨fun v3 => @Bnd V (vFa 9 v3) ⟨fun v4 => @Bnd V (vLd1 h2 v4) ⟨fun v5 => @Bnd V (bin .eql v5 (.i .i64 0)) ⟨fun v6 => @Sel v6 ⟨@wF IP 33 [x0] h2 ⟨fun v7 h8 => @K16_2 x0 x1 h8 q⟩⟩ ⟨@K16_2 x0 x1 h2 q⟩⟩⟩⟩⟩⟩
def J16_1 [q : Hid (V → H → Prop)] : E → H → Prop := fun e h => @K16_1 (e 0) (e 1) (e 2) h q
theorem p16_1 [q : Hid (V → H → Prop)] : den IP c16_1 (@Q16_1 q) = (@J16_1 q) := by
  refine Eq.trans (seq_eq (seq_eq (@p16_2 q) rfl) rfl) ?_
  kernel_rfl
def Q16_3 [q : Hid (V → H → Prop)] : X → E → H → Prop := (Qx (@J16_1 q) (@Q16 q))
def K16_3 (x0 x1 x2 x11 : V) (h : H) [q : Hid (V → H → Prop)] : Prop := @Sel x11 ⟨@Hid.un (V → H → Prop) q (.tup []) h⟩ ⟨@K16_1 x0 x1 x2 h q⟩
def J16_3 [q : Hid (V → H → Prop)] : E → H → Prop := fun e h => @K16_3 (e 0) (e 1) (e 2) (e 11) h q
theorem p16_3 [q : Hid (V → H → Prop)] : den IP c16_3 (@Q16_3 q) = (@J16_3 q) := by kernel_rfl
def S16_7 [q : Hid (V → H → Prop)] : E → H → Prop := ((Qx (@J16_3 q) (Qx (@J16_1 q) (@Q16 q))) X.normal)
def K16_7 (x0 x1 x2 x8 x10 : V) (h : H) [q : Hid (V → H → Prop)] : Prop := @Bnd V (vPick x8 (.b true) x10) ⟨fun v1 => @K16_3 x0 x1 x2 v1 h q⟩
def J16_7 [q : Hid (V → H → Prop)] : E → H → Prop := fun e h => @K16_7 (e 0) (e 1) (e 2) (e 8) (e 10) h q
theorem p16_7 [q : Hid (V → H → Prop)] : denOps IP o16_4 (@S16_7 q) = (@J16_7 q) := by
  refine Eq.trans (app_eq rfl rfl) ?_
  kernel_rfl
def K16 (x0 x1 x2 : V) (h : H) [q : Hid (V → H → Prop)] : Prop := @Bnd V (vEqz false .p x0 (.p none)) ⟨fun v1 => @Grd v1 false ⟨@Bnd V (vEqz false .p x1 (.p none)) ⟨fun v2 => @K16_7 x0 x1 x2 v1 v2 h q⟩⟩ ⟨@K16_7 x0 x1 x2 v1 undefV h q⟩⟩
theorem p16 [q : Hid (V → H → Prop)] : den IP c16 (@Q16 q) = fun e h => @K16 (e 0) (e 1) (e 2) h q := by
  refine Eq.trans (seq_eq (@p16_1 q) (seq_eq (@p16_3 q) (region_eq (app_eq (grp_eq2 8 false rfl (@p16_7 q) rfl) rfl)))) ?_
  kernel_rfl
theorem f16 (a0 a1 a2 : V) (h : H) (Q : V → H → Prop) : @wF IP 16 [a0, a1, a2] h ⟨Q⟩ ↔ @K16 a0 a1 a2 h ⟨Q⟩ := (Fnc_den (ip16) (by kernel_rfl) (by kernel_rfl) h Q).trans (iff_of_eq (congrFun (congrFun (@p16 ⟨Q⟩) _) h))
def rQ16 (C : Nat → List V → H → Rr) (k : Nat) : X → E → H → Rr := Qrr rs16
def rQ16_1 (C : Nat → List V → H → Rr) (k : Nat) : X → E → H → Rr := (rQ16 C k)
def rQ16_2 (C : Nat → List V → H → Rr) (k : Nat) : X → E → H → Rr := (rQ16_1 C k)
def rK16_2 (C : Nat → List V → H → Rr) (k : Nat) (x0 x1 : V) (h : H) : Rr := (rB (vNilc x0) fun v1 => (rB (vFa 9 v1) fun v2 => (rB (vLd1 h v2) fun v3 => (rB (bin .eql v3 (.i .i64 1)) fun v4 => (rS v4 (rK (C 34 [x0, x1] h) fun v5 h6 => (some ((.tup []), h6))) (rK (C 35 [x0, x1] h) fun v7 h8 => (some ((.tup []), h8))))))))
def rJ16_2 (C : Nat → List V → H → Rr) (k : Nat) : E → H → Rr := fun e h => (rK16_2 C k (e 0) (e 1) h)
theorem rp16_2 (C : Nat → List V → H → Rr) (k : Nat) : dn C k c16_2 (rQ16_2 C k) = (rJ16_2 C k) := by kernel_rfl
def rK16_1 (C : Nat → List V → H → Rr) (k : Nat) (x0 x1 x2 : V) (h : H) : Rr := (rK (C 32 [x0, x2] h) fun v1 h2 => (rB (vNilc x0) fun v3 => (rB (vFa 9 v3) fun v4 => (rB (vLd1 h2 v4) fun v5 => (rB (bin .eql v5 (.i .i64 0)) fun v6 => (rS v6 (rK (C 33 [x0] h2) fun v7 h8 => (rK16_2 C k x0 x1 h8)) (rK16_2 C k x0 x1 h2)))))))
def rJ16_1 (C : Nat → List V → H → Rr) (k : Nat) : E → H → Rr := fun e h => (rK16_1 C k (e 0) (e 1) (e 2) h)
theorem rp16_1 (C : Nat → List V → H → Rr) (k : Nat) : dn C k c16_1 (rQ16_1 C k) = (rJ16_1 C k) := by
  refine Eq.trans (rseq_eq (rseq_eq (rp16_2 C k) rfl) rfl) ?_
  kernel_rfl
def rQ16_3 (C : Nat → List V → H → Rr) (k : Nat) : X → E → H → Rr := (Qxr (rJ16_1 C k) (rQ16 C k))
def rK16_3 (C : Nat → List V → H → Rr) (k : Nat) (x0 x1 x2 x11 : V) (h : H) : Rr := (rS x11 (some ((.tup []), h)) (rK16_1 C k x0 x1 x2 h))
def rJ16_3 (C : Nat → List V → H → Rr) (k : Nat) : E → H → Rr := fun e h => (rK16_3 C k (e 0) (e 1) (e 2) (e 11) h)
theorem rp16_3 (C : Nat → List V → H → Rr) (k : Nat) : dn C k c16_3 (rQ16_3 C k) = (rJ16_3 C k) := by kernel_rfl
def rS16_7 (C : Nat → List V → H → Rr) (k : Nat) : E → H → Rr := ((Qxr (rJ16_3 C k) (Qxr (rJ16_1 C k) (rQ16 C k))) X.normal)
def rK16_7 (C : Nat → List V → H → Rr) (k : Nat) (x0 x1 x2 x8 x10 : V) (h : H) : Rr := (rB (vPick x8 (.b true) x10) fun v1 => (rK16_3 C k x0 x1 x2 v1 h))
def rJ16_7 (C : Nat → List V → H → Rr) (k : Nat) : E → H → Rr := fun e h => (rK16_7 C k (e 0) (e 1) (e 2) (e 8) (e 10) h)
theorem rp16_7 (C : Nat → List V → H → Rr) (k : Nat) : dnOps C o16_4 (rS16_7 C k) = (rJ16_7 C k) := by
  refine Eq.trans (rapp_eq rfl rfl) ?_
  kernel_rfl
def rK16 (C : Nat → List V → H → Rr) (k : Nat) (x0 x1 x2 : V) (h : H) : Rr := (rB (vEqz false .p x0 (.p none)) fun v1 => (rG v1 false (rB (vEqz false .p x1 (.p none)) fun v2 => (rK16_7 C k x0 x1 x2 v1 v2 h)) (rK16_7 C k x0 x1 x2 v1 undefV h)))
theorem rp16 (C : Nat → List V → H → Rr) (k : Nat) : dn C k c16 (rQ16 C k) = fun e h => (rK16 C k (e 0) (e 1) (e 2) h) := by
  refine Eq.trans (rseq_eq (rp16_1 C k) (rseq_eq (rp16_3 C k) (rregion_eq (rapp_eq (rgrp_eq2 8 false rfl (rp16_7 C k) rfl) rfl)))) ?_
  kernel_rfl
def F16 : RF := fun C k a h => match a with
  | [a0, a1, a2] => rK16 C k a0 a1 a2 h
  | _ => none
theorem ro16 : RunOK IP 16 F16 := ⟨ir16, ip16, by kernel_rfl, fun C k a h r e => by
  unfold F16 at e
  split at e
  · exact ⟨by kernel_rfl, (congrFun (congrFun (rp16 C k) _) h).trans e⟩
  · cases e⟩
theorem ip17 : IP 17 = some ir17 := rfl
def Q17 [q : Hid (V → H → Prop)] : X → E → H → Prop := Qr rs17 q.un
def K17 (x0 : V) (h : H) [q : Hid (V → H → Prop)] : Prop := @Bnd V (vEqz false .p x0 (.p none)) ⟨fun v1 => @Sel v1 ⟨@Hid.un (V → H → Prop) q V.nsl h⟩ ⟨@Bnd V (vNilc x0) ⟨fun v2 => @Bnd V (vFa 1 v2) ⟨fun v3 => @Bnd V (vLd1 h v3) ⟨fun v4 => @wF IP 36 [v4] h ⟨fun v5 h6 => @Hid.un (V → H → Prop) q v5 h6⟩⟩⟩⟩⟩⟩
theorem p17 [q : Hid (V → H → Prop)] : den IP c17 (@Q17 q) = fun e h => @K17 (e 0) h q := by kernel_rfl
theorem f17 (a0 : V) (h : H) (Q : V → H → Prop) : @wF IP 17 [a0] h ⟨Q⟩ ↔ @K17 a0 h ⟨Q⟩ := (Fnc_den (ip17) (by kernel_rfl) (by kernel_rfl) h Q).trans (iff_of_eq (congrFun (congrFun (@p17 ⟨Q⟩) _) h))
def rQ17 (C : Nat → List V → H → Rr) (k : Nat) : X → E → H → Rr := Qrr rs17
def rK17 (C : Nat → List V → H → Rr) (k : Nat) (x0 : V) (h : H) : Rr := (rB (vEqz false .p x0 (.p none)) fun v1 => (rS v1 (some (V.nsl, h)) (rB (vNilc x0) fun v2 => (rB (vFa 1 v2) fun v3 => (rB (vLd1 h v3) fun v4 => (rK (C 36 [v4] h) fun v5 h6 => (some (v5, h6))))))))
theorem rp17 (C : Nat → List V → H → Rr) (k : Nat) : dn C k c17 (rQ17 C k) = fun e h => (rK17 C k (e 0) h) := by kernel_rfl
def F17 : RF := fun C k a h => match a with
  | [a0] => rK17 C k a0 h
  | _ => none
theorem ro17 : RunOK IP 17 F17 := ⟨ir17, ip17, by kernel_rfl, fun C k a h r e => by
  unfold F17 at e
  split at e
  · exact ⟨by kernel_rfl, (congrFun (congrFun (rp17 C k) _) h).trans e⟩
  · cases e⟩
theorem ip18 : IP 18 = some ir18 := rfl
def Q18 [q : Hid (V → H → Prop)] : X → E → H → Prop := Qr rs18 q.un
def Q18_1 [q : Hid (V → H → Prop)] : X → E → H → Prop := (@Q18 q)
def K18_1 (x1 x2 x5 : V) (h : H) [q : Hid (V → H → Prop)] : Prop := @Bnd V (vLdA h 2 x2) ⟨fun v1 => @wF IP 37 [x1] h ⟨fun v2 h3 => @wF IP 38 [(.i .i64 0)] h3 ⟨fun v4 h5 => @Bnd (V × H) (vMake 8 [(.i .u64 0)] x5 h5) ⟨fun r6 => @Bnd (V × H) (vMake 24 [.nsl] x5 r6.2) ⟨fun r7 => @Bnd V (vBld [(.i .i64 0), (.i .i64 0), .nsl, (.p none), (.i .u64 0), .nsl, .nsl, (.i .i64 0), (.b false), (.i .i64 0), (.i .i64 0), (.i .i64 0), (.i .u64 0), (.i .u64 0), (.i .u64 0), (.i .u64 0), (.i .i64 0), (.b false), (.i .i64 0), (.i .i64 0), (.i .u64 0), (.i .u64 0), (.i .u64 0), (.i .u64 0), (.i .i64 0), (.b false), (.b false), (.i .i64 0), (.i .i64 0), (.i .i64 0), (.i .i64 0), (.i .i64 0), (.i .i64 0)] [(0, 2, v1), (2, 1, v2), (3, 1, v4), (5, 1, r6.1), (6, 1, r7.1)]) ⟨fun v8 => @Bnd (V × H) (vBox v8 r7.2) ⟨fun r9 => @Chk (stdy true 2 x2 h h3) ⟨@Chk (stdy true 2 x2 h3 h5) ⟨@Hid.un (V → H → Prop) q r9.1 r9.2⟩⟩⟩⟩⟩⟩⟩⟩⟩
def J18_1 [q : Hid (V → H → Prop)] : E → H → Prop := fun e h => @K18_1 (e 1) (e 2) (e 5) h q
theorem p18_1 [q : Hid (V → H → Prop)] : den IP c18_1 (@Q18_1 q) = (@J18_1 q) := by kernel_rfl
def Q18_2 [q : Hid (V → H → Prop)] : X → E → H → Prop := (Qx (@J18_1 q) (@Q18 q))
def K18_2 (x1 x2 x5 x13 : V) (h : H) [q : Hid (V → H → Prop)] : Prop := @Sel x13 ⟨@Hid.un (V → H → Prop) q (.p none) h⟩ ⟨@K18_1 x1 x2 x5 h q⟩
def J18_2 [q : Hid (V → H → Prop)] : E → H → Prop := fun e h => @K18_2 (e 1) (e 2) (e 5) (e 13) h q
theorem p18_2 [q : Hid (V → H → Prop)] : den IP c18_2 (@Q18_2 q) = (@J18_2 q) := by kernel_rfl
def S18_6 [q : Hid (V → H → Prop)] : E → H → Prop := ((Qx (@J18_2 q) (Qx (@J18_1 q) (@Q18 q))) X.normal)
def K18_6 (x1 x2 x5 x10 x12 : V) (h : H) [q : Hid (V → H → Prop)] : Prop := @Bnd V (vPick x10 (.b true) x12) ⟨fun v1 => @K18_2 x1 x2 x5 v1 h q⟩
def J18_6 [q : Hid (V → H → Prop)] : E → H → Prop := fun e h => @K18_6 (e 1) (e 2) (e 5) (e 10) (e 12) h q
theorem p18_6 [q : Hid (V → H → Prop)] : denOps IP o18_3 (@S18_6 q) = (@J18_6 q) := by
  refine Eq.trans (app_eq rfl rfl) ?_
  kernel_rfl
def K18 (x0 x1 : V) (h : H) [q : Hid (V → H → Prop)] : Prop := @Bnd (V × H) (vBox x0 h) ⟨fun r1 => @Bnd V (vLens x1) ⟨fun v2 => @Bnd V (bin .lss v2 (.i .i64 1)) ⟨fun v3 => @Grd v3 false ⟨@Bnd V (bin .gtr v2 (.i .i64 4)) ⟨fun v4 => @K18_6 x1 r1.1 v2 v3 v4 r1.2 q⟩⟩ ⟨@K18_6 x1 r1.1 v2 v3 undefV r1.2 q⟩⟩⟩⟩
theorem p18 [q : Hid (V → H → Prop)] : den IP c18 (@Q18 q) = fun e h => @K18 (e 0) (e 1) h q := by
  refine Eq.trans (seq_eq (seq_eq (seq_eq (@p18_1 q) (seq_eq (@p18_2 q) (region_eq (app_eq (grp_eq2 10 false rfl (@p18_6 q) rfl) rfl)))) rfl) rfl) ?_
  kernel_rfl
theorem f18 (a0 a1 : V) (h : H) (Q : V → H → Prop) : @wF IP 18 [a0, a1] h ⟨Q⟩ ↔ @K18 a0 a1 h ⟨Q⟩ := (Fnc_den (ip18) (by kernel_rfl) (by kernel_rfl) h Q).trans (iff_of_eq (congrFun (congrFun (@p18 ⟨Q⟩) _) h))
def rQ18 (C : Nat → List V → H → Rr) (k : Nat) : X → E → H → Rr := Qrr rs18
def rQ18_1 (C : Nat → List V → H → Rr) (k : Nat) : X → E → H → Rr := (rQ18 C k)
def rK18_1 (C : Nat → List V → H → Rr) (k : Nat) (x1 x2 x5 : V) (h : H) : Rr := (rB (vLdA h 2 x2) fun v1 => (rK (C 37 [x1] h) fun v2 h3 => (rK (C 38 [(.i .i64 0)] h3) fun v4 h5 => (rB (vMake 8 [(.i .u64 0)] x5 h5) fun r6 => (rB (vMake 24 [.nsl] x5 r6.2) fun r7 => (rB (vBld [(.i .i64 0), (.i .i64 0), .nsl, (.p none), (.i .u64 0), .nsl, .nsl, (.i .i64 0), (.b false), (.i .i64 0), (.i .i64 0), (.i .i64 0), (.i .u64 0), (.i .u64 0), (.i .u64 0), (.i .u64 0), (.i .i64 0), (.b false), (.i .i64 0), (.i .i64 0), (.i .u64 0), (.i .u64 0), (.i .u64 0), (.i .u64 0), (.i .i64 0), (.b false), (.b false), (.i .i64 0), (.i .i64 0), (.i .i64 0), (.i .i64 0), (.i .i64 0), (.i .i64 0)] [(0, 2, v1), (2, 1, v2), (3, 1, v4), (5, 1, r6.1), (6, 1, r7.1)]) fun v8 => (rB (vBox v8 r7.2) fun r9 => (rC (stdy true 2 x2 h h3) (rC (stdy true 2 x2 h3 h5) (some (r9.1, r9.2)))))))))))
def rJ18_1 (C : Nat → List V → H → Rr) (k : Nat) : E → H → Rr := fun e h => (rK18_1 C k (e 1) (e 2) (e 5) h)
theorem rp18_1 (C : Nat → List V → H → Rr) (k : Nat) : dn C k c18_1 (rQ18_1 C k) = (rJ18_1 C k) := by kernel_rfl
def rQ18_2 (C : Nat → List V → H → Rr) (k : Nat) : X → E → H → Rr := (Qxr (rJ18_1 C k) (rQ18 C k))
def rK18_2 (C : Nat → List V → H → Rr) (k : Nat) (x1 x2 x5 x13 : V) (h : H) : Rr := (rS x13 (some ((.p none), h)) (rK18_1 C k x1 x2 x5 h))
def rJ18_2 (C : Nat → List V → H → Rr) (k : Nat) : E → H → Rr := fun e h => (rK18_2 C k (e 1) (e 2) (e 5) (e 13) h)
theorem rp18_2 (C : Nat → List V → H → Rr) (k : Nat) : dn C k c18_2 (rQ18_2 C k) = (rJ18_2 C k) := by kernel_rfl
def rS18_6 (C : Nat → List V → H → Rr) (k : Nat) : E → H → Rr := ((Qxr (rJ18_2 C k) (Qxr (rJ18_1 C k) (rQ18 C k))) X.normal)
def rK18_6 (C : Nat → List V → H → Rr) (k : Nat) (x1 x2 x5 x10 x12 : V) (h : H) : Rr := (rB (vPick x10 (.b true) x12) fun v1 => (rK18_2 C k x1 x2 x5 v1 h))
def rJ18_6 (C : Nat → List V → H → Rr) (k : Nat) : E → H → Rr := fun e h => (rK18_6 C k (e 1) (e 2) (e 5) (e 10) (e 12) h)
theorem rp18_6 (C : Nat → List V → H → Rr) (k : Nat) : dnOps C o18_3 (rS18_6 C k) = (rJ18_6 C k) := by
  refine Eq.trans (rapp_eq rfl rfl) ?_
  kernel_rfl
def rK18 (C : Nat → List V → H → Rr) (k : Nat) (x0 x1 : V) (h : H) : Rr := (rB (vBox x0 h) fun r1 => (rB (vLens x1) fun v2 => (rB (bin .lss v2 (.i .i64 1)) fun v3 => (rG v3 false (rB (bin .gtr v2 (.i .i64 4)) fun v4 => (rK18_6 C k x1 r1.1 v2 v3 v4 r1.2)) (rK18_6 C k x1 r1.1 v2 v3 undefV r1.2)))))
theorem rp18 (C : Nat → List V → H → Rr) (k : Nat) : dn C k c18 (rQ18 C k) = fun e h => (rK18 C k (e 0) (e 1) h) := by
  refine Eq.trans (rseq_eq (rseq_eq (rseq_eq (rp18_1 C k) (rseq_eq (rp18_2 C k) (rregion_eq (rapp_eq (rgrp_eq2 10 false rfl (rp18_6 C k) rfl) rfl)))) rfl) rfl) ?_
  kernel_rfl
def F18 : RF := fun C k a h => match a with
  | [a0, a1] => rK18 C k a0 a1 h
  | _ => none
theorem ro18 : RunOK IP 18 F18 := ⟨ir18, ip18, by kernel_rfl, fun C k a h r e => by
  unfold F18 at e
  split at e
  · exact ⟨by kernel_rfl, (congrFun (congrFun (rp18 C k) _) h).trans e⟩
  · cases e⟩
theorem ip19 : IP 19 = some ir19 := rfl
def rQ19 (C : Nat → List V → H → Rr) (k : Nat) : X → E → H → Rr := Qrr rs19
def rQ19_1 (C : Nat → List V → H → Rr) (k : Nat) : X → E → H → Rr := (rQ19 C k)
def rQ19_2 (C : Nat → List V → H → Rr) (k : Nat) : X → E → H → Rr := (rQ19_1 C k)
def rK19_2 (C : Nat → List V → H → Rr) (k : Nat) (h : H) : Rr := (some ((.i .i64 0), h))
def rJ19_2 (C : Nat → List V → H → Rr) (k : Nat) : E → H → Rr := fun e h => (rK19_2 C k h)
theorem rp19_2 (C : Nat → List V → H → Rr) (k : Nat) : dn C k c19_2 (rQ19_2 C k) = (rJ19_2 C k) := by kernel_rfl
def rR19_3 (C : Nat → List V → H → Rr) (k : Nat) : X → E → H → Rr := (Qbr 0 (Qxr (rJ19_2 C k) (rQ19_1 C k)))
def rQ19_3 (C : Nat → List V → H → Rr) (k : Nat) (g19_3 : V → V → V → V → H → Rr) : X → E → H → Rr := Qxr (fun e h => g19_3 (e 0) (e 3) (e 26) (e 27) h) (rR19_3 C k)
def rQ19_4 (C : Nat → List V → H → Rr) (k : Nat) (g19_3 : V → V → V → V → H → Rr) : X → E → H → Rr := (rQ19_3 C k g19_3)
def rK19_4 (C : Nat → List V → H → Rr) (k : Nat) (g19_3 : V → V → V → V → H → Rr) (x0 x3 x26 x27 : V) (h : H) : Rr := (rB (bin .add x27 (.i .i64 1)) fun v1 => (g19_3 x0 x3 x26 v1 h))
def rJ19_4 (C : Nat → List V → H → Rr) (k : Nat) (g19_3 : V → V → V → V → H → Rr) : E → H → Rr := fun e h => (rK19_4 C k g19_3 (e 0) (e 3) (e 26) (e 27) h)
theorem rp19_4 (C : Nat → List V → H → Rr) (k : Nat) (g19_3 : V → V → V → V → H → Rr) : dn C k c19_4 (rQ19_4 C k g19_3) = (rJ19_4 C k g19_3) := by kernel_rfl
def rR19_5 (C : Nat → List V → H → Rr) (k : Nat) (g19_3 : V → V → V → V → H → Rr) : X → E → H → Rr := (Qbr 2 (Qbr 1 (Qxr (rJ19_4 C k g19_3) (rQ19_3 C k g19_3))))
def rQ19_5 (C : Nat → List V → H → Rr) (k : Nat) (g19_3 : V → V → V → V → H → Rr) (g19_5 : V → V → V → V → V → V → H → Rr) : X → E → H → Rr := Qxr (fun e h => g19_5 (e 0) (e 3) (e 5) (e 26) (e 27) (e 38) h) (rR19_5 C k g19_3)
def rL19_5 (C : Nat → List V → H → Rr) (k : Nat) (g19_3 : V → V → V → V → H → Rr) (g19_5 : V → V → V → V → V → V → H → Rr) (x0 x3 x5 x26 x27 x38 : V) (h : H) : Rr := (rB (bin .lss x38 (.i .i64 3)) fun v1 => (rS v1 (rB (vLdA h 2 x3) fun v2 => (rB (vCvi .u64 x5) fun v3 => (rK (C 43 [v2, v3] h) fun v4 h5 => (rB (bin .add v4 (.i .i64 1)) fun v6 => (rB (bin .add v6 x38) fun v7 => (rK (C 42 [x0, v7, (.i .u64 0)] h5) fun v8 h9 => (rB (bin .add x38 (.i .i64 1)) fun v10 => (g19_5 x0 x3 x5 x26 x27 v10 h9)))))))) (rK19_4 C k g19_3 x0 x3 x26 x27 h)))
theorem rp19_5 (C : Nat → List V → H → Rr) (k : Nat) (g19_3 : V → V → V → V → H → Rr) (g19_5 : V → V → V → V → V → V → H → Rr) : dn C k c19_5 (rQ19_5 C k g19_3 g19_5) = fun e h => (rL19_5 C k g19_3 g19_5 (e 0) (e 3) (e 5) (e 26) (e 27) (e 38) h) := by kernel_rfl
def rW19_5 (C : Nat → List V → H → Rr) (k : Nat) (g19_3 : V → V → V → V → H → Rr) (x0 x3 x5 x26 x27 x38 : V) (h : H) : Rr := rFix k (fun (g : V × V × V × V × V × V × Unit → H → Rr) (x : V × V × V × V × V × V × Unit) h => rL19_5 C k g19_3 (fun y0 y3 y5 y26 y27 y38 h => g (y0, y3, y5, y26, y27, y38, ()) h) x.1 x.2.1 x.2.2.1 x.2.2.2.1 x.2.2.2.2.1 x.2.2.2.2.2.1 h) (x0, x3, x5, x26, x27, x38, ()) h
theorem rn19_5 (C : Nat → List V → H → Rr) (k : Nat) (g19_3 : V → V → V → V → H → Rr) : ∀ g : V × V × V × V × V × V × Unit → H → Rr, dn C k c19_5 (Qxr (fun e h => g ((fun e : E => ((e 0, e 3, e 5, e 26, e 27, e 38, ()) : V × V × V × V × V × V × Unit)) e) h) (rR19_5 C k g19_3)) = fun e h => (fun (g : V × V × V × V × V × V × Unit → H → Rr) (x : V × V × V × V × V × V × Unit) h => rL19_5 C k g19_3 (fun y0 y3 y5 y26 y27 y38 h => g (y0, y3, y5, y26, y27, y38, ()) h) x.1 x.2.1 x.2.2.1 x.2.2.2.1 x.2.2.2.2.1 x.2.2.2.2.2.1 h) g ((fun e : E => ((e 0, e 3, e 5, e 26, e 27, e 38, ()) : V × V × V × V × V × V × Unit)) e) h := fun g => rp19_5 C k g19_3 (fun y0 y3 y5 y26 y27 y38 h => g (y0, y3, y5, y26, y27, y38, ()) h)
theorem rw19_5 (C : Nat → List V → H → Rr) (k : Nat) (g19_3 : V → V → V → V → H → Rr) : dn C k (.loop c19_5) (rR19_5 C k g19_3) = fun e h => (rW19_5 C k g19_3 (e 0) (e 3) (e 5) (e 26) (e 27) (e 38) h) := rloop_eq (fun e : E => ((e 0, e 3, e 5, e 26, e 27, e 38, ()) : V × V × V × V × V × V × Unit)) (fun (g : V × V × V × V × V × V × Unit → H → Rr) (x : V × V × V × V × V × V × Unit) h => rL19_5 C k g19_3 (fun y0 y3 y5 y26 y27 y38 h => g (y0, y3, y5, y26, y27, y38, ()) h) x.1 x.2.1 x.2.2.1 x.2.2.2.1 x.2.2.2.2.1 x.2.2.2.2.2.1 h) (rn19_5 C k g19_3)
def rL19_3 (C : Nat → List V → H → Rr) (k : Nat) (g19_3 : V → V → V → V → H → Rr) (x0 x3 x26 x27 : V) (h : H) : Rr := (rB (bin .lss x27 x26) fun v1 => (rS v1 (rB (vLdA h 2 x3) fun v2 => (rB (vCvi .u64 x27) fun v3 => (rK (C 43 [v2, v3] h) fun v4 h5 => (rB (vCvi .u64 x27) fun v6 => (rK (C 42 [x0, v4, v6] h5) fun v7 h8 => (rW19_5 C k g19_3 x0 x3 x27 x26 x27 (.i .i64 0) h8)))))) (rK19_2 C k h)))
theorem rp19_3 (C : Nat → List V → H → Rr) (k : Nat) (g19_3 : V → V → V → V → H → Rr) : dn C k c19_3 (rQ19_3 C k g19_3) = fun e h => (rL19_3 C k g19_3 (e 0) (e 3) (e 26) (e 27) h) := by
  refine Eq.trans (rseq_eq (rseq_eq (rseq_eq (rp19_4 C k g19_3) (rblock_eq (rseq_eq (rseq_eq (rseq_eq (rblock_eq (rw19_5 C k g19_3)) rfl) rfl) rfl))) rfl) rfl) ?_
  kernel_rfl
def rW19_3 (C : Nat → List V → H → Rr) (k : Nat) (x0 x3 x26 x27 : V) (h : H) : Rr := rFix k (fun (g : V × V × V × V × Unit → H → Rr) (x : V × V × V × V × Unit) h => rL19_3 C k (fun y0 y3 y26 y27 h => g (y0, y3, y26, y27, ()) h) x.1 x.2.1 x.2.2.1 x.2.2.2.1 h) (x0, x3, x26, x27, ()) h
theorem rn19_3 (C : Nat → List V → H → Rr) (k : Nat) : ∀ g : V × V × V × V × Unit → H → Rr, dn C k c19_3 (Qxr (fun e h => g ((fun e : E => ((e 0, e 3, e 26, e 27, ()) : V × V × V × V × Unit)) e) h) (rR19_3 C k)) = fun e h => (fun (g : V × V × V × V × Unit → H → Rr) (x : V × V × V × V × Unit) h => rL19_3 C k (fun y0 y3 y26 y27 h => g (y0, y3, y26, y27, ()) h) x.1 x.2.1 x.2.2.1 x.2.2.2.1 h) g ((fun e : E => ((e 0, e 3, e 26, e 27, ()) : V × V × V × V × Unit)) e) h := fun g => rp19_3 C k (fun y0 y3 y26 y27 h => g (y0, y3, y26, y27, ()) h)
theorem rw19_3 (C : Nat → List V → H → Rr) (k : Nat) : dn C k (.loop c19_3) (rR19_3 C k) = fun e h => (rW19_3 C k (e 0) (e 3) (e 26) (e 27) h) := rloop_eq (fun e : E => ((e 0, e 3, e 26, e 27, ()) : V × V × V × V × Unit)) (fun (g : V × V × V × V × Unit → H → Rr) (x : V × V × V × V × Unit) h => rL19_3 C k (fun y0 y3 y26 y27 h => g (y0, y3, y26, y27, ()) h) x.1 x.2.1 x.2.2.1 x.2.2.2.1 h) (rn19_3 C k)
def rK19_1 (C : Nat → List V → H → Rr) (k : Nat) (x0 x3 : V) (h : H) : Rr := (rB (vFa 0 x3) fun v1 => (rB (vLd1 h v1) fun v2 => (rK (C 42 [x0, v2, (.i .u64 0)] h) fun v3 h4 => (rB (vFa 1 x3) fun v5 => (rB (vLd1 h4 v5) fun v6 => (rW19_3 C k x0 x3 v6 (.i .i64 0) h4))))))
def rJ19_1 (C : Nat → List V → H → Rr) (k : Nat) : E → H → Rr := fun e h => (rK19_1 C k (e 0) (e 3) h)
theorem rp19_1 (C : Nat → List V → H → Rr) (k : Nat) : dn C k c19_1 (rQ19_1 C k) = (rJ19_1 C k) := by
  refine Eq.trans (rseq_eq (rseq_eq (rp19_2 C k) (rseq_eq (rblock_eq (rw19_3 C k)) rfl)) rfl) ?_
  kernel_rfl
def rQ19_6 (C : Nat → List V → H → Rr) (k : Nat) : X → E → H → Rr := (Qxr (rJ19_1 C k) (rQ19 C k))
def rK19_6 (C : Nat → List V → H → Rr) (k : Nat) (x0 x3 x20 : V) (h : H) : Rr := (rS x20 (some ((.i .i64 1), h)) (rK19_1 C k x0 x3 h))
def rJ19_6 (C : Nat → List V → H → Rr) (k : Nat) : E → H → Rr := fun e h => (rK19_6 C k (e 0) (e 3) (e 20) h)
theorem rp19_6 (C : Nat → List V → H → Rr) (k : Nat) : dn C k c19_6 (rQ19_6 C k) = (rJ19_6 C k) := by kernel_rfl
def rS19_10 (C : Nat → List V → H → Rr) (k : Nat) : List (E × H) → E → H → Rr := (fun st e h => rChk o19_9 ((e, h) :: st) 14 [(5, 8), (5, 11)] ((Qxr (rJ19_6 C k) (Qxr (rJ19_1 C k) (rQ19 C k))) X.normal e h))
def rK19_10 (C : Nat → List V → H → Rr) (k : Nat) (k11_h : H) (k12_h : H) (k5_10 : V) (k5_11 : V) (k8_h : H) (k9_h : H) (x0 x3 x10 x19 : V) (h : H) : Rr := (rB (vPick x10 (.b true) x19) fun v1 => (rC (stdyG k5_10 false (stdy false 1 k5_11 k8_h k9_h)) (rC (stdyG k5_10 false (stdy false 1 k5_11 k11_h k12_h)) (rK19_6 C k x0 x3 v1 h))))
def rJ19_10 (C : Nat → List V → H → Rr) (k : Nat) : List (E × H) → E → H → Rr := fun st e h => (rK19_10 C k (List.getD st 1 eh0).2 (List.getD st 0 eh0).2 ((List.getD st 7 eh0).1 10) ((List.getD st 7 eh0).1 11) (List.getD st 4 eh0).2 (List.getD st 3 eh0).2 (e 0) (e 3) (e 10) (e 19) h)
theorem rp19_10 (C : Nat → List V → H → Rr) (k : Nat) : dnT C o19_7 (rS19_10 C k) = (rJ19_10 C k) := by
  refine Eq.trans (rtapp_eq rfl rfl) ?_
  kernel_rfl
def rK19 (C : Nat → List V → H → Rr) (k : Nat) (x0 x1 : V) (h : H) : Rr := (rB (vBox x1 h) fun r1 => (rB (vLdA r1.2 2 r1.1) fun v2 => (rK (C 39 [v2] r1.2) fun v3 h4 => (rB (un .not v3) fun v5 => (rG v5 false (rB (vFa 0 r1.1) fun v6 => (rB (vLd1 h4 v6) fun v7 => (rB (vFa 1 r1.1) fun v8 => (rB (vLd1 h4 v8) fun v9 => (rK (C 40 [v9] h4) fun v10 h11 => (rB (bin .add v7 v10) fun v12 => (rK (C 41 [x0] h11) fun v13 h14 => (rB (bin .gtr v12 v13) fun v15 => (rK19_10 C k h11 h14 v5 v6 h4 h11 x0 r1.1 v5 v15 h14))))))))) (rK19_10 C k h4 h4 v5 undefV h4 h4 x0 r1.1 v5 undefV h4))))))
theorem rp19 (C : Nat → List V → H → Rr) (k : Nat) : dn C k c19 (rQ19 C k) = fun e h => (rK19 C k (e 0) (e 1) h) := by
  refine Eq.trans (rseq_eq (rseq_eq (rp19_1 C k) (rseq_eq (rp19_6 C k) (rdraw_eq (rtapp_eq (rtgrp_eq2 10 false rfl (rp19_10 C k) rfl) rfl)))) rfl) ?_
  kernel_rfl
def F19 : RF := fun C k a h => match a with
  | [a0, a1] => rK19 C k a0 a1 h
  | _ => none
theorem ro19 : RunOK IP 19 F19 := ⟨ir19, ip19, by kernel_rfl, fun C k a h r e => by
  unfold F19 at e
  split at e
  · exact ⟨by kernel_rfl, (congrFun (congrFun (rp19 C k) _) h).trans e⟩
  · cases e⟩
theorem ip20 : IP 20 = some ir20 := rfl
def rQ20 (C : Nat → List V → H → Rr) (k : Nat) : X → E → H → Rr := Qrr rs20
def rK20 (C : Nat → List V → H → Rr) (k : Nat) (x0 : V) (h : H) : Rr := (rB (vBox x0 h) fun r1 => (rB (some (.p (some (H.nx r1.2, 0)), H.new r1.2 ⟨false, [(.i .i64 0), (.i .i64 0), (.i .i64 0), (.i .i64 0), (.i .i64 0), (.i .u32 0), (.i .i64 0), (.b false), (.b false), (.i .i64 0), (.i .u32 0)]⟩)) fun r2 => (rB (vLdA r2.2 5 r1.1) fun v3 => (rK (C 44 [v3] r2.2) fun v4 h5 => (rB (un .not v4) fun v6 => (rS v6 (rB (vBld [(.i .i64 0), (.i .i64 0), (.i .i64 0), (.i .i64 0), (.i .i64 0), (.i .u32 0), (.i .i64 0), (.b false), (.b false), (.i .i64 0), (.i .u32 0)] []) fun v7 => (rB (vStore h5 11 r2.1 v7) fun r8 => (rB (vLdA r8.2 11 r2.1) fun v9 => (some ((.tup [v9, (.b false)]), r8.2))))) (rB (vFa 1 r1.1) fun v10 => (rB (vLd1 h5 v10) fun v11 => (rB (vFa 2 r1.1) fun v12 => (rB (vLd1 h5 v12) fun v13 => (rB (vFa 3 r1.1) fun v14 => (rB (vLd1 h5 v14) fun v15 => (rB (vFa 4 r1.1) fun v16 => (rB (vLd1 h5 v16) fun v17 => (rB (vBld [(.i .i64 0), (.i .i64 0), (.i .i64 0), (.i .i64 0), (.i .i64 0), (.i .u32 0), (.i .i64 0), (.b false), (.b false), (.i .i64 0), (.i .u32 0)] [(0, 1, (.i .i64 9)), (1, 1, v11), (3, 1, v13), (4, 1, v15), (6, 1, v17)]) fun v18 => (rB (vFa 0 r1.1) fun v19 => (rB (vLd1 h5 v19) fun v20 => (rK (C 45 [v18, v20] h5) fun v21 h22 => (rB (vStore h22 11 r2.1 v21) fun r23 => (rB (vLdA r23.2 11 r2.1) fun v24 => (some ((.tup [v24, (.b true)]), r23.2))))))))))))))))))))))
theorem rp20 (C : Nat → List V → H → Rr) (k : Nat) : dn C k c20 (rQ20 C k) = fun e h => (rK20 C k (e 0) h) := by kernel_rfl
def F20 : RF := fun C k a h => match a with
  | [a0] => rK20 C k a0 h
  | _ => none
theorem ro20 : RunOK IP 20 F20 := ⟨ir20, ip20, by kernel_rfl, fun C k a h r e => by
  unfold F20 at e
  split at e
  · exact ⟨by kernel_rfl, (congrFun (congrFun (rp20 C k) _) h).trans e⟩
  · cases e⟩
theorem ip21 : IP 21 = some ir21 := rfl
def rQ21 (C : Nat → List V → H → Rr) (k : Nat) : X → E → H → Rr := Qrr rs21
def rK21 (C : Nat → List V → H → Rr) (k : Nat) (x0 : V) (h : H) : Rr := (rB (vBox x0 h) fun r1 => (rB (some (.p (some (H.nx r1.2, 0)), H.new r1.2 ⟨false, [(.i .u64 0), (.i .u64 0), (.i .u64 0)]⟩)) fun r2 => (rB (vLdA r2.2 11 r1.1) fun v3 => (rK (C 46 [v3] r2.2) fun v4 h5 => (rB (un .not v4) fun v6 => (rS v6 (rB (vBld [(.i .u64 0), (.i .u64 0), (.i .u64 0)] []) fun v7 => (rB (vStore h5 3 r2.1 v7) fun r8 => (rB (vLdA r8.2 3 r2.1) fun v9 => (some ((.tup [v9, (.b false)]), r8.2))))) (rB (vLdA h5 2 (.p (some (0, 0)))) fun v10 => (rB (vFa 0 r1.1) fun v11 => (rB (vLd1 h5 v11) fun v12 => (rB (vCvi .u64 v12) fun v13 => (rK (C 47 [v10, (.i .u64 0), v13] h5) fun v14 h15 => (rB (vLdA h15 2 (.p (some (1, 0)))) fun v16 => (rB (vFa 1 r1.1) fun v17 => (rB (vLd1 h15 v17) fun v18 => (rB (vCvi .u64 v18) fun v19 => (rK (C 47 [v16, v14, v19] h15) fun v20 h21 => (rB (vLdA h21 2 (.p (some (2, 0)))) fun v22 => (rB (vFa 2 r1.1) fun v23 => (rB (vLd1 h21 v23) fun v24 => (rB (vCvi .u64 v24) fun v25 => (rK (C 47 [v22, v20, v25] h21) fun v26 h27 => (rB (vLdA h27 2 (.p (some (3, 0)))) fun v28 => (rB (vFa 3 r1.1) fun v29 => (rB (vLd1 h27 v29) fun v30 => (rB (vCvi .u64 v30) fun v31 => (rK (C 47 [v28, v26, v31] h27) fun v32 h33 => (rB (vLdA h33 2 (.p (some (4, 0)))) fun v34 => (rB (vFa 6 r1.1) fun v35 => (rB (vLd1 h33 v35) fun v36 => (rB (vCvi .u64 v36) fun v37 => (rK (C 47 [v34, v32, v37] h33) fun v38 h39 => (rB (vLdA h39 2 (.p (some (5, 0)))) fun v40 => (rB (vFa 7 r1.1) fun v41 => (rB (vLd1 h39 v41) fun v42 => (rK (C 48 [v42] h39) fun v43 h44 => (rK (C 47 [v40, v38, v43] h44) fun v45 h46 => (rC (stdy true 2 (.p (some (5, 0))) h39 h44) (rB (vLdA h46 2 (.p (some (6, 0)))) fun v47 => (rB (vFa 8 r1.1) fun v48 => (rB (vLd1 h46 v48) fun v49 => (rK (C 48 [v49] h46) fun v50 h51 => (rK (C 47 [v47, v45, v50] h51) fun v52 h53 => (rC (stdy true 2 (.p (some (6, 0))) h46 h51) (rB (vLdA h53 2 (.p (some (7, 0)))) fun v54 => (rB (vFa 4 r1.1) fun v55 => (rB (vLd1 h53 v55) fun v56 => (rB (vCvi .u64 v56) fun v57 => (rK (C 47 [v54, v52, v57] h53) fun v58 h59 => (rB (vLdA h59 2 (.p (some (8, 0)))) fun v60 => (rB (vFa 5 r1.1) fun v61 => (rB (vLd1 h59 v61) fun v62 => (rB (vCvi .u64 v62) fun v63 => (rB (vFa 10 r1.1) fun v64 => (rB (vLd1 h59 v64) fun v65 => (rB (vCvi .u64 v65) fun v66 => (rK (C 47 [v60, v63, v66] h59) fun v67 h68 => (rB (vFa 9 r1.1) fun v69 => (rB (vLd1 h68 v69) fun v70 => (rB (vCvi .u64 v70) fun v71 => (rB (vBld [(.i .u64 0), (.i .u64 0), (.i .u64 0)] [(0, 1, v58), (1, 1, v67), (2, 1, v71)]) fun v72 => (rB (vStore h68 3 r2.1 v72) fun r73 => (rC (stdy false 1 v69 h59 h68) (rB (vLdA r73.2 3 r2.1) fun v74 => (some ((.tup [v74, (.b true)]), r73.2)))))))))))))))))))))))))))))))))))))))))))))))))))))))))))))))))
theorem rp21 (C : Nat → List V → H → Rr) (k : Nat) : dn C k c21 (rQ21 C k) = fun e h => (rK21 C k (e 0) h) := by kernel_rfl
def F21 : RF := fun C k a h => match a with
  | [a0] => rK21 C k a0 h
  | _ => none
theorem ro21 : RunOK IP 21 F21 := ⟨ir21, ip21, by kernel_rfl, fun C k a h r e => by
  unfold F21 at e
  split at e
  · exact ⟨by kernel_rfl, (congrFun (congrFun (rp21 C k) _) h).trans e⟩
  · cases e⟩
theorem ip22 : IP 22 = some ir22 := rfl
def rQ22 (C : Nat → List V → H → Rr) (k : Nat) : X → E → H → Rr := Qrr rs22
def rK22 (C : Nat → List V → H → Rr) (k : Nat) (x0 x1 : V) (h : H) : Rr := (rB (vBox x0 h) fun r1 => (rB (vBox x1 r1.2) fun r2 => (rB (some (.p (some (H.nx r2.2, 0)), H.new r2.2 ⟨false, [(.i .i64 0), (.i .i64 0), (.i .u64 0), (.i .u64 0), (.i .u64 0), (.i .u64 0), (.i .i64 0), (.b false), (.b false)]⟩)) fun r3 => (rB (vLdA r3.2 2 r1.1) fun v4 => (rB (vLdA r3.2 3 r2.1) fun v5 => (rB (vBld [(.i .i64 0), (.i .i64 0), (.i .u64 0), (.i .u64 0), (.i .u64 0), (.i .u64 0), (.i .i64 0), (.b false), (.b false)] [(0, 2, v4), (2, 3, v5)]) fun v6 => (rB (vStore r3.2 9 r3.1 v6) fun r7 => (rB (vLdA r7.2 9 r3.1) fun v8 => (some (v8, r7.2))))))))))
theorem rp22 (C : Nat → List V → H → Rr) (k : Nat) : dn C k c22 (rQ22 C k) = fun e h => (rK22 C k (e 0) (e 1) h) := by kernel_rfl
def F22 : RF := fun C k a h => match a with
  | [a0, a1] => rK22 C k a0 a1 h
  | _ => none
theorem ro22 : RunOK IP 22 F22 := ⟨ir22, ip22, by kernel_rfl, fun C k a h r e => by
  unfold F22 at e
  split at e
  · exact ⟨by kernel_rfl, (congrFun (congrFun (rp22 C k) _) h).trans e⟩
  · cases e⟩
theorem ip23 : IP 23 = some ir23 := rfl
def rQ23 (C : Nat → List V → H → Rr) (k : Nat) : X → E → H → Rr := Qrr rs23
def rQ23_1 (C : Nat → List V → H → Rr) (k : Nat) : X → E → H → Rr := (rQ23 C k)
def rK23_1 (C : Nat → List V → H → Rr) (k : Nat) (x2 x4 : V) (h : H) : Rr := (rB (vLdA h 9 x2) fun v1 => (rB (vStore h 9 x4 v1) fun r2 => (rB (vLdA r2.2 9 x4) fun v3 => (some (v3, r2.2)))))
def rJ23_1 (C : Nat → List V → H → Rr) (k : Nat) : E → H → Rr := fun e h => (rK23_1 C k (e 2) (e 4) h)
theorem rp23_1 (C : Nat → List V → H → Rr) (k : Nat) : dn C k c23_1 (rQ23_1 C k) = (rJ23_1 C k) := by kernel_rfl
def rK23 (C : Nat → List V → H → Rr) (k : Nat) (x0 x1 : V) (h : H) : Rr := (rB (vBox x0 h) fun r1 => (rB (some (.p (some (H.nx r1.2, 0)), H.new r1.2 ⟨false, [(.i .i64 0), (.i .i64 0), (.i .u64 0), (.i .u64 0), (.i .u64 0), (.i .u64 0), (.i .i64 0), (.b false), (.b false)]⟩)) fun r2 => (rB (vLdA r2.2 9 r1.1) fun v3 => (rK (C 24 [v3] r2.2) fun v4 h5 => (rB (vExt v4 0) fun v6 => (rB (vExt v4 1) fun v7 => (rS v7 (rB (vLdA h5 9 r1.1) fun v8 => (rB (vStore h5 9 r2.1 v8) fun r9 => (rB (vLdA r9.2 9 r2.1) fun v10 => (some (v10, r9.2))))) (rB (vFa 0 r1.1) fun v11 => (rB (vLdA h5 2 v11) fun v12 => (rK (C 39 [v12] h5) fun v13 h14 => (rB (un .not v13) fun v15 => (rS v15 (rB (vFa 8 r1.1) fun v16 => (rB (vStore h14 1 v16 (.b true)) fun r17 => (rB (vLdA r17.2 9 r1.1) fun v18 => (rB (vStore r17.2 9 r2.1 v18) fun r19 => (rB (vLdA r19.2 9 r2.1) fun v20 => (some (v20, r19.2))))))) (rB (vFa 6 r1.1) fun v21 => (rB (vLd1 h14 v21) fun v22 => (rB (bin .eql v22 (.i .i64 0)) fun v23 => (rS v23 (rB (vFa 0 r1.1) fun v24 => (rB (vLdA h14 2 v24) fun v25 => (rK (C 50 [v25] h14) fun v26 h27 => (rK (C 49 [x1, v26] h27) fun v28 h29 => (rB (vFa 5 r1.1) fun v30 => (rB (vStore h29 1 v30 v28) fun r31 => (rB (vFa 6 r1.1) fun v32 => (rB (vStore r31.2 1 v32 (.i .i64 1)) fun r33 => (rK23_1 C k r1.1 r2.1 r33.2))))))))) (rB (bin .eql v22 (.i .i64 1)) fun v34 => (rS v34 (rB (vLdA h14 9 r1.1) fun v35 => (rB (vFa 0 r1.1) fun v36 => (rB (vLdA h14 2 v36) fun v37 => (rB (vFa 5 r1.1) fun v38 => (rB (vLd1 h14 v38) fun v39 => (rK (C 52 [v37, v39] h14) fun v40 h41 => (rK (C 49 [x1, v40] h41) fun v42 h43 => (rK (C 51 [v35, v42] h43) fun v44 h45 => (rB (vStore h45 9 r1.1 v44) fun r46 => (rC (stdy true 9 r1.1 h14 h41) (rC (stdy true 9 r1.1 h41 h43) (rK23_1 C k r1.1 r2.1 r46.2)))))))))))) (rB (bin .eql v22 (.i .i64 2)) fun v47 => (rS v47 (rB (vFa 6 r1.1) fun v48 => (rB (vStore h14 1 v48 (.i .i64 0)) fun r49 => (rB (vFa 0 r1.1) fun v50 => (rB (vLdA r49.2 2 v50) fun v51 => (rK (C 50 [v51] r49.2) fun v52 h53 => (rB (vFa 5 r1.1) fun v54 => (rB (vLd1 h53 v54) fun v55 => (rB (vFa 5 r1.1) fun v56 => (rB (vLd1 h53 v56) fun v57 => (rB (bin .add v57 (.i .u64 1)) fun v58 => (rK (C 53 [x1, v52, v55, v58] h53) fun v59 h60 => (rC (stdy false 1 v54 r49.2 h53) (rC (stdy false 1 v56 r49.2 h53) (rS v59 (rB (vFa 6 r1.1) fun v61 => (rB (vStore h60 1 v61 (.i .i64 3)) fun r62 => (rK23_1 C k r1.1 r2.1 r62.2))) (rK23_1 C k r1.1 r2.1 h60))))))))))))))) (rB (bin .eql v22 (.i .i64 6)) fun v63 => (rS v63 (rB (vFa 0 r1.1) fun v64 => (rB (vLdA h14 2 v64) fun v65 => (rB (vFa 5 r1.1) fun v66 => (rB (vLd1 h14 v66) fun v67 => (rK (C 52 [v65, v67] h14) fun v68 h69 => (rB (vFa 5 r1.1) fun v70 => (rB (vLd1 h69 v70) fun v71 => (rB (bin .add v71 (.i .u64 1)) fun v72 => (rK (C 42 [x1, v68, v72] h69) fun v73 h74 => (rC (stdy false 1 v70 h14 h69) (rB (vFa 6 r1.1) fun v75 => (rB (vStore h74 1 v75 (.i .i64 7)) fun r76 => (rK23_1 C k r1.1 r2.1 r76.2))))))))))))) (rB (vFa 6 r1.1) fun v77 => (rB (vLd1 h14 v77) fun v78 => (rB (bin .sub v78 (.i .i64 3)) fun v79 => (rB (vFa 0 r1.1) fun v80 => (rB (vLdA h14 2 v80) fun v81 => (rB (vFa 5 r1.1) fun v82 => (rB (vLd1 h14 v82) fun v83 => (rK (C 54 [v81, v83, v79] h14) fun v84 h85 => (rB (vFa 2 r1.1) fun v86 => (rB (vIaa 1 3 v86 v79) fun v87 => (rB (vLd1 h85 v87) fun v88 => (rK (C 42 [x1, v84, v88] h85) fun v89 h90 => (rC (stdy false 1 v87 h14 h85) (rB (vFa 6 r1.1) fun v91 => (rB (vLd1 h90 v91) fun v92 => (rB (bin .add v92 (.i .i64 1)) fun v93 => (rB (vFa 6 r1.1) fun v94 => (rB (vStore h90 1 v94 v93) fun r95 => (rK23_1 C k r1.1 r2.1 r95.2)))))))))))))))))))))))))))))))))))))))))
theorem rp23 (C : Nat → List V → H → Rr) (k : Nat) : dn C k c23 (rQ23 C k) = fun e h => (rK23 C k (e 0) (e 1) h) := by
  refine Eq.trans (rseq_eq (rseq_eq (rseq_eq (rseq_eq (rp23_1 C k) rfl) rfl) rfl) rfl) ?_
  kernel_rfl
def F23 : RF := fun C k a h => match a with
  | [a0, a1] => rK23 C k a0 a1 h
  | _ => none
theorem ro23 : RunOK IP 23 F23 := ⟨ir23, ip23, by kernel_rfl, fun C k a h r e => by
  unfold F23 at e
  split at e
  · exact ⟨by kernel_rfl, (congrFun (congrFun (rp23 C k) _) h).trans e⟩
  · cases e⟩
theorem ip24 : IP 24 = some ir24 := rfl
def rQ24 (C : Nat → List V → H → Rr) (k : Nat) : X → E → H → Rr := Qrr rs24
def rK24 (C : Nat → List V → H → Rr) (k : Nat) (x0 : V) (h : H) : Rr := (rB (vBox x0 h) fun r1 => (rB (vFa 8 r1.1) fun v2 => (rB (vLd1 r1.2 v2) fun v3 => (rS v3 (some ((.tup [(.i .i64 3), (.b true)]), r1.2)) (rB (vFa 6 r1.1) fun v4 => (rB (vLd1 r1.2 v4) fun v5 => (rB (bin .eql v5 (.i .i64 7)) fun v6 => (rS v6 (some ((.tup [(.i .i64 0), (.b true)]), r1.2)) (some ((.tup [(.i .i64 0), (.b false)]), r1.2))))))))))
theorem rp24 (C : Nat → List V → H → Rr) (k : Nat) : dn C k c24 (rQ24 C k) = fun e h => (rK24 C k (e 0) h) := by kernel_rfl
def F24 : RF := fun C k a h => match a with
  | [a0] => rK24 C k a0 h
  | _ => none
theorem ro24 : RunOK IP 24 F24 := ⟨ir24, ip24, by kernel_rfl, fun C k a h r e => by
  unfold F24 at e
  split at e
  · exact ⟨by kernel_rfl, (congrFun (congrFun (rp24 C k) _) h).trans e⟩
  · cases e⟩
theorem ip25 : IP 25 = some ir25 := rfl
def rQ25 (C : Nat → List V → H → Rr) (k : Nat) : X → E → H → Rr := Qrr rs25
def rK25 (C : Nat → List V → H → Rr) (k : Nat) (x0 : V) (h : H) : Rr := (rB (vEqz true .p x0 (.p none)) fun v1 => (rS v1 (rB (vNilc x0) fun v2 => (rB (vFa 1 v2) fun v3 => (rB (vStore h 1 v3 V.nsl) fun r4 => (some ((.tup []), r4.2))))) (some ((.tup []), h))))
theorem rp25 (C : Nat → List V → H → Rr) (k : Nat) : dn C k c25 (rQ25 C k) = fun e h => (rK25 C k (e 0) h) := by kernel_rfl
def F25 : RF := fun C k a h => match a with
  | [a0] => rK25 C k a0 h
  | _ => none
theorem ro25 : RunOK IP 25 F25 := ⟨ir25, ip25, by kernel_rfl, fun C k a h r e => by
  unfold F25 at e
  split at e
  · exact ⟨by kernel_rfl, (congrFun (congrFun (rp25 C k) _) h).trans e⟩
  · cases e⟩
theorem ip26 : IP 26 = some ir26 := rfl
def rQ26 (C : Nat → List V → H → Rr) (k : Nat) : X → E → H → Rr := Qrr rs26
def rK26 (C : Nat → List V → H → Rr) (k : Nat) (x0 x1 : V) (h : H) : Rr := (rB (vBox x0 h) fun r1 => (rB (some (.p (some (H.nx r1.2, 0)), H.new r1.2 ⟨false, [(.i .i64 0), (.i .i64 0), (.i .u64 0), (.i .u64 0), (.i .u64 0), (.i .u64 0), (.i .i64 0), (.b false)]⟩)) fun r2 => (rB (vLdA r2.2 2 r1.1) fun v3 => (rB (vBld [(.i .i64 0), (.i .i64 0), (.i .u64 0), (.i .u64 0), (.i .u64 0), (.i .u64 0), (.i .i64 0), (.b false)] [(0, 2, v3), (2, 1, x1)]) fun v4 => (rB (vStore r2.2 8 r2.1 v4) fun r5 => (rB (vLdA r5.2 8 r2.1) fun v6 => (some (v6, r5.2))))))))
theorem rp26 (C : Nat → List V → H → Rr) (k : Nat) : dn C k c26 (rQ26 C k) = fun e h => (rK26 C k (e 0) (e 1) h) := by kernel_rfl
def F26 : RF := fun C k a h => match a with
  | [a0, a1] => rK26 C k a0 a1 h
  | _ => none
theorem ro26 : RunOK IP 26 F26 := ⟨ir26, ip26, by kernel_rfl, fun C k a h r e => by
  unfold F26 at e
  split at e
  · exact ⟨by kernel_rfl, (congrFun (congrFun (rp26 C k) _) h).trans e⟩
  · cases e⟩
theorem ip27 : IP 27 = some ir27 := rfl
def rQ27 (C : Nat → List V → H → Rr) (k : Nat) : X → E → H → Rr := Qrr rs27
def rQ27_1 (C : Nat → List V → H → Rr) (k : Nat) : X → E → H → Rr := (rQ27 C k)
def rK27_1 (C : Nat → List V → H → Rr) (k : Nat) (x2 x4 : V) (h : H) : Rr := (rB (vLdA h 8 x2) fun v1 => (rB (vStore h 8 x4 v1) fun r2 => (rB (vLdA r2.2 8 x4) fun v3 => (some (v3, r2.2)))))
def rJ27_1 (C : Nat → List V → H → Rr) (k : Nat) : E → H → Rr := fun e h => (rK27_1 C k (e 2) (e 4) h)
theorem rp27_1 (C : Nat → List V → H → Rr) (k : Nat) : dn C k c27_1 (rQ27_1 C k) = (rJ27_1 C k) := by kernel_rfl
def rK27 (C : Nat → List V → H → Rr) (k : Nat) (x0 x1 : V) (h : H) : Rr := (rB (vBox x0 h) fun r1 => (rB (some (.p (some (H.nx r1.2, 0)), H.new r1.2 ⟨false, [(.i .i64 0), (.i .i64 0), (.i .u64 0), (.i .u64 0), (.i .u64 0), (.i .u64 0), (.i .i64 0), (.b false)]⟩)) fun r2 => (rB (vLdA r2.2 8 r1.1) fun v3 => (rK (C 28 [v3] r2.2) fun v4 h5 => (rB (vExt v4 0) fun v6 => (rB (vExt v4 1) fun v7 => (rS v7 (rB (vLdA h5 8 r1.1) fun v8 => (rB (vStore h5 8 r2.1 v8) fun r9 => (rB (vLdA r9.2 8 r2.1) fun v10 => (some (v10, r9.2))))) (rB (vFa 0 r1.1) fun v11 => (rB (vLdA h5 2 v11) fun v12 => (rK (C 39 [v12] h5) fun v13 h14 => (rB (un .not v13) fun v15 => (rS v15 (rB (vFa 7 r1.1) fun v16 => (rB (vStore h14 1 v16 (.b true)) fun r17 => (rB (vLdA r17.2 8 r1.1) fun v18 => (rB (vStore r17.2 8 r2.1 v18) fun r19 => (rB (vLdA r19.2 8 r2.1) fun v20 => (some (v20, r19.2))))))) (rB (vFa 6 r1.1) fun v21 => (rB (vLd1 h14 v21) fun v22 => (rB (bin .eql v22 (.i .i64 0)) fun v23 => (rS v23 (rB (vFa 0 r1.1) fun v24 => (rB (vLdA h14 2 v24) fun v25 => (rB (vFa 2 r1.1) fun v26 => (rB (vLd1 h14 v26) fun v27 => (rK (C 52 [v25, v27] h14) fun v28 h29 => (rK (C 49 [x1, v28] h29) fun v30 h31 => (rB (vFa 2 r1.1) fun v32 => (rB (vLd1 h31 v32) fun v33 => (rB (bin .add v33 (.i .u64 1)) fun v34 => (rB (bin .eql v30 v34) fun v35 => (rC (stdy false 1 v32 h14 h29) (rC (stdy false 1 v32 h29 h31) (rS v35 (rB (vFa 6 r1.1) fun v36 => (rB (vStore h31 1 v36 (.i .i64 1)) fun r37 => (rK27_1 C k r1.1 r2.1 r37.2))) (rB (vFa 7 r1.1) fun v38 => (rB (vStore h31 1 v38 (.b true)) fun r39 => (rK27_1 C k r1.1 r2.1 r39.2)))))))))))))))) (rB (bin .eql v22 (.i .i64 4)) fun v40 => (rS v40 (rB (vFa 0 r1.1) fun v41 => (rB (vLdA h14 2 v41) fun v42 => (rB (vFa 2 r1.1) fun v43 => (rB (vLd1 h14 v43) fun v44 => (rK (C 52 [v42, v44] h14) fun v45 h46 => (rB (vFa 2 r1.1) fun v47 => (rB (vLd1 h46 v47) fun v48 => (rB (vFa 0 r1.1) fun v49 => (rB (vFa 1 v49) fun v50 => (rB (vLd1 h46 v50) fun v51 => (rB (vCvi .u64 v51) fun v52 => (rB (bin .add v48 v52) fun v53 => (rK (C 42 [x1, v45, v53] h46) fun v54 h55 => (rC (stdy false 1 v47 h14 h46) (rC (stdy false 1 v50 h14 h46) (rB (vFa 6 r1.1) fun v56 => (rB (vStore h55 1 v56 (.i .i64 5)) fun r57 => (rK27_1 C k r1.1 r2.1 r57.2)))))))))))))))))) (rB (vFa 6 r1.1) fun v58 => (rB (vLd1 h14 v58) fun v59 => (rB (bin .sub v59 (.i .i64 1)) fun v60 => (rB (vFa 0 r1.1) fun v61 => (rB (vLdA h14 2 v61) fun v62 => (rB (vFa 2 r1.1) fun v63 => (rB (vLd1 h14 v63) fun v64 => (rK (C 54 [v62, v64, v60] h14) fun v65 h66 => (rK (C 49 [x1, v65] h66) fun v67 h68 => (rB (vFa 3 r1.1) fun v69 => (rB (vIaa 1 3 v69 v60) fun v70 => (rB (vStore h68 1 v70 v67) fun r71 => (rB (vFa 6 r1.1) fun v72 => (rB (vLd1 r71.2 v72) fun v73 => (rB (bin .add v73 (.i .i64 1)) fun v74 => (rB (vFa 6 r1.1) fun v75 => (rB (vStore r71.2 1 v75 v74) fun r76 => (rK27_1 C k r1.1 r2.1 r76.2))))))))))))))))))))))))))))))))))))
theorem rp27 (C : Nat → List V → H → Rr) (k : Nat) : dn C k c27 (rQ27 C k) = fun e h => (rK27 C k (e 0) (e 1) h) := by
  refine Eq.trans (rseq_eq (rseq_eq (rseq_eq (rseq_eq (rp27_1 C k) rfl) rfl) rfl) rfl) ?_
  kernel_rfl
def F27 : RF := fun C k a h => match a with
  | [a0, a1] => rK27 C k a0 a1 h
  | _ => none
theorem ro27 : RunOK IP 27 F27 := ⟨ir27, ip27, by kernel_rfl, fun C k a h r e => by
  unfold F27 at e
  split at e
  · exact ⟨by kernel_rfl, (congrFun (congrFun (rp27 C k) _) h).trans e⟩
  · cases e⟩
theorem ip28 : IP 28 = some ir28 := rfl
def rQ28 (C : Nat → List V → H → Rr) (k : Nat) : X → E → H → Rr := Qrr rs28
def rK28 (C : Nat → List V → H → Rr) (k : Nat) (x0 : V) (h : H) : Rr := (rB (vBox x0 h) fun r1 => (rB (vFa 7 r1.1) fun v2 => (rB (vLd1 r1.2 v2) fun v3 => (rS v3 (some ((.tup [(.i .i64 4), (.b true)]), r1.2)) (rB (vFa 6 r1.1) fun v4 => (rB (vLd1 r1.2 v4) fun v5 => (rB (bin .eql v5 (.i .i64 5)) fun v6 => (rS v6 (some ((.tup [(.i .i64 0), (.b true)]), r1.2)) (some ((.tup [(.i .i64 0), (.b false)]), r1.2))))))))))
theorem rp28 (C : Nat → List V → H → Rr) (k : Nat) : dn C k c28 (rQ28 C k) = fun e h => (rK28 C k (e 0) h) := by kernel_rfl
def F28 : RF := fun C k a h => match a with
  | [a0] => rK28 C k a0 h
  | _ => none
theorem ro28 : RunOK IP 28 F28 := ⟨ir28, ip28, by kernel_rfl, fun C k a h r e => by
  unfold F28 at e
  split at e
  · exact ⟨by kernel_rfl, (congrFun (congrFun (rp28 C k) _) h).trans e⟩
  · cases e⟩
theorem ip29 : IP 29 = some ir29 := rfl
def rQ29 (C : Nat → List V → H → Rr) (k : Nat) : X → E → H → Rr := Qrr rs29
def rQ29_1 (C : Nat → List V → H → Rr) (k : Nat) : X → E → H → Rr := (rQ29 C k)
def rK29_1 (C : Nat → List V → H → Rr) (k : Nat) (x2 x5 : V) (h : H) : Rr := (rB (vLdA h 11 x5) fun v1 => (rB (vStore h 11 x2 v1) fun r2 => (rB (vLdA r2.2 11 x2) fun v3 => (some ((.tup [v3, (.i .i64 0)]), r2.2)))))
def rJ29_1 (C : Nat → List V → H → Rr) (k : Nat) : E → H → Rr := fun e h => (rK29_1 C k (e 2) (e 5) h)
theorem rp29_1 (C : Nat → List V → H → Rr) (k : Nat) : dn C k c29_1 (rQ29_1 C k) = (rJ29_1 C k) := by kernel_rfl
def rQ29_2 (C : Nat → List V → H → Rr) (k : Nat) : X → E → H → Rr := (Qxr (rJ29_1 C k) (rQ29 C k))
def rK29_2 (C : Nat → List V → H → Rr) (k : Nat) (x2 x5 x105 : V) (h : H) : Rr := (rS x105 (rB (vBld [(.i .i64 0), (.i .i64 0), (.i .i64 0), (.i .i64 0), (.i .i64 0), (.i .u32 0), (.i .i64 0), (.b false), (.b false), (.i .i64 0), (.i .u32 0)] []) fun v1 => (rB (vStore h 11 x2 v1) fun r2 => (rB (vLdA r2.2 11 x2) fun v3 => (some ((.tup [v3, (.i .i64 2)]), r2.2))))) (rK29_1 C k x2 x5 h))
def rJ29_2 (C : Nat → List V → H → Rr) (k : Nat) : E → H → Rr := fun e h => (rK29_2 C k (e 2) (e 5) (e 105) h)
theorem rp29_2 (C : Nat → List V → H → Rr) (k : Nat) : dn C k c29_2 (rQ29_2 C k) = (rJ29_2 C k) := by kernel_rfl
def rS29_8 (C : Nat → List V → H → Rr) (k : Nat) : E → H → Rr := ((Qxr (rJ29_2 C k) (Qxr (rJ29_1 C k) (rQ29 C k))) X.normal)
def rK29_8 (C : Nat → List V → H → Rr) (k : Nat) (x2 x5 x101 x104 : V) (h : H) : Rr := (rB (vPick x101 (.b true) x104) fun v1 => (rK29_2 C k x2 x5 v1 h))
def rJ29_8 (C : Nat → List V → H → Rr) (k : Nat) : E → H → Rr := fun e h => (rK29_8 C k (e 2) (e 5) (e 101) (e 104) h)
theorem rp29_8 (C : Nat → List V → H → Rr) (k : Nat) : dnOps C o29_3 (rS29_8 C k) = (rJ29_8 C k) := by
  refine Eq.trans (rapp_eq rfl rfl) ?_
  kernel_rfl
def rS29_9 (C : Nat → List V → H → Rr) (k : Nat) : E → H → Rr := ((Qxr (rJ29_2 C k) (Qxr (rJ29_1 C k) (rQ29 C k))) X.normal)
def rK29_9 (C : Nat → List V → H → Rr) (k : Nat) (x2 x5 x93 x99 : V) (h : H) : Rr := (rB (vPick x93 (.b true) x99) fun v1 => (rG v1 false (rB (vLdA h 11 x5) fun v2 => (rK (C 46 [v2] h) fun v3 h4 => (rB (un .not v3) fun v5 => (rK29_8 C k x2 x5 v1 v5 h4)))) (rK29_8 C k x2 x5 v1 undefV h)))
def rJ29_9 (C : Nat → List V → H → Rr) (k : Nat) : E → H → Rr := fun e h => (rK29_9 C k (e 2) (e 5) (e 93) (e 99) h)
theorem rp29_9 (C : Nat → List V → H → Rr) (k : Nat) : dnOps C o29_5 (rS29_9 C k) = (rJ29_9 C k) := by
  refine Eq.trans (rapp_eq (rgrp_eq2 101 false rfl (rp29_8 C k) rfl) rfl) ?_
  kernel_rfl
def rK29 (C : Nat → List V → H → Rr) (k : Nat) (x0 : V) (h : H) : Rr := (rB (vBox x0 h) fun r1 => (rB (some (.p (some (H.nx r1.2, 0)), H.new r1.2 ⟨false, [(.i .i64 0), (.i .i64 0), (.i .i64 0), (.i .i64 0), (.i .i64 0), (.i .u32 0), (.i .i64 0), (.b false), (.b false), (.i .i64 0), (.i .u32 0)]⟩)) fun r2 => (rB (vLdA r2.2 2 (.p (some (5, 0)))) fun v3 => (rB (vIaa 1 3 r1.1 (.i .i64 0)) fun v4 => (rB (vLd1 r2.2 v4) fun v5 => (rK (rV C (.fn 55 []) [v3, v5] r2.2) fun v6 h7 => (rB (bin .eql v6 (.i .u64 1)) fun v8 => (rB (vLdA h7 2 (.p (some (6, 0)))) fun v9 => (rB (vIaa 1 3 r1.1 (.i .i64 0)) fun v10 => (rB (vLd1 h7 v10) fun v11 => (rK (rV C (.fn 55 []) [v9, v11] h7) fun v12 h13 => (rB (bin .eql v12 (.i .u64 1)) fun v14 => (rB (vLdA h13 2 (.p (some (9, 0)))) fun v15 => (rB (vIaa 1 3 r1.1 (.i .i64 1)) fun v16 => (rB (vLd1 h13 v16) fun v17 => (rK (rV C (.fn 55 []) [v15, v17] h13) fun v18 h19 => (rB (vCvi .u32 v18) fun v20 => (rB (vLdA h19 2 (.p (some (8, 0)))) fun v21 => (rB (vIaa 1 3 r1.1 (.i .i64 1)) fun v22 => (rB (vLd1 h19 v22) fun v23 => (rK (rV C (.fn 55 []) [v21, v23] h19) fun v24 h25 => (rB (vCvi .u32 v24) fun v26 => (rB (vBld [(.i .i64 0), (.i .i64 0), (.i .i64 0), (.i .i64 0), (.i .i64 0), (.i .u32 0), (.i .i64 0), (.b false), (.b false), (.i .i64 0), (.i .u32 0)] [(7, 1, v8), (8, 1, v14), (5, 1, v20), (10, 1, v26)]) fun v27 => (rB (some (.p (some (H.nx h25, 0)), H.new h25 ⟨false, [(.i .i64 0), (.i .i64 0), (.i .i64 0), (.i .i64 0), (.i .i64 0), (.i .u32 0), (.i .i64 0), (.b false), (.b false), (.i .i64 0), (.i .u32 0)]⟩)) fun r28 => (rB (vStore r28.2 11 r28.1 v27) fun r29 => (rC (stdy true 2 (.p (some (6, 0))) r2.2 h7) (rC (stdy false 1 v10 r2.2 h7) (rC (stdy true 2 (.p (some (9, 0))) r2.2 h7) (rC (stdy true 2 (.p (some (9, 0))) h7 h13) (rC (stdy false 1 v16 r2.2 h7) (rC (stdy false 1 v16 h7 h13) (rC (stdy true 2 (.p (some (8, 0))) r2.2 h7) (rC (stdy true 2 (.p (some (8, 0))) h7 h13) (rC (stdy true 2 (.p (some (8, 0))) h13 h19) (rC (stdy false 1 v22 r2.2 h7) (rC (stdy false 1 v22 h7 h13) (rC (stdy false 1 v22 h13 h19) (rB (vLdA r29.2 2 (.p (some (0, 0)))) fun v30 => (rB (vIaa 1 3 r1.1 (.i .i64 0)) fun v31 => (rB (vLd1 r29.2 v31) fun v32 => (rK (rV C (.fn 55 []) [v30, v32] r29.2) fun v33 h34 => (rB (vCvi .i64 v33) fun v35 => (rB (vLdA h34 2 (.p (some (1, 0)))) fun v36 => (rB (vIaa 1 3 r1.1 (.i .i64 0)) fun v37 => (rB (vLd1 h34 v37) fun v38 => (rK (rV C (.fn 55 []) [v36, v38] h34) fun v39 h40 => (rB (vCvi .i64 v39) fun v41 => (rB (vLdA h40 2 (.p (some (2, 0)))) fun v42 => (rB (vIaa 1 3 r1.1 (.i .i64 0)) fun v43 => (rB (vLd1 h40 v43) fun v44 => (rK (rV C (.fn 55 []) [v42, v44] h40) fun v45 h46 => (rB (vCvi .i64 v45) fun v47 => (rB (vFa 0 r28.1) fun v48 => (rB (vStore h46 1 v48 v35) fun r49 => (rB (vFa 1 r28.1) fun v50 => (rB (vStore r49.2 1 v50 v41) fun r51 => (rB (vFa 2 r28.1) fun v52 => (rB (vStore r51.2 1 v52 v47) fun r53 => (rC (stdy true 2 (.p (some (1, 0))) r29.2 h34) (rC (stdy false 1 v37 r29.2 h34) (rC (stdy true 2 (.p (some (2, 0))) r29.2 h34) (rC (stdy true 2 (.p (some (2, 0))) h34 h40) (rC (stdy false 1 v43 r29.2 h34) (rC (stdy false 1 v43 h34 h40) (rB (vLdA r53.2 2 (.p (some (3, 0)))) fun v54 => (rB (vIaa 1 3 r1.1 (.i .i64 0)) fun v55 => (rB (vLd1 r53.2 v55) fun v56 => (rK (rV C (.fn 55 []) [v54, v56] r53.2) fun v57 h58 => (rB (vCvi .i64 v57) fun v59 => (rB (vLdA h58 2 (.p (some (4, 0)))) fun v60 => (rB (vIaa 1 3 r1.1 (.i .i64 0)) fun v61 => (rB (vLd1 h58 v61) fun v62 => (rK (rV C (.fn 55 []) [v60, v62] h58) fun v63 h64 => (rB (vCvi .i64 v63) fun v65 => (rB (vLdA h64 2 (.p (some (7, 0)))) fun v66 => (rB (vIaa 1 3 r1.1 (.i .i64 0)) fun v67 => (rB (vLd1 h64 v67) fun v68 => (rK (rV C (.fn 55 []) [v66, v68] h64) fun v69 h70 => (rB (vCvi .i64 v69) fun v71 => (rB (vFa 3 r28.1) fun v72 => (rB (vStore h70 1 v72 v59) fun r73 => (rB (vFa 6 r28.1) fun v74 => (rB (vStore r73.2 1 v74 v65) fun r75 => (rB (vFa 4 r28.1) fun v76 => (rB (vStore r75.2 1 v76 v71) fun r77 => (rC (stdy true 2 (.p (some (4, 0))) r53.2 h58) (rC (stdy false 1 v61 r53.2 h58) (rC (stdy true 2 (.p (some (7, 0))) r53.2 h58) (rC (stdy true 2 (.p (some (7, 0))) h58 h64) (rC (stdy false 1 v67 r53.2 h58) (rC (stdy false 1 v67 h58 h64) (rB (vLdA r77.2 2 (.p (some (10, 0)))) fun v78 => (rB (vIaa 1 3 r1.1 (.i .i64 2)) fun v79 => (rB (vLd1 r77.2 v79) fun v80 => (rK (rV C (.fn 55 []) [v78, v80] r77.2) fun v81 h82 => (rB (vCvi .i64 v81) fun v83 => (rB (vFa 9 r28.1) fun v84 => (rB (vStore h82 1 v84 v83) fun r85 => (rB (vIaa 1 3 r1.1 (.i .i64 0)) fun v86 => (rB (vLd1 r85.2 v86) fun v87 => (rB (vLdA r85.2 2 (.p (some (0, 0)))) fun v88 => (rB (vLdA r85.2 2 (.p (some (1, 0)))) fun v89 => (rB (vLdA r85.2 2 (.p (some (2, 0)))) fun v90 => (rB (vLdA r85.2 2 (.p (some (3, 0)))) fun v91 => (rB (vLdA r85.2 2 (.p (some (4, 0)))) fun v92 => (rB (vLdA r85.2 2 (.p (some (5, 0)))) fun v93 => (rB (vLdA r85.2 2 (.p (some (6, 0)))) fun v94 => (rB (vLdA r85.2 2 (.p (some (7, 0)))) fun v95 => (rB (vNewSl 8 [(.i .i64 0), (.i .i64 0), (.i .i64 0), (.i .i64 0), (.i .i64 0), (.i .i64 0), (.i .i64 0), (.i .i64 0), (.i .i64 0), (.i .i64 0), (.i .i64 0), (.i .i64 0), (.i .i64 0), (.i .i64 0), (.i .i64 0), (.i .i64 0)] [(0, 2, v88), (2, 2, v89), (4, 2, v90), (6, 2, v91), (8, 2, v92), (10, 2, v93), (12, 2, v94), (14, 2, v95)] r85.2) fun r96 => (rK (C 56 [v87, r96.1] r96.2) fun v97 h98 => (rB (bin .neq v97 (.i .u64 0)) fun v99 => (rG v99 false (rB (vIaa 1 3 r1.1 (.i .i64 2)) fun v100 => (rB (vLd1 h98 v100) fun v101 => (rB (vLdA h98 2 (.p (some (10, 0)))) fun v102 => (rB (vNewSl 1 [(.i .i64 0), (.i .i64 0)] [(0, 2, v102)] h98) fun r103 => (rK (C 56 [v101, r103.1] r103.2) fun v104 h105 => (rB (bin .neq v104 (.i .u64 0)) fun v106 => (rK29_9 C k r2.1 r28.1 v99 v106 h105))))))) (rK29_9 C k r2.1 r28.1 v99 undefV h98)))))))))))))))))))))))))))))))))))))))))))))))))))))))))))))))))))))))))))))))))))))))))))))))))))))))))))))))))
theorem rp29 (C : Nat → List V → H → Rr) (k : Nat) : dn C k c29 (rQ29 C k) = fun e h => (rK29 C k (e 0) h) := by
  refine Eq.trans (rseq_eq (rseq_eq (rseq_eq (rseq_eq (rseq_eq (rseq_eq (rseq_eq (rp29_1 C k) (rseq_eq (rp29_2 C k) (rregion_eq (rapp_eq (rgrp_eq2 93 false rfl (rp29_9 C k) rfl) rfl)))) rfl) rfl) rfl) rfl) rfl) rfl) ?_
  kernel_rfl
def F29 : RF := fun C k a h => match a with
  | [a0] => rK29 C k a0 h
  | _ => none
theorem ro29 : RunOK IP 29 F29 := ⟨ir29, ip29, by kernel_rfl, fun C k a h r e => by
  unfold F29 at e
  split at e
  · exact ⟨by kernel_rfl, (congrFun (congrFun (rp29 C k) _) h).trans e⟩
  · cases e⟩
theorem ip30 : IP 30 = some ir30 := rfl
def rQ30 (C : Nat → List V → H → Rr) (k : Nat) : X → E → H → Rr := Qrr rs30
def rK30 (C : Nat → List V → H → Rr) (k : Nat) (x0 : V) (h : H) : Rr := (rB (vBox x0 h) fun r1 => (rB (some (.p (some (H.nx r1.2, 0)), H.new r1.2 ⟨false, [(.i .u64 0), (.i .u64 0), (.i .u64 0)]⟩)) fun r2 => (rB (vFa 6 r1.1) fun v3 => (rB (vLd1 r2.2 v3) fun v4 => (rB (bin .neq v4 (.i .i64 5)) fun v5 => (rS v5 (rB (vBld [(.i .u64 0), (.i .u64 0), (.i .u64 0)] []) fun v6 => (rB (vStore r2.2 3 r2.1 v6) fun r7 => (rB (vLdA r7.2 3 r2.1) fun v8 => (some (v8, r7.2))))) (rB (vFa 3 r1.1) fun v9 => (rB (vLdA r2.2 3 v9) fun v10 => (rB (vStore r2.2 3 r2.1 v10) fun r11 => (rB (vLdA r11.2 3 r2.1) fun v12 => (some (v12, r11.2))))))))))))
theorem rp30 (C : Nat → List V → H → Rr) (k : Nat) : dn C k c30 (rQ30 C k) = fun e h => (rK30 C k (e 0) h) := by kernel_rfl
def F30 : RF := fun C k a h => match a with
  | [a0] => rK30 C k a0 h
  | _ => none
theorem ro30 : RunOK IP 30 F30 := ⟨ir30, ip30, by kernel_rfl, fun C k a h r e => by
  unfold F30 at e
  split at e
  · exact ⟨by kernel_rfl, (congrFun (congrFun (rp30 C k) _) h).trans e⟩
  · cases e⟩
theorem ip31 : IP 31 = some ir31 := rfl
def rQ31 (C : Nat → List V → H → Rr) (k : Nat) : X → E → H → Rr := Qrr rs31
def rK31 (C : Nat → List V → H → Rr) (k : Nat) (x0 : V) (h : H) : Rr := (rB (vEqz false .p x0 (.p none)) fun v1 => (rS v1 (some ((.i .i64 0), h)) (rB (vNilc x0) fun v2 => (rB (vFa 51 v2) fun v3 => (rB (vLd1 h v3) fun v4 => (some (v4, h)))))))
theorem rp31 (C : Nat → List V → H → Rr) (k : Nat) : dn C k c31 (rQ31 C k) = fun e h => (rK31 C k (e 0) h) := by kernel_rfl
def F31 : RF := fun C k a h => match a with
  | [a0] => rK31 C k a0 h
  | _ => none
theorem ro31 : RunOK IP 31 F31 := ⟨ir31, ip31, by kernel_rfl, fun C k a h r e => by
  unfold F31 at e
  split at e
  · exact ⟨by kernel_rfl, (congrFun (congrFun (rp31 C k) _) h).trans e⟩
  · cases e⟩
theorem ip32 : IP 32 = some ir32 := rfl
def rQ32 (C : Nat → List V → H → Rr) (k : Nat) : X → E → H → Rr := Qrr rs32
def rR32_1 (C : Nat → List V → H → Rr) (k : Nat) : X → E → H → Rr := (Qbr 0 (rQ32 C k))
def rQ32_1 (C : Nat → List V → H → Rr) (k : Nat) (g32_1 : V → H → Rr) : X → E → H → Rr := Qxr (fun e h => g32_1 (e 0) h) (rR32_1 C k)
def rQ32_2 (C : Nat → List V → H → Rr) (k : Nat) (g32_1 : V → H → Rr) : X → E → H → Rr := (Qbr 1 (rQ32_1 C k g32_1))
def rK32_2 (C : Nat → List V → H → Rr) (k : Nat) (g32_1 : V → H → Rr) (x0 x4 : V) (h : H) : Rr := (rB (vNilc x0) fun v1 => (rB (vFa 6 v1) fun v2 => (rB (vLd1 h v2) fun v3 => (rB (vFa 1 x4) fun v4 => (rB (vLd1 h v4) fun v5 => (rB (vIa 1 v3 v5) fun v6 => (rB (vLd1 h v6) fun v7 => (rB (some (.fn 60 [x4])) fun v8 => (rK (C 59 [v7, v8] h) fun v9 h10 => (rB (vNilc x0) fun v11 => (rB (vFa 6 v11) fun v12 => (rB (vLd1 h10 v12) fun v13 => (rB (vFa 1 x4) fun v14 => (rB (vLd1 h10 v14) fun v15 => (rB (vLdA h10 5 x4) fun v16 => (rB (vNewSl 1 [(.i .i64 0), (.i .i64 0), (.i .i64 0), (.i .i64 0), (.i .i64 0)] [(0, 5, v16)] h10) fun r17 => (rB (vApp 5 40 v9 r17.1 r17.2) fun r18 => (rB (vIa 1 v13 v15) fun v19 => (rB (vStore r18.2 1 v19 r18.1) fun r20 => (rC (stdy false 1 v12 r17.2 r18.2) (rC (stdy false 1 v14 r17.2 r18.2) (g32_1 x0 r20.2))))))))))))))))))))))
def rJ32_2 (C : Nat → List V → H → Rr) (k : Nat) (g32_1 : V → H → Rr) : E → H → Rr := fun e h => (rK32_2 C k g32_1 (e 0) (e 4) h)
theorem rp32_2 (C : Nat → List V → H → Rr) (k : Nat) (g32_1 : V → H → Rr) : dn C k c32_2 (rQ32_2 C k g32_1) = (rJ32_2 C k g32_1) := by kernel_rfl
def rQ32_3 (C : Nat → List V → H → Rr) (k : Nat) (g32_1 : V → H → Rr) : X → E → H → Rr := (Qxr (rJ32_2 C k g32_1) (Qbr 1 (rQ32_1 C k g32_1)))
def rK32_3 (C : Nat → List V → H → Rr) (k : Nat) (g32_1 : V → H → Rr) (x0 x4 x35 : V) (h : H) : Rr := (rS x35 (g32_1 x0 h) (rK32_2 C k g32_1 x0 x4 h))
def rJ32_3 (C : Nat → List V → H → Rr) (k : Nat) (g32_1 : V → H → Rr) : E → H → Rr := fun e h => (rK32_3 C k g32_1 (e 0) (e 4) (e 35) h)
theorem rp32_3 (C : Nat → List V → H → Rr) (k : Nat) (g32_1 : V → H → Rr) : dn C k c32_3 (rQ32_3 C k g32_1) = (rJ32_3 C k g32_1) := by kernel_rfl
def rS32_7 (C : Nat → List V → H → Rr) (k : Nat) (g32_1 : V → H → Rr) : E → H → Rr := ((Qxr (rJ32_3 C k g32_1) (Qxr (rJ32_2 C k g32_1) (Qbr 1 (rQ32_1 C k g32_1)))) X.normal)
def rK32_7 (C : Nat → List V → H → Rr) (k : Nat) (g32_1 : V → H → Rr) (x0 x4 x26 x34 : V) (h : H) : Rr := (rB (vPick x26 (.b true) x34) fun v1 => (rK32_3 C k g32_1 x0 x4 v1 h))
def rJ32_7 (C : Nat → List V → H → Rr) (k : Nat) (g32_1 : V → H → Rr) : E → H → Rr := fun e h => (rK32_7 C k g32_1 (e 0) (e 4) (e 26) (e 34) h)
theorem rp32_7 (C : Nat → List V → H → Rr) (k : Nat) (g32_1 : V → H → Rr) : dnOps C o32_4 (rS32_7 C k g32_1) = (rJ32_7 C k g32_1) := by
  refine Eq.trans (rapp_eq rfl rfl) ?_
  kernel_rfl
def rL32_1 (C : Nat → List V → H → Rr) (k : Nat) (g32_1 : V → H → Rr) (x0 : V) (h : H) : Rr := (rB (vNilc x0) fun v1 => (rB (vFa 3 v1) fun v2 => (rB (vLd1 h v2) fun v3 => (rK (C 58 [v3] h) fun v4 h5 => (rB (vExt v4 0) fun v6 => (rB (vExt v4 1) fun v7 => (rB (some (.p (some (H.nx h5, 0)), H.new h5 ⟨false, [(.i .i64 0), (.i .i64 0), (.i .i64 0), (.i .i64 0), (.i .i64 0)]⟩)) fun r8 => (rB (vStore r8.2 5 r8.1 v6) fun r9 => (rB (un .not v7) fun v10 => (rS v10 (some ((.tup []), r9.2)) (rB (vFa 1 r8.1) fun v11 => (rB (vLd1 r9.2 v11) fun v12 => (rB (bin .lss v12 (.i .i64 0)) fun v13 => (rG v13 false (rB (vFa 1 r8.1) fun v14 => (rB (vLd1 r9.2 v14) fun v15 => (rB (vNilc x0) fun v16 => (rB (vFa 6 v16) fun v17 => (rB (vLd1 r9.2 v17) fun v18 => (rB (vLens v18) fun v19 => (rB (bin .geq v15 v19) fun v20 => (rK32_7 C k g32_1 x0 r8.1 v13 v20 r9.2)))))))) (rK32_7 C k g32_1 x0 r8.1 v13 undefV r9.2)))))))))))))))
theorem rp32_1 (C : Nat → List V → H → Rr) (k : Nat) (g32_1 : V → H → Rr) : dn C k c32_1 (rQ32_1 C k g32_1) = fun e h => (rL32_1 C k g32_1 (e 0) h) := by
  refine Eq.trans (rblock_eq (rseq_eq (rseq_eq (rseq_eq (rp32_2 C k g32_1) (rseq_eq (rp32_3 C k g32_1) (rdraw0_eq (rapp_eq (rgrp_eq2 26 false rfl (rp32_7 C k g32_1) rfl) rfl)))) rfl) rfl)) ?_
  kernel_rfl
def rW32_1 (C : Nat → List V → H → Rr) (k : Nat) (x0 : V) (h : H) : Rr := rFix k (fun (g : V × Unit → H → Rr) (x : V × Unit) h => rL32_1 C k (fun y0 h => g (y0, ()) h) x.1 h) (x0, ()) h
theorem rn32_1 (C : Nat → List V → H → Rr) (k : Nat) : ∀ g : V × Unit → H → Rr, dn C k c32_1 (Qxr (fun e h => g ((fun e : E => ((e 0, ()) : V × Unit)) e) h) (rR32_1 C k)) = fun e h => (fun (g : V × Unit → H → Rr) (x : V × Unit) h => rL32_1 C k (fun y0 h => g (y0, ()) h) x.1 h) g ((fun e : E => ((e 0, ()) : V × Unit)) e) h := fun g => rp32_1 C k (fun y0 h => g (y0, ()) h)
theorem rw32_1 (C : Nat → List V → H → Rr) (k : Nat) : dn C k (.loop c32_1) (rR32_1 C k) = fun e h => (rW32_1 C k (e 0) h) := rloop_eq (fun e : E => ((e 0, ()) : V × Unit)) (fun (g : V × Unit → H → Rr) (x : V × Unit) h => rL32_1 C k (fun y0 h => g (y0, ()) h) x.1 h) (rn32_1 C k)
def rK32 (C : Nat → List V → H → Rr) (k : Nat) (x0 x1 : V) (h : H) : Rr := (rB (vNilc x0) fun v1 => (rB (vFa 3 v1) fun v2 => (rB (vLd1 h v2) fun v3 => (rK (C 57 [v3, x1] h) fun v4 h5 => (rW32_1 C k x0 h5)))))
theorem rp32 (C : Nat → List V → H → Rr) (k : Nat) : dn C k c32 (rQ32 C k) = fun e h => (rK32 C k (e 0) (e 1) h) := by
  refine Eq.trans (rseq_eq (rblock_eq (rw32_1 C k)) rfl) ?_
  kernel_rfl
def F32 : RF := fun C k a h => match a with
  | [a0, a1] => rK32 C k a0 a1 h
  | _ => none
theorem ro32 : RunOK IP 32 F32 := ⟨ir32, ip32, by kernel_rfl, fun C k a h r e => by
  unfold F32 at e
  split at e
  · exact ⟨by kernel_rfl, (congrFun (congrFun (rp32 C k) _) h).trans e⟩
  · cases e⟩
end Go.Proofs.YtbbencnhecokiaaDoor.IrClockNone
